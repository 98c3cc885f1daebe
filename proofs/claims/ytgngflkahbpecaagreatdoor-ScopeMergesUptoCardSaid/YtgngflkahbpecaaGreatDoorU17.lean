/- What runs closed. Conditions: none beyond those that each theorem names. -/
import Derived.Test.YtgngflkahbpecaaGreatDoorU16
import Derived.Test.YtgngflkahbpecaaGreatDoorU15
namespace Go.Ab
open Go
set_option linter.unusedVariables false
def ydNat (f : Nat) : Option (FL ydE) := match f with
  | 237 => some (flCnt ydE)
  | 175 => some (flIdx ydE)
  | 155 => some (flAny ydE)
  | _ => none
theorem ydNat_ok : ∀ f S, ydNat f = some S → MeetsL ydT Go.Proofs.Tryz.prog f S := by
  intro f S h
  unfold ydNat at h
  split at h
  · cases h; exact flCnt_ok ⟨Go.Proofs.Tryz.f237, by kernel_rfl, by kernel_rfl, by kernel_rfl⟩ Go.Proofs.Tryz.strings_Count_one
  · cases h; exact flIdx_ok ⟨Go.Proofs.Tryz.f175, by kernel_rfl, by kernel_rfl, by kernel_rfl⟩ Go.Proofs.Tryz.stringslite_IndexByte
  · cases h; exact flAny_ok ⟨Go.Proofs.Tryz.f155, by kernel_rfl, by kernel_rfl, by kernel_rfl⟩ Go.Proofs.Tryz.strings_IndexAny_short
  · cases h
theorem ydKnown_meets : MeetsT ydT ydTi ydEqs Go.Proofs.Tryz.prog 13 ⟨[], [.bool], [], [], Bool, fun _ => some true, fun r => (r, ())⟩ :=
  closed_bool (T := ydT) (ti := ydTi) (eqs := ydEqs) (P := Go.Proofs.Tryz.prog) ydBase (lv := ydLive) (nat := ydNat) ydNat_ok (n := 50) (f := 13) (b := true) (by kernel_rfl)
end Go.Ab
