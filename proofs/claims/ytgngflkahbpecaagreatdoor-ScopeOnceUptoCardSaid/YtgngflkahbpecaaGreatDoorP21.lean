/- What runs closed. Conditions: none beyond those that each theorem names. -/
import Derived.Test.YtgngflkahbpecaaGreatDoorP19
import Derived.Test.YtgngflkahbpecaaGreatDoorP16
import Derived.Test.YtgngflkahbpecaaGreatDoorP15
set_option linter.unusedSimpArgs false
namespace Go.Ab
open Go
set_option linter.unusedVariables false
def B25 (f:Nat):Option (FL yeE):=match f with
 |237=>some (B02 yeE)
 |175=>some (B34 yeE)
 |155=>some (B1e yeE)
 |_=>none
theorem B09:∀f S,B25 f=some S->Mb yeT Go.Proofs.Tryz.prog f S:=by
 intro f S h
 unfold B25 at h
 split at h
 ·cases h;exact B1u ⟨Go.Proofs.Tryz.f237,by kernel_rfl,by kernel_rfl,by kernel_rfl⟩ Go.Proofs.Tryz.strings_Count_one
 ·cases h;exact B4g ⟨Go.Proofs.Tryz.f175,by kernel_rfl,by kernel_rfl,by kernel_rfl⟩ Go.Proofs.Tryz.stringslite_IndexByte
 ·cases h;exact B0r ⟨Go.Proofs.Tryz.f155,by kernel_rfl,by kernel_rfl,by kernel_rfl⟩ Go.Proofs.Tryz.strings_IndexAny_short
 ·cases h
theorem Bhc:Ue yeT Bhi Aue Go.Proofs.Tryz.prog 13 ⟨[],[.bool],[],[],Bool,λ _=>some true,λ r=>(r,())⟩:=
 Bpv (T:=yeT) (ti:=Bhi) (eqs:=Aue) (P:=Go.Proofs.Tryz.prog) Btw (lv:=Cau) (nat:=B25) B09 (n:=50) (f:=13) (b:=true) (by kernel_rfl)
end Go.Ab
