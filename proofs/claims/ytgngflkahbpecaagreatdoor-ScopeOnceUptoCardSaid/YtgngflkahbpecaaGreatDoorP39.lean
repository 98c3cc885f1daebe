/- The row ScopeOnceUptoSaid. Conditions: none beyond those that each theorem names. -/
import Derived.Test.YtgngflkahbpecaaGreatDoorP36
import Derived.Test.YtgngflkahbpecaaGreatDoorP37
set_option linter.unusedSimpArgs false
set_option linter.unusedVariables false
namespace Go.Proofs.YtgngflkahbpecaaGreatDoor
open Go Go.Ab
set_option maxRecDepth 100000
theorem B0s:Rows.ScopeOnceUptoSaid:=
 OpenClaim.holds_of_cond 5 Tryz.f5 rfl rfl rfl rfl rfl rfl rfl ⟨rfl,rfl,rfl,rfl,rfl⟩ rfl rfl rfl rfl rfl Ba6 Biu Bub
  Bzx (by unfold Func.isWrapper;rw[if_neg (of_decide_eq_false (by kernel_rfl))];exact⟨rfl,rfl⟩)
  (λ os started H enc _ F=>by rw[OpenClaim.pre_eq_preRow];exact Bq3 os started H enc F)
end Go.Proofs.YtgngflkahbpecaaGreatDoor
