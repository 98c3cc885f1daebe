/- The row ScopeMergeTwiceSaid. Conditions: none beyond those that each theorem names. -/
import Derived.Test.YtgngflkahbpecaaGreatDoorM21
import Derived.Test.YtgngflkahbpecaaGreatDoorM22
namespace Go.Proofs.YtgngflkahbpecaaGreatDoor
open Go Go.Ab
set_option maxRecDepth 100000
theorem twice_row : Rows.ScopeMergeTwiceSaid :=
  OpenClaim.holds_of_wide 9 Tryz.f9 rfl rfl rfl rfl rfl rfl rfl ⟨rfl, rfl, rfl, rfl, rfl⟩ rfl rfl rfl rfl rfl twice_named twice_func twice_facts
    twice_inst (by unfold Func.isWrapper; rw [if_neg (of_decide_eq_false (by kernel_rfl))]; exact ⟨rfl, rfl⟩)
    (fun os started H enc _ => twice_lifted os started H enc)
end Go.Proofs.YtgngflkahbpecaaGreatDoor
