/- What the row says of the program, as the kernel sees it. Conditions: none beyond those that each theorem names. -/
import Derived.Test.YtgngflkahbpecaaGreatDoorRows
import Derived.JoinedOf
namespace Go.Proofs.YtgngflkahbpecaaGreatDoor
open Go
set_option maxRecDepth 100000
theorem andI {a b : Bool} (h : a = true) (k : b = true) : (a && b) = true := by rw [h, k]; rfl
theorem merges_named : Tryz.pinned.checked.prog.funcNamed Rows.scopeMergesUptoRow.func = some 8 := by kernel_rfl
theorem merges_func : Tryz.pinned.checked.prog.funcs[8]? = some Tryz.f8 := by kernel_rfl
theorem merges_f10 : (Rows.scopeMergesUptoRow.inPlace == Tryz.pinned.checked.prog.inPlace 8) = true := by kernel_rfl
theorem merges_f11 : (Rows.scopeMergesUptoRow.unfollowed == Tryz.pinned.checked.prog.unfollowed 8) = true := by kernel_rfl
theorem merges_f12 : (Rows.scopeMergesUptoRow.recurses == Tryz.pinned.checked.prog.recurses 8) = true := by kernel_rfl
theorem merges_f13 : (Rows.scopeMergesUptoRow.named == Tryz.pinned.checked.prog.varsNamed 8) = true := by kernel_rfl
theorem merges_facts : joinedFacts Tryz.pinned.checked.prog 8 Tryz.f8 (Rows.OpenSpec.upto Rows.scopeMergesSpec).bare Rows.scopeMergesUptoRow = true := by
  unfold joinedFacts
  refine andI (andI (andI (andI (andI (andI (andI (andI (andI (andI (andI (andI (andI (andI (andI (andI (andI (andI (andI (andI (andI (andI (andI (andI (andI (andI (andI (andI (andI (andI (andI ?_ ?_) ?_) ?_) ?_) ?_) ?_) ?_) ?_) ?_) ?_) ?_) ?_) ?_) ?_) ?_) ?_) ?_) ?_) ?_) ?_) ?_) ?_) ?_) ?_) ?_) ?_) ?_) ?_) ?_) ?_) ?_
  rotate_left 9
  exact merges_f10
  exact merges_f11
  exact merges_f12
  exact merges_f13
  all_goals kernel_rfl
theorem merges_inst : Tryz.f8.isInstance Tryz.pinned.checked.prog Rows.scopeMergesUptoRow.origin Rows.scopeMergesUptoRow.targs := of_decide_eq_true (by kernel_rfl)
end Go.Proofs.YtgngflkahbpecaaGreatDoor
