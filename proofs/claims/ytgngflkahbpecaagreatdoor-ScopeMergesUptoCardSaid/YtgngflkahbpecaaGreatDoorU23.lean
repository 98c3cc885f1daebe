/- What the row says of the program, as the kernel sees it. Conditions: none beyond those that each theorem names. -/
import Derived.Test.YtgngflkahbpecaaGreatDoorRows
import Derived.JoinedOf
namespace Go.Proofs.YtgngflkahbpecaaGreatDoor
open Go
set_option maxRecDepth 100000
theorem merges_named : Tryz.pinned.checked.prog.funcNamed Rows.scopeMergesUptoRow.func = some 8 := by kernel_rfl
theorem merges_func : Tryz.pinned.checked.prog.funcs[8]? = some Tryz.f8 := by kernel_rfl
theorem merges_facts : joinedFacts Tryz.pinned.checked.prog 8 Tryz.f8 (Rows.OpenSpec.upto Rows.scopeMergesSpec).bare Rows.scopeMergesUptoRow = true := by kernel_rfl
theorem merges_inst : Tryz.f8.isInstance Tryz.pinned.checked.prog Rows.scopeMergesUptoRow.origin Rows.scopeMergesUptoRow.targs := of_decide_eq_true (by kernel_rfl)
end Go.Proofs.YtgngflkahbpecaaGreatDoor
