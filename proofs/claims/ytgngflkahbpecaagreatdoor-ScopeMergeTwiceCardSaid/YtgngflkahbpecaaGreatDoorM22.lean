/- What the row says of the program, as the kernel sees it. Conditions: none beyond those that each theorem names. -/
import Derived.Test.YtgngflkahbpecaaGreatDoorRows
import Derived.JoinedOf
namespace Go.Proofs.YtgngflkahbpecaaGreatDoor
open Go
set_option maxRecDepth 100000
theorem twice_named : Tryz.pinned.checked.prog.funcNamed Rows.scopeMergeTwiceRow.func = some 9 := by kernel_rfl
theorem twice_func : Tryz.pinned.checked.prog.funcs[9]? = some Tryz.f9 := by kernel_rfl
theorem twice_facts : joinedFacts Tryz.pinned.checked.prog 9 Tryz.f9 Rows.scopeMergeTwiceSpec Rows.scopeMergeTwiceRow = true := by kernel_rfl
theorem twice_inst : Tryz.f9.isInstance Tryz.pinned.checked.prog Rows.scopeMergeTwiceRow.origin Rows.scopeMergeTwiceRow.targs := of_decide_eq_true (by kernel_rfl)
end Go.Proofs.YtgngflkahbpecaaGreatDoor
