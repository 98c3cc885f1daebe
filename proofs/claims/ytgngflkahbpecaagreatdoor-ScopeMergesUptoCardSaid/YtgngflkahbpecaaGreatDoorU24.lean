/- What the card says of the program, as the kernel sees it. Conditions: none beyond those that each theorem names. -/
import Derived.Test.YtgngflkahbpecaaGreatDoorRows
import Derived.JoinedOf
import Derived.SevenTiedAt
namespace Go.Proofs.YtgngflkahbpecaaGreatDoor
open Go
set_option maxRecDepth 100000
theorem merges_wf : Rows.scopeMergesUptoRow.wfByText (Rows.OpenSpec.upto Rows.scopeMergesSpec) = true := by kernel_rfl
theorem merges_main : Tryz.pinned.checked.prog.mainIs = some (true, "be6398a3ffe098286a8a0a6802ae66aa40d5f87da0777a8e18d3398d973392ac".toList) := by kernel_rfl
theorem merges_looks : true = Tryz.pinned.checked.prog.looks [] := by kernel_rfl
theorem merges_goes : false = Rows.scopeMergesUptoRow.goesBy Tryz.pinned.checked.prog := by kernel_rfl
theorem merges_stand : Tryz.pinned.checked.prog.wantsStandIn 54 = false := by kernel_rfl
theorem merges_params : Tryz.f8.params = #[54, 54] := by kernel_rfl
end Go.Proofs.YtgngflkahbpecaaGreatDoor
