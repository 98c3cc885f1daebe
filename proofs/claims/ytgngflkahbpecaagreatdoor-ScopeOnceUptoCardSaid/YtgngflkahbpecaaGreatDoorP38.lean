/- What the card says of the program, as the kernel sees it. Conditions: none beyond those that each theorem names. -/
import Derived.Test.YtgngflkahbpecaaGreatDoorRows
import Derived.JoinedOf
import Derived.SevenTiedAt
set_option linter.unusedSimpArgs false
set_option linter.unusedVariables false
namespace Go.Proofs.YtgngflkahbpecaaGreatDoor
open Go
set_option maxRecDepth 100000
theorem B5k:Rows.scopeOnceUptoRow.wfByText (Rows.OpenSpec.upto Rows.scopeOnceSpec)=true:=by kernel_rfl
theorem Byt:Tryz.pinned.checked.prog.mainIs=some (true, "be6398a3ffe098286a8a0a6802ae66aa40d5f87da0777a8e18d3398d973392ac".toList):=by kernel_rfl
theorem Bvb:true=Tryz.pinned.checked.prog.looks []:=by kernel_rfl
theorem Bz2:false=Rows.scopeOnceUptoRow.goesBy Tryz.pinned.checked.prog:=by kernel_rfl
theorem Bmh:Tryz.pinned.checked.prog.wantsStandIn 22=false:=by kernel_rfl
theorem Bpb:Tryz.pinned.checked.prog.wantsStandIn 9=false:=by kernel_rfl
theorem Bp4:Tryz.f5.params= #[22,9]:=by kernel_rfl
end Go.Proofs.YtgngflkahbpecaaGreatDoor
