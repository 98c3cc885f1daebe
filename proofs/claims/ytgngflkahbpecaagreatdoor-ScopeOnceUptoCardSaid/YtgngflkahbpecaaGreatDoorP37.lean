/- What the row says of the program, as the kernel sees it. Conditions: none beyond those that each theorem names. -/
import Derived.Test.YtgngflkahbpecaaGreatDoorRows
import Derived.JoinedOf
set_option linter.unusedSimpArgs false
set_option linter.unusedVariables false
namespace Go.Proofs.YtgngflkahbpecaaGreatDoor
open Go
set_option maxRecDepth 100000
theorem T1 {a b:Bool} (h:a=true) (k:b=true):(a&&b)=true:=by rw[h,k];rfl
theorem Ba6:Tryz.pinned.checked.prog.funcNamed Rows.scopeOnceUptoRow.func=some 5:=by kernel_rfl
theorem Biu:Tryz.pinned.checked.prog.funcs[5]?=some Tryz.f5:=by kernel_rfl
theorem B2p:(Rows.scopeOnceUptoRow.inPlace==Tryz.pinned.checked.prog.inPlace 5)=true:=by kernel_rfl
theorem B4x:(Rows.scopeOnceUptoRow.unfollowed==Tryz.pinned.checked.prog.unfollowed 5)=true:=by kernel_rfl
theorem B4c:(Rows.scopeOnceUptoRow.recurses==Tryz.pinned.checked.prog.recurses 5)=true:=by kernel_rfl
theorem B22:(Rows.scopeOnceUptoRow.named==Tryz.pinned.checked.prog.varsNamed 5)=true:=by kernel_rfl
theorem Bub:joinedFacts Tryz.pinned.checked.prog 5 Tryz.f5 (Rows.OpenSpec.upto Rows.scopeOnceSpec).bare Rows.scopeOnceUptoRow=true:=by
 unfold joinedFacts
 refine T1 (T1 (T1 (T1 (T1 (T1 (T1 (T1 (T1 (T1 (T1 (T1 (T1 (T1 (T1 (T1 (T1 (T1 (T1 (T1 (T1 (T1 (T1 (T1 (T1 (T1 (T1 (T1 (T1 (T1 (T1 ?_ ?_) ?_) ?_) ?_) ?_) ?_) ?_) ?_) ?_) ?_) ?_) ?_) ?_) ?_) ?_) ?_) ?_) ?_) ?_) ?_) ?_) ?_) ?_) ?_) ?_) ?_) ?_) ?_) ?_) ?_) ?_
 rotate_left 9
 exact B2p
 exact B4x
 exact B4c
 exact B22
 all_goals kernel_rfl
theorem Bzx:Tryz.f5.isInstance Tryz.pinned.checked.prog Rows.scopeOnceUptoRow.origin Rows.scopeOnceUptoRow.targs:=of_decide_eq_true (by kernel_rfl)
end Go.Proofs.YtgngflkahbpecaaGreatDoor
