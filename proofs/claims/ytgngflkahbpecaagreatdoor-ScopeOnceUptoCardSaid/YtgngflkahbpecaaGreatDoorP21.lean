/- What runs closed. Conditions: none beyond those that each theorem names. -/
import Derived.Test.YtgngflkahbpecaaGreatDoorP19
import Derived.Test.YtgngflkahbpecaaGreatDoorP16
import Derived.Test.YtgngflkahbpecaaGreatDoorP15
import Derived.Test.YtgngflkahbpecaaGreatDoorP20
namespace Go.Ab
open Go
set_option linter.unusedVariables false
def B0v (f:Nat):Option (FL yeE):=match f with
 |237=>some (B2l yeE)
 |175=>some (B4e yeE)
 |155=>some (B3d yeE)
 |_=>none
theorem B4n:∀f S,B0v f=some S->L7 yeT Go.Proofs.Tryz.prog f S:=by
 intro f S h
 unfold B0v at h
 split at h
 ·cases h;exact B18 ⟨Go.Proofs.Tryz.f237,by kernel_rfl,by kernel_rfl,by kernel_rfl⟩ Go.Proofs.Tryz.strings_Count_one
 ·cases h;exact B4w ⟨Go.Proofs.Tryz.f175,by kernel_rfl,by kernel_rfl,by kernel_rfl⟩ Go.Proofs.Tryz.stringslite_IndexByte
 ·cases h;exact B2c ⟨Go.Proofs.Tryz.f155,by kernel_rfl,by kernel_rfl,by kernel_rfl⟩ Go.Proofs.Tryz.strings_IndexAny_short
 ·cases h
theorem Bhe:Ub yeT Bg6 At6 Go.Proofs.Tryz.prog 13 ⟨[],[.bool],[],[],Bool,λ _=>some true,λ r=>(r,())⟩:=
 Brm (T:=yeT) (ti:=Bg6) (eqs:=At6) (P:=Go.Proofs.Tryz.prog) Btw (lv:=B91) (nat:=B0v) B4n (n:=50) (f:=13) (b:=true) (by kernel_rfl)
end Go.Ab
