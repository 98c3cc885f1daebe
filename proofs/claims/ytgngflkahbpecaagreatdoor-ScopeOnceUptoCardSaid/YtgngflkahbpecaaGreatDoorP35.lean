/- The heap that the door's own run leaves meets what the row lists. Conditions: none beyond those that each theorem names. -/
import Derived.Test.YtgngflkahbpecaaGreatDoorRows
import Derived.LaidMore
import Derived.ProofKit
import Derived.Stop.Joined
set_option linter.unusedSimpArgs false
set_option linter.unusedVariables false
namespace Go.Proofs.YtgngflkahbpecaaGreatDoor
open Go
set_option maxRecDepth 100000
noncomputable abbrev Cbj:List (String×DataW Unit):=[("math/bits.deBruijn32tab",Rows.laid_math_bits_deBruijn32tab),("math/bits.deBruijn64tab",Rows.laid_math_bits_deBruijn64tab),("internal/strconv.uint64pow10",Rows.laid_internal_strconv_uint64pow10),("unicode/utf8.acceptRanges",Rows.laid_unicode_utf8_acceptRanges),("strconv.ErrRange",Rows.laid_strconv_ErrRange),("strconv.ErrSyntax",Rows.laid_strconv_ErrSyntax),("unicode/utf8.first",Rows.laid_unicode_utf8_first)]
noncomputable def B2c (os:Os):World:=
 let w0:=World.doorLaid Tryz.prog 72 os
 {w0 with heap:=w0.heap.modify 1 fun
  | .cells _ t frozen=> .cells (Go.Pinned.utf8FirstZ.map λ n=>Value.int .u8 (Int.ofNat n)).toArray t frozen
  |o=>o}
theorem B4f (os:Os) (args:Array Value):laidMetH Tryz.prog Cbj ((B2c os).forCall (λ _ _=>0) ⟨#[],args,[]⟩).memory:=
 laidMetH_of_parts3 (fuel:=8) (laidMet_of_run' 8 (by kernel_rfl) (by kernel_rfl)) (by kernel_rfl) (by kernel_rfl)
end Go.Proofs.YtgngflkahbpecaaGreatDoor
