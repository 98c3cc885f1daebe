/- For all lists: where what is read is of bulk at most 1048576, a whole class extends nothing, is whole as it is where it stands in the place of its class, and a class may stand where it stands itself: the second form's tied card ScopeOnceUptoCardSaid. Conditions: none beyond those that each theorem names. -/
import Derived.Test.YtgngflkahbpecaaGreatDoorP39
import Derived.Test.YtgngflkahbpecaaGreatDoorP38
import Derived.Test.YtgngflkahbpecaaGreatDoorTie
import Derived.Test.YtgngflkahbpecaaGreatDoorCards
import Derived.SevenTiedAt
set_option linter.unusedSimpArgs false
set_option linter.unusedVariables false
namespace Go.Proofs.YtgngflkahbpecaaGreatDoor
open Go Go.Ab
set_option maxRecDepth 100000
theorem once_holds:Rows.ScopeOnceUptoCardSaid:=
 Claim7.holds_tied_plain_at .later [] [.data,.data,.data,.data,.sentinel,.sentinel,.pinned] true (true, "be6398a3ffe098286a8a0a6802ae66aa40d5f87da0777a8e18d3398d973392ac") true
  B0s (λ _ h=>by cases h) B5k (λ _ h=>by cases h) scopeOnceUpto_row_tie rfl ⟨rfl,rfl⟩ Byt rfl
  (λ f fn hf hfn=>by
   obtain rfl:f=5:=Option.some.inj (Ba6.symm.trans hf)|>.symm
   obtain rfl:fn=Tryz.f5:=(Option.some.inj (Biu.symm.trans hfn)).symm
   refine⟨Bvb,λ j t ht=> ?_⟩
   rw[Bp4]at ht
   rcases j with _|_|j
   ·have:t=22:=by simpa using ht.symm
    subst this;exact Bmh
   ·have:t=9:=by simpa using ht.symm
    subst this;exact Bpb
   ·simp at ht)
  Bz2
end Go.Proofs.YtgngflkahbpecaaGreatDoor
