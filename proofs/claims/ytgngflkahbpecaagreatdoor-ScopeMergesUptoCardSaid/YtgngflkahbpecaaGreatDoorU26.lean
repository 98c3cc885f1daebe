/- For all lists: where what is read is of bulk at most 1048576, modifiers put over others are what the document says: the second form's tied card ScopeMergesUptoCardSaid. Conditions: none beyond those that each theorem names. -/
import Derived.Test.YtgngflkahbpecaaGreatDoorU25
import Derived.Test.YtgngflkahbpecaaGreatDoorU24
import Derived.Test.YtgngflkahbpecaaGreatDoorTie
import Derived.Test.YtgngflkahbpecaaGreatDoorCards
import Derived.SevenTiedAt
namespace Go.Proofs.YtgngflkahbpecaaGreatDoor
open Go Go.Ab
set_option maxRecDepth 100000
theorem merges_holds : Rows.ScopeMergesUptoCardSaid :=
  Claim7.holds_tied_plain_at .later [] [.data, .data, .data, .data, .sentinel, .sentinel, .pinned] true (true, "be6398a3ffe098286a8a0a6802ae66aa40d5f87da0777a8e18d3398d973392ac") true
    merges_row (fun _ h => by cases h) merges_wf (fun _ h => by cases h) scopeMergesUpto_row_tie rfl ⟨rfl, rfl⟩ merges_main rfl
    (fun f fn hf hfn => by
      obtain rfl : f = 8 := Option.some.inj (merges_named.symm.trans hf) |>.symm
      obtain rfl : fn = Tryz.f8 := (Option.some.inj (merges_func.symm.trans hfn)).symm
      refine ⟨merges_looks, fun j t ht => ?_⟩
      rw [merges_params] at ht
      have h54 : t = 54 := by
        rcases j with _ | _ | j
        · simpa using ht.symm
        · simpa using ht.symm
        · simp at ht
      subst h54
      exact merges_stand)
    merges_goes
end Go.Proofs.YtgngflkahbpecaaGreatDoor
