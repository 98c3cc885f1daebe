/- For all lists: what is put over a list twice is put over it once, and an empty list changes nothing: the tied card ScopeMergeTwiceCardSaid. Conditions: none beyond those that each theorem names. -/
import Derived.Test.YtgngflkahbpecaaGreatDoorM24
import Derived.Test.YtgngflkahbpecaaGreatDoorM23
import Derived.Test.YtgngflkahbpecaaGreatDoorTie
import Derived.Test.YtgngflkahbpecaaGreatDoorCards
import Derived.SevenTiedAt
namespace Go.Proofs.YtgngflkahbpecaaGreatDoor
open Go Go.Ab
set_option maxRecDepth 100000
theorem twice_holds : Rows.ScopeMergeTwiceCardSaid :=
  Claim7.holds_tied_plain_at .later [] [.data, .data, .data, .data, .sentinel, .sentinel, .pinned] true (true, "be6398a3ffe098286a8a0a6802ae66aa40d5f87da0777a8e18d3398d973392ac") true
    twice_row (fun _ h => by cases h) twice_wf (fun _ h => by cases h) scopeMergeTwice_row_tie rfl ⟨rfl, rfl⟩ twice_main rfl
    (fun f fn hf hfn => by
      obtain rfl : f = 9 := Option.some.inj (twice_named.symm.trans hf) |>.symm
      obtain rfl : fn = Tryz.f9 := (Option.some.inj (twice_func.symm.trans hfn)).symm
      refine ⟨twice_looks, fun j t ht => ?_⟩
      rw [twice_params] at ht
      have h54 : t = 54 := by
        rcases j with _ | _ | j
        · simpa using ht.symm
        · simpa using ht.symm
        · simp at ht
      subst h54
      exact twice_stand)
    twice_goes
end Go.Proofs.YtgngflkahbpecaaGreatDoor
