/-
  DERIVED. GIVEN WITH THE SEED: THE CARDS: each row of YtgngflkahbpecaaGreatDoorRows.lean that lists a variable, with what it lists TIED to the program's text (the seventh form; the later family's looks); each row that meets fmt, with fmt's text TOLD by the authors' own Lean function (tested against real Go, not proved from fmt's source: count such statements apart). THE CARD IS WHAT COUNTS. Prove the row's statement (the work); the ties are given (YtgngflkahbpecaaGreatDoorTie.lean); close each card by the builder's one call (the guide's Derived/Test/ToyasCard.lean, 'card_holds'). Laid BY PROGRAM, IN A SANDBOX (cutbox-door.mjs). By AI agents, Wed Nov 11 2026. No macro, syntax, notation, axiom, sorry.
-/
import Derived.Test.YtgngflkahbpecaaGreatDoorRows
import GoSem.ClaimSeven
namespace Go.Proofs.YtgngflkahbpecaaGreatDoor
namespace Rows

/-- THE TIED CARD OF 'isoclinelaw09.ScopeWholes'. -/
def scopeWholesCard : Claim7 := { stood := { row := scopeWholesRow, standIns := [], harness := (true, "be6398a3ffe098286a8a0a6802ae66aa40d5f87da0777a8e18d3398d973392ac"), looks := true }, kinds := [], alts := [], laidByText := true, laidKinds := [.data, .data, .data, .data, .sentinel, .sentinel, .pinned], laidTests := true, laidLooks := .later }
def ScopeWholesCardSaid : Prop := Claim7.holds Tryz.pinned (.plain (OpenSpec.ofChange scopeWholesSpec)) scopeWholesCard

/-- THE TIED CARD OF 'isoclinelaw09.ScopeFits'. -/
def scopeFitsCard : Claim7 := { stood := { row := scopeFitsRow, standIns := [], harness := (true, "be6398a3ffe098286a8a0a6802ae66aa40d5f87da0777a8e18d3398d973392ac"), looks := true }, kinds := [], alts := [], laidByText := true, laidKinds := [.data, .data, .data, .data, .sentinel, .sentinel, .pinned], laidTests := true, laidLooks := .later }
def ScopeFitsCardSaid : Prop := Claim7.holds Tryz.pinned (.plain (OpenSpec.ofChange scopeFitsSpec)) scopeFitsCard

/-- THE TIED CARD OF 'isoclinelaw09.ScopeOnce'. -/
def scopeOnceCard : Claim7 := { stood := { row := scopeOnceRow, standIns := [], harness := (true, "be6398a3ffe098286a8a0a6802ae66aa40d5f87da0777a8e18d3398d973392ac"), looks := true }, kinds := [], alts := [], laidByText := true, laidKinds := [.data, .data, .data, .data, .sentinel, .sentinel, .pinned], laidTests := true, laidLooks := .later }
def ScopeOnceCardSaid : Prop := Claim7.holds Tryz.pinned (.plain (OpenSpec.ofChange scopeOnceSpec)) scopeOnceCard

/-- THE TIED CARD OF 'isoclinelaw09.ScopeNames'. -/
def scopeNamesCard : Claim7 := { stood := { row := scopeNamesRow, standIns := [], harness := (true, "be6398a3ffe098286a8a0a6802ae66aa40d5f87da0777a8e18d3398d973392ac"), looks := true }, kinds := [], alts := [], laidByText := true, laidKinds := [.data, .data, .data, .data, .sentinel, .sentinel, .pinned], laidTests := true, laidLooks := .later }
def ScopeNamesCardSaid : Prop := Claim7.holds Tryz.pinned (.plain (OpenSpec.ofChange scopeNamesSpec)) scopeNamesCard

/-- THE TIED CARD OF 'isoclinelaw12.CountClasses'. -/
def countClassesCard : Claim7 := { stood := { row := countClassesRow, standIns := [], harness := (true, "be6398a3ffe098286a8a0a6802ae66aa40d5f87da0777a8e18d3398d973392ac"), looks := true }, kinds := [], alts := [], laidByText := true, laidKinds := [.data, .data, .data, .data, .sentinel, .sentinel, .pinned], laidTests := true, laidLooks := .later }
def CountClassesCardSaid : Prop := Claim7.holds Tryz.pinned (.plain (OpenSpec.ofChange countClassesSpec)) countClassesCard

/-- THE TIED CARD OF 'isoclinelaw09.ScopeMerges'. -/
def scopeMergesCard : Claim7 := { stood := { row := scopeMergesRow, standIns := [], harness := (true, "be6398a3ffe098286a8a0a6802ae66aa40d5f87da0777a8e18d3398d973392ac"), looks := true }, kinds := [], alts := [], laidByText := true, laidKinds := [.data, .data, .data, .data, .sentinel, .sentinel, .pinned], laidTests := true, laidLooks := .later }
def ScopeMergesCardSaid : Prop := Claim7.holds Tryz.pinned (.plain (OpenSpec.ofChange scopeMergesSpec)) scopeMergesCard

/-- THE TIED CARD OF 'isoclinelaw09.ScopeMergeTwice'. -/
def scopeMergeTwiceCard : Claim7 := { stood := { row := scopeMergeTwiceRow, standIns := [], harness := (true, "be6398a3ffe098286a8a0a6802ae66aa40d5f87da0777a8e18d3398d973392ac"), looks := true }, kinds := [], alts := [], laidByText := true, laidKinds := [.data, .data, .data, .data, .sentinel, .sentinel, .pinned], laidTests := true, laidLooks := .later }
def ScopeMergeTwiceCardSaid : Prop := Claim7.holds Tryz.pinned (.plain (OpenSpec.ofChange scopeMergeTwiceSpec)) scopeMergeTwiceCard

/-- THE SECOND FORM's CARD OF 'isoclinelaw09.ScopeWholes'. -/
def scopeWholesUptoCard : Claim7 := { stood := { row := scopeWholesUptoRow, standIns := [], harness := (true, "be6398a3ffe098286a8a0a6802ae66aa40d5f87da0777a8e18d3398d973392ac"), looks := true }, kinds := [], alts := [], laidByText := true, laidKinds := [.data, .data, .data, .data, .sentinel, .sentinel, .pinned], laidTests := true, laidLooks := .later }
def ScopeWholesUptoCardSaid : Prop := Claim7.holds Tryz.pinned (.plain (OpenSpec.upto scopeWholesSpec)) scopeWholesUptoCard

/-- THE SECOND FORM's CARD OF 'isoclinelaw09.ScopeFits'. -/
def scopeFitsUptoCard : Claim7 := { stood := { row := scopeFitsUptoRow, standIns := [], harness := (true, "be6398a3ffe098286a8a0a6802ae66aa40d5f87da0777a8e18d3398d973392ac"), looks := true }, kinds := [], alts := [], laidByText := true, laidKinds := [.data, .data, .data, .data, .sentinel, .sentinel, .pinned], laidTests := true, laidLooks := .later }
def ScopeFitsUptoCardSaid : Prop := Claim7.holds Tryz.pinned (.plain (OpenSpec.upto scopeFitsSpec)) scopeFitsUptoCard

/-- THE SECOND FORM's CARD OF 'isoclinelaw09.ScopeOnce'. -/
def scopeOnceUptoCard : Claim7 := { stood := { row := scopeOnceUptoRow, standIns := [], harness := (true, "be6398a3ffe098286a8a0a6802ae66aa40d5f87da0777a8e18d3398d973392ac"), looks := true }, kinds := [], alts := [], laidByText := true, laidKinds := [.data, .data, .data, .data, .sentinel, .sentinel, .pinned], laidTests := true, laidLooks := .later }
def ScopeOnceUptoCardSaid : Prop := Claim7.holds Tryz.pinned (.plain (OpenSpec.upto scopeOnceSpec)) scopeOnceUptoCard

/-- THE SECOND FORM's CARD OF 'isoclinelaw09.ScopeNames'. -/
def scopeNamesUptoCard : Claim7 := { stood := { row := scopeNamesUptoRow, standIns := [], harness := (true, "be6398a3ffe098286a8a0a6802ae66aa40d5f87da0777a8e18d3398d973392ac"), looks := true }, kinds := [], alts := [], laidByText := true, laidKinds := [.data, .data, .data, .data, .sentinel, .sentinel, .pinned], laidTests := true, laidLooks := .later }
def ScopeNamesUptoCardSaid : Prop := Claim7.holds Tryz.pinned (.plain (OpenSpec.upto scopeNamesSpec)) scopeNamesUptoCard

/-- THE SECOND FORM's CARD OF 'isoclinelaw12.CountClasses'. -/
def countClassesUptoCard : Claim7 := { stood := { row := countClassesUptoRow, standIns := [], harness := (true, "be6398a3ffe098286a8a0a6802ae66aa40d5f87da0777a8e18d3398d973392ac"), looks := true }, kinds := [], alts := [], laidByText := true, laidKinds := [.data, .data, .data, .data, .sentinel, .sentinel, .pinned], laidTests := true, laidLooks := .later }
def CountClassesUptoCardSaid : Prop := Claim7.holds Tryz.pinned (.plain (OpenSpec.upto countClassesSpec)) countClassesUptoCard

/-- THE SECOND FORM's CARD OF 'isoclinelaw09.ScopeMerges'. -/
def scopeMergesUptoCard : Claim7 := { stood := { row := scopeMergesUptoRow, standIns := [], harness := (true, "be6398a3ffe098286a8a0a6802ae66aa40d5f87da0777a8e18d3398d973392ac"), looks := true }, kinds := [], alts := [], laidByText := true, laidKinds := [.data, .data, .data, .data, .sentinel, .sentinel, .pinned], laidTests := true, laidLooks := .later }
def ScopeMergesUptoCardSaid : Prop := Claim7.holds Tryz.pinned (.plain (OpenSpec.upto scopeMergesSpec)) scopeMergesUptoCard

/-- THE SECOND FORM's CARD OF 'isoclinelaw09.ScopeMergeTwice'. -/
def scopeMergeTwiceUptoCard : Claim7 := { stood := { row := scopeMergeTwiceUptoRow, standIns := [], harness := (true, "be6398a3ffe098286a8a0a6802ae66aa40d5f87da0777a8e18d3398d973392ac"), looks := true }, kinds := [], alts := [], laidByText := true, laidKinds := [.data, .data, .data, .data, .sentinel, .sentinel, .pinned], laidTests := true, laidLooks := .later }
def ScopeMergeTwiceUptoCardSaid : Prop := Claim7.holds Tryz.pinned (.plain (OpenSpec.upto scopeMergeTwiceSpec)) scopeMergeTwiceUptoCard
end Rows
end Go.Proofs.YtgngflkahbpecaaGreatDoor
