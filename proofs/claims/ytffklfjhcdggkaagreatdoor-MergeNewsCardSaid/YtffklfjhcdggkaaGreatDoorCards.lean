/-
  DERIVED. GIVEN WITH THE SEED: THE CARDS: each row of YtffklfjhcdggkaaGreatDoorRows.lean that lists a variable, with what it lists TIED to the program's text (the seventh form; the later family's looks); each row that meets fmt, with fmt's text TOLD by the authors' own Lean function (tested against real Go, not proved from fmt's source: count such statements apart). THE CARD IS WHAT COUNTS. Prove the row's statement (the work); the ties are given (YtffklfjhcdggkaaGreatDoorTie.lean); close each card by the builder's one call (the guide's Derived/Test/ToyasCard.lean, 'card_holds'). Laid BY PROGRAM, IN A SANDBOX (cutbox-door.mjs). By AI agents, Wed Nov 11 2026. No macro, syntax, notation, axiom, sorry.
-/
import Derived.Test.YtffklfjhcdggkaaGreatDoorRows
import GoSem.ClaimSeven
namespace Go.Proofs.YtffklfjhcdggkaaGreatDoor
namespace Rows

/-- THE TIED CARD OF 'drumlinlaw31.MergeNews'. -/
def mergeNewsCard : Claim7 := { stood := { row := mergeNewsRow, standIns := [], harness := (true, "7da7ee61e66ea761c7d9ff01c97c92ba853f18af7924887625ae0d3bb7023d58"), looks := true }, kinds := [], alts := [], laidByText := true, laidKinds := [.data, .data, .data, .data, .data], laidTests := true, laidLooks := .later }
def MergeNewsCardSaid : Prop := Claim7.holds Tryz.pinned (.plain (OpenSpec.ofChange mergeNewsSpec)) mergeNewsCard

/-- THE TIED CARD OF 'drumlinlaw31.MergeNil'. -/
def mergeNilCard : Claim7 := { stood := { row := mergeNilRow, standIns := [], harness := (true, "7da7ee61e66ea761c7d9ff01c97c92ba853f18af7924887625ae0d3bb7023d58"), looks := true }, kinds := [], alts := [], laidByText := true, laidKinds := [.data, .data, .data, .data, .data], laidTests := true, laidLooks := .later }
def MergeNilCardSaid : Prop := Claim7.holds Tryz.pinned (.plain (OpenSpec.ofChange mergeNilSpec)) mergeNilCard

/-- THE SECOND FORM's CARD OF 'drumlinlaw31.MergeNews'. -/
def mergeNewsUptoCard : Claim7 := { stood := { row := mergeNewsUptoRow, standIns := [], harness := (true, "7da7ee61e66ea761c7d9ff01c97c92ba853f18af7924887625ae0d3bb7023d58"), looks := true }, kinds := [], alts := [], laidByText := true, laidKinds := [.data, .data, .data, .data, .data], laidTests := true, laidLooks := .later }
def MergeNewsUptoCardSaid : Prop := Claim7.holds Tryz.pinned (.plain (OpenSpec.upto mergeNewsSpec)) mergeNewsUptoCard

/-- THE SECOND FORM's CARD OF 'drumlinlaw31.MergeNil'. -/
def mergeNilUptoCard : Claim7 := { stood := { row := mergeNilUptoRow, standIns := [], harness := (true, "7da7ee61e66ea761c7d9ff01c97c92ba853f18af7924887625ae0d3bb7023d58"), looks := true }, kinds := [], alts := [], laidByText := true, laidKinds := [.data, .data, .data, .data, .data], laidTests := true, laidLooks := .later }
def MergeNilUptoCardSaid : Prop := Claim7.holds Tryz.pinned (.plain (OpenSpec.upto mergeNilSpec)) mergeNilUptoCard
end Rows
end Go.Proofs.YtffklfjhcdggkaaGreatDoor
