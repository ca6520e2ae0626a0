/-
  DERIVED. GIVEN WITH THE SEED: THE CARDS: each row of YtnmkiflnonafbaaGreatDoorRows.lean that lists a variable, with what it lists TIED to the program's text (the seventh form; the later family's looks); each row that meets fmt, with fmt's text TOLD by the authors' own Lean function (tested against real Go, not proved from fmt's source: count such statements apart). THE CARD IS WHAT COUNTS. Prove the row's statement (the work); the ties are given (YtnmkiflnonafbaaGreatDoorTie.lean); close each card by the builder's one call (the guide's Derived/Test/ToyasCard.lean, 'card_holds'). Laid BY PROGRAM, IN A SANDBOX (cutbox-door.mjs). By AI agents, Wed Nov 11 2026. No macro, syntax, notation, axiom, sorry.
-/
import Derived.Test.YtnmkiflnonafbaaGreatDoorRows
import GoSem.ClaimSeven
namespace Go.Proofs.YtnmkiflnonafbaaGreatDoor
namespace Rows

/-- THE TIED CARD OF 'drumlinlaw30.ReclaimSyncs'. -/
def reclaimSyncsCard : Claim7 := { stood := { row := reclaimSyncsRow, standIns := [], harness := (true, "aa9f87a73fb2981f50cfc401ea2160c56d71317036f9eba98ce9e7fc1a5e8020"), looks := false }, kinds := [], alts := [], laidByText := true, laidKinds := [.data, .data, .data], laidTests := true, laidLooks := .later }
def ReclaimSyncsCardSaid : Prop := Claim7.holds Tryz.pinned (.plain (OpenSpec.ofChange reclaimSyncsSpec)) reclaimSyncsCard

/-- THE TIED CARD OF 'drumlinlaw30.ReclaimErases'. -/
def reclaimErasesCard : Claim7 := { stood := { row := reclaimErasesRow, standIns := [], harness := (true, "aa9f87a73fb2981f50cfc401ea2160c56d71317036f9eba98ce9e7fc1a5e8020"), looks := false }, kinds := [], alts := [], laidByText := true, laidKinds := [.data, .data, .data], laidTests := true, laidLooks := .later }
def ReclaimErasesCardSaid : Prop := Claim7.holds Tryz.pinned (.plain (OpenSpec.ofChange reclaimErasesSpec)) reclaimErasesCard

/-- THE SECOND FORM's CARD OF 'drumlinlaw30.ReclaimSyncs'. -/
def reclaimSyncsUptoCard : Claim7 := { stood := { row := reclaimSyncsUptoRow, standIns := [], harness := (true, "aa9f87a73fb2981f50cfc401ea2160c56d71317036f9eba98ce9e7fc1a5e8020"), looks := false }, kinds := [], alts := [], laidByText := true, laidKinds := [.data, .data, .data], laidTests := true, laidLooks := .later }
def ReclaimSyncsUptoCardSaid : Prop := Claim7.holds Tryz.pinned (.plain (OpenSpec.upto reclaimSyncsSpec)) reclaimSyncsUptoCard

/-- THE SECOND FORM's CARD OF 'drumlinlaw30.ReclaimErases'. -/
def reclaimErasesUptoCard : Claim7 := { stood := { row := reclaimErasesUptoRow, standIns := [], harness := (true, "aa9f87a73fb2981f50cfc401ea2160c56d71317036f9eba98ce9e7fc1a5e8020"), looks := false }, kinds := [], alts := [], laidByText := true, laidKinds := [.data, .data, .data], laidTests := true, laidLooks := .later }
def ReclaimErasesUptoCardSaid : Prop := Claim7.holds Tryz.pinned (.plain (OpenSpec.upto reclaimErasesSpec)) reclaimErasesUptoCard
end Rows
end Go.Proofs.YtnmkiflnonafbaaGreatDoor
