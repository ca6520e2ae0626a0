/-
  DERIVED. GIVEN WITH THE SEED: THE CARDS: each row of YtfkpfgnigiijnaaGreatDoorRows.lean that lists a variable, with what it lists TIED to the program's text (the seventh form; the later family's looks); each row that meets fmt, with fmt's text TOLD by the authors' own Lean function (tested against real Go, not proved from fmt's source: count such statements apart). THE CARD IS WHAT COUNTS. Prove the row's statement (the work); the ties are given (YtfkpfgnigiijnaaGreatDoorTie.lean); close each card by the builder's one call (the guide's Derived/Test/ToyasCard.lean, 'card_holds'). Laid BY PROGRAM, IN A SANDBOX (cutbox-door.mjs). By AI agents, Wed Nov 11 2026. No macro, syntax, notation, axiom, sorry.
-/
import Derived.Test.YtfkpfgnigiijnaaGreatDoorRows
import GoSem.ClaimSeven
namespace Go.Proofs.YtfkpfgnigiijnaaGreatDoor
namespace Rows

/-- THE TIED CARD OF 'drumlinlaw30.ReclaimNil'. -/
def reclaimNilCard : Claim7 := { stood := { row := reclaimNilRow, standIns := [], harness := (true, "a751e53a732b69fd54c7f0c8c534111fa40477f3a48b1b03f13583855932973d"), looks := true }, kinds := [], alts := [], laidByText := true, laidKinds := [.data, .data, .data], laidTests := true, laidLooks := .later }
def ReclaimNilCardSaid : Prop := Claim7.holds Tryz.pinned (.plain (OpenSpec.ofChange reclaimNilSpec)) reclaimNilCard

/-- THE TIED CARD OF 'drumlinlaw30.ReclaimRefuses'. -/
def reclaimRefusesCard : Claim7 := { stood := { row := reclaimRefusesRow, standIns := [], harness := (true, "a751e53a732b69fd54c7f0c8c534111fa40477f3a48b1b03f13583855932973d"), looks := true }, kinds := [], alts := [], laidByText := true, laidKinds := [.data, .data, .data], laidTests := true, laidLooks := .later }
def ReclaimRefusesCardSaid : Prop := Claim7.holds Tryz.pinned (.plain (OpenSpec.ofChange reclaimRefusesSpec)) reclaimRefusesCard

/-- THE TIED CARD OF 'drumlinlaw31.MergeRefuses'. -/
def mergeRefusesCard : Claim7 := { stood := { row := mergeRefusesRow, standIns := [], harness := (true, "a751e53a732b69fd54c7f0c8c534111fa40477f3a48b1b03f13583855932973d"), looks := true }, kinds := [], alts := [], laidByText := true, laidKinds := [.data, .data, .data, .data, .data], laidTests := true, laidLooks := .later }
def MergeRefusesCardSaid : Prop := Claim7.holds Tryz.pinned (.plain (OpenSpec.ofChange mergeRefusesSpec)) mergeRefusesCard

/-- THE TIED CARD OF 'drumlinlaw34.PacingNil'. -/
def pacingNilCard : Claim7 := { stood := { row := pacingNilRow, standIns := [], harness := (true, "a751e53a732b69fd54c7f0c8c534111fa40477f3a48b1b03f13583855932973d"), looks := true }, kinds := [], alts := [], laidByText := true, laidKinds := [.data, .data, .data, .data, .data, .data], laidTests := true, laidLooks := .later }
def PacingNilCardSaid : Prop := Claim7.holds Tryz.pinned (.plain (OpenSpec.ofChange pacingNilSpec)) pacingNilCard

/-- THE SECOND FORM's CARD OF 'drumlinlaw30.ReclaimNil'. -/
def reclaimNilUptoCard : Claim7 := { stood := { row := reclaimNilUptoRow, standIns := [], harness := (true, "a751e53a732b69fd54c7f0c8c534111fa40477f3a48b1b03f13583855932973d"), looks := true }, kinds := [], alts := [], laidByText := true, laidKinds := [.data, .data, .data], laidTests := true, laidLooks := .later }
def ReclaimNilUptoCardSaid : Prop := Claim7.holds Tryz.pinned (.plain (OpenSpec.upto reclaimNilSpec)) reclaimNilUptoCard

/-- THE SECOND FORM's CARD OF 'drumlinlaw30.ReclaimRefuses'. -/
def reclaimRefusesUptoCard : Claim7 := { stood := { row := reclaimRefusesUptoRow, standIns := [], harness := (true, "a751e53a732b69fd54c7f0c8c534111fa40477f3a48b1b03f13583855932973d"), looks := true }, kinds := [], alts := [], laidByText := true, laidKinds := [.data, .data, .data], laidTests := true, laidLooks := .later }
def ReclaimRefusesUptoCardSaid : Prop := Claim7.holds Tryz.pinned (.plain (OpenSpec.upto reclaimRefusesSpec)) reclaimRefusesUptoCard

/-- THE SECOND FORM's CARD OF 'drumlinlaw31.MergeRefuses'. -/
def mergeRefusesUptoCard : Claim7 := { stood := { row := mergeRefusesUptoRow, standIns := [], harness := (true, "a751e53a732b69fd54c7f0c8c534111fa40477f3a48b1b03f13583855932973d"), looks := true }, kinds := [], alts := [], laidByText := true, laidKinds := [.data, .data, .data, .data, .data], laidTests := true, laidLooks := .later }
def MergeRefusesUptoCardSaid : Prop := Claim7.holds Tryz.pinned (.plain (OpenSpec.upto mergeRefusesSpec)) mergeRefusesUptoCard

/-- THE SECOND FORM's CARD OF 'drumlinlaw34.PacingNil'. -/
def pacingNilUptoCard : Claim7 := { stood := { row := pacingNilUptoRow, standIns := [], harness := (true, "a751e53a732b69fd54c7f0c8c534111fa40477f3a48b1b03f13583855932973d"), looks := true }, kinds := [], alts := [], laidByText := true, laidKinds := [.data, .data, .data, .data, .data, .data], laidTests := true, laidLooks := .later }
def PacingNilUptoCardSaid : Prop := Claim7.holds Tryz.pinned (.plain (OpenSpec.upto pacingNilSpec)) pacingNilUptoCard
end Rows
end Go.Proofs.YtfkpfgnigiijnaaGreatDoor
