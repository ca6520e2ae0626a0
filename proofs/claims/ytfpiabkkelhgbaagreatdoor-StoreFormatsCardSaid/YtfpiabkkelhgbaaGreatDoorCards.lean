/-
  DERIVED. GIVEN WITH THE SEED: THE CARDS: each row of YtfpiabkkelhgbaaGreatDoorRows.lean that lists a variable, with what it lists TIED to the program's text (the seventh form; the later family's looks); each row that meets fmt, with fmt's text TOLD by the authors' own Lean function (tested against real Go, not proved from fmt's source: count such statements apart). THE CARD IS WHAT COUNTS. Prove the row's statement (the work); the ties are given (YtfpiabkkelhgbaaGreatDoorTie.lean); close each card by the builder's one call (the guide's Derived/Test/ToyasCard.lean, 'card_holds'). Laid BY PROGRAM, IN A SANDBOX (cutbox-door.mjs). By AI agents, Wed Nov 11 2026. No macro, syntax, notation, axiom, sorry.
-/
import Derived.Test.YtfpiabkkelhgbaaGreatDoorRows
import GoSem.ClaimSeven
namespace Go.Proofs.YtfpiabkkelhgbaaGreatDoor
namespace Rows

/-- THE TIED CARD OF 'drumlinlaw38.StoreFormats'. -/
def storeFormatsCard : Claim7 := { stood := { row := storeFormatsRow, standIns := [], harness := (true, "864539c487ad9109818583b56f8ad2bb3647d874a78b94ba5dae614ab9c792df"), looks := true }, kinds := [], alts := [], laidByText := true, laidKinds := [.data, .data, .data, .data, .data, .data], laidTests := true, laidLooks := .later }
def StoreFormatsCardSaid : Prop := Claim7.holds Tryz.pinned (.plain (OpenSpec.ofChange storeFormatsSpec)) storeFormatsCard

/-- THE TIED CARD OF 'drumlinlaw47.ConsoleNil'. -/
def consoleNilCard : Claim7 := { stood := { row := consoleNilRow, standIns := [], harness := (true, "864539c487ad9109818583b56f8ad2bb3647d874a78b94ba5dae614ab9c792df"), looks := true }, kinds := [], alts := [], laidByText := true, laidKinds := [.data, .data, .data, .pinned, .data, .sentinel, .sentinel, .data, .data, .data, .data, .data], laidTests := true, laidLooks := .later }
def ConsoleNilCardSaid : Prop := Claim7.holds Tryz.pinned (.plain (OpenSpec.ofChange consoleNilSpec)) consoleNilCard

/-- THE SECOND FORM's CARD OF 'drumlinlaw38.StoreFormats'. -/
def storeFormatsUptoCard : Claim7 := { stood := { row := storeFormatsUptoRow, standIns := [], harness := (true, "864539c487ad9109818583b56f8ad2bb3647d874a78b94ba5dae614ab9c792df"), looks := true }, kinds := [], alts := [], laidByText := true, laidKinds := [.data, .data, .data, .data, .data, .data], laidTests := true, laidLooks := .later }
def StoreFormatsUptoCardSaid : Prop := Claim7.holds Tryz.pinned (.plain (OpenSpec.upto storeFormatsSpec)) storeFormatsUptoCard

/-- THE SECOND FORM's CARD OF 'drumlinlaw47.ConsoleNil'. -/
def consoleNilUptoCard : Claim7 := { stood := { row := consoleNilUptoRow, standIns := [], harness := (true, "864539c487ad9109818583b56f8ad2bb3647d874a78b94ba5dae614ab9c792df"), looks := true }, kinds := [], alts := [], laidByText := true, laidKinds := [.data, .data, .data, .pinned, .data, .sentinel, .sentinel, .data, .data, .data, .data, .data], laidTests := true, laidLooks := .later }
def ConsoleNilUptoCardSaid : Prop := Claim7.holds Tryz.pinned (.plain (OpenSpec.upto consoleNilSpec)) consoleNilUptoCard
end Rows
end Go.Proofs.YtfpiabkkelhgbaaGreatDoor
