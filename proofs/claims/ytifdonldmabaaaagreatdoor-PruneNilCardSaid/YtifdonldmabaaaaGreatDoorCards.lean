/-
  DERIVED. GIVEN WITH THE SEED: THE CARDS: each row of YtifdonldmabaaaaGreatDoorRows.lean that lists a variable, with what it lists TIED to the program's text (the seventh form; the later family's looks); each row that meets fmt, with fmt's text TOLD by the authors' own Lean function (tested against real Go, not proved from fmt's source: count such statements apart). THE CARD IS WHAT COUNTS. Prove the row's statement (the work); the ties are given (YtifdonldmabaaaaGreatDoorTie.lean); close each card by the builder's one call (the guide's Derived/Test/ToyasCard.lean, 'card_holds'). Laid BY PROGRAM, IN A SANDBOX (cutbox-door.mjs). By AI agents, Wed Nov 11 2026. No macro, syntax, notation, axiom, sorry.
-/
import Derived.Test.YtifdonldmabaaaaGreatDoorRows
import GoSem.ClaimSeven
namespace Go.Proofs.YtifdonldmabaaaaGreatDoor
namespace Rows

/-- THE TIED CARD OF 'drumlinlaw36.PruneKnown'. -/
def pruneKnownCard : Claim7 := { stood := { row := pruneKnownRow, standIns := [], harness := (true, "763c55d3088e82bb8511baa28b45f0f08c19ec0e9649671b9ccf099067fb74b2"), looks := false }, kinds := [], alts := [], laidByText := true, laidKinds := [.data, .data], laidTests := true, laidLooks := .later }
def PruneKnownCardSaid : Prop := Claim7.holds Tryz.pinned (.plain (OpenSpec.ofChange pruneKnownSpec)) pruneKnownCard

/-- THE TIED CARD OF 'drumlinlaw36.PruneNil'. -/
def pruneNilCard : Claim7 := { stood := { row := pruneNilRow, standIns := [], harness := (true, "763c55d3088e82bb8511baa28b45f0f08c19ec0e9649671b9ccf099067fb74b2"), looks := false }, kinds := [], alts := [], laidByText := true, laidKinds := [.data, .data], laidTests := true, laidLooks := .later }
def PruneNilCardSaid : Prop := Claim7.holds Tryz.pinned (.plain (OpenSpec.ofChange pruneNilSpec)) pruneNilCard

/-- THE SECOND FORM's CARD OF 'drumlinlaw36.PruneKnown'. -/
def pruneKnownUptoCard : Claim7 := { stood := { row := pruneKnownUptoRow, standIns := [], harness := (true, "763c55d3088e82bb8511baa28b45f0f08c19ec0e9649671b9ccf099067fb74b2"), looks := false }, kinds := [], alts := [], laidByText := true, laidKinds := [.data, .data], laidTests := true, laidLooks := .later }
def PruneKnownUptoCardSaid : Prop := Claim7.holds Tryz.pinned (.plain (OpenSpec.upto pruneKnownSpec)) pruneKnownUptoCard

/-- THE SECOND FORM's CARD OF 'drumlinlaw36.PruneNil'. -/
def pruneNilUptoCard : Claim7 := { stood := { row := pruneNilUptoRow, standIns := [], harness := (true, "763c55d3088e82bb8511baa28b45f0f08c19ec0e9649671b9ccf099067fb74b2"), looks := false }, kinds := [], alts := [], laidByText := true, laidKinds := [.data, .data], laidTests := true, laidLooks := .later }
def PruneNilUptoCardSaid : Prop := Claim7.holds Tryz.pinned (.plain (OpenSpec.upto pruneNilSpec)) pruneNilUptoCard
end Rows
end Go.Proofs.YtifdonldmabaaaaGreatDoor
