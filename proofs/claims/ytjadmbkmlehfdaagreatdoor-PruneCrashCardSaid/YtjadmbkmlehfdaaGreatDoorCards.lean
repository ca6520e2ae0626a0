/-
  DERIVED. GIVEN WITH THE SEED: THE CARDS: each row of YtjadmbkmlehfdaaGreatDoorRows.lean that lists a variable, with what it lists TIED to the program's text (the seventh form; the later family's looks); each row that meets fmt, with fmt's text TOLD by the authors' own Lean function (tested against real Go, not proved from fmt's source: count such statements apart). THE CARD IS WHAT COUNTS. Prove the row's statement (the work); the ties are given (YtjadmbkmlehfdaaGreatDoorTie.lean); close each card by the builder's one call (the guide's Derived/Test/ToyasCard.lean, 'card_holds'). Laid BY PROGRAM, IN A SANDBOX (cutbox-door.mjs). By AI agents, Wed Nov 11 2026. No macro, syntax, notation, axiom, sorry.
-/
import Derived.Test.YtjadmbkmlehfdaaGreatDoorRows
import GoSem.ClaimSeven
namespace Go.Proofs.YtjadmbkmlehfdaaGreatDoor
namespace Rows

/-- THE TIED CARD OF 'drumlinlaw30.ReclaimCrashes'. -/
def reclaimCrashesCard : Claim7 := { stood := { row := reclaimCrashesRow, standIns := [], harness := (true, "7041d3fb7d2f55b5753a6b73a2750c965263be0b97da1227778d86a8d3b12337"), looks := false }, kinds := [], alts := [], laidByText := true, laidKinds := [.data, .data, .data], laidTests := true, laidLooks := .later }
def ReclaimCrashesCardSaid : Prop := Claim7.holds Tryz.pinned (.plain (OpenSpec.ofChange reclaimCrashesSpec)) reclaimCrashesCard

/-- THE TIED CARD OF 'drumlinlaw36.PruneMap'. -/
def pruneMapCard : Claim7 := { stood := { row := pruneMapRow, standIns := [], harness := (true, "7041d3fb7d2f55b5753a6b73a2750c965263be0b97da1227778d86a8d3b12337"), looks := false }, kinds := [], alts := [], laidByText := true, laidKinds := [.data, .data, .data, .data], laidTests := true, laidLooks := .later }
def PruneMapCardSaid : Prop := Claim7.holds Tryz.pinned (.plain (OpenSpec.ofChange pruneMapSpec)) pruneMapCard

/-- THE TIED CARD OF 'drumlinlaw36.PruneCrash'. -/
def pruneCrashCard : Claim7 := { stood := { row := pruneCrashRow, standIns := [], harness := (true, "7041d3fb7d2f55b5753a6b73a2750c965263be0b97da1227778d86a8d3b12337"), looks := false }, kinds := [], alts := [], laidByText := true, laidKinds := [.data, .data, .data, .data], laidTests := true, laidLooks := .later }
def PruneCrashCardSaid : Prop := Claim7.holds Tryz.pinned (.plain (OpenSpec.ofChange pruneCrashSpec)) pruneCrashCard

/-- THE SECOND FORM's CARD OF 'drumlinlaw30.ReclaimCrashes'. -/
def reclaimCrashesUptoCard : Claim7 := { stood := { row := reclaimCrashesUptoRow, standIns := [], harness := (true, "7041d3fb7d2f55b5753a6b73a2750c965263be0b97da1227778d86a8d3b12337"), looks := false }, kinds := [], alts := [], laidByText := true, laidKinds := [.data, .data, .data], laidTests := true, laidLooks := .later }
def ReclaimCrashesUptoCardSaid : Prop := Claim7.holds Tryz.pinned (.plain (OpenSpec.upto reclaimCrashesSpec)) reclaimCrashesUptoCard

/-- THE SECOND FORM's CARD OF 'drumlinlaw36.PruneMap'. -/
def pruneMapUptoCard : Claim7 := { stood := { row := pruneMapUptoRow, standIns := [], harness := (true, "7041d3fb7d2f55b5753a6b73a2750c965263be0b97da1227778d86a8d3b12337"), looks := false }, kinds := [], alts := [], laidByText := true, laidKinds := [.data, .data, .data, .data], laidTests := true, laidLooks := .later }
def PruneMapUptoCardSaid : Prop := Claim7.holds Tryz.pinned (.plain (OpenSpec.upto pruneMapSpec)) pruneMapUptoCard

/-- THE SECOND FORM's CARD OF 'drumlinlaw36.PruneCrash'. -/
def pruneCrashUptoCard : Claim7 := { stood := { row := pruneCrashUptoRow, standIns := [], harness := (true, "7041d3fb7d2f55b5753a6b73a2750c965263be0b97da1227778d86a8d3b12337"), looks := false }, kinds := [], alts := [], laidByText := true, laidKinds := [.data, .data, .data, .data], laidTests := true, laidLooks := .later }
def PruneCrashUptoCardSaid : Prop := Claim7.holds Tryz.pinned (.plain (OpenSpec.upto pruneCrashSpec)) pruneCrashUptoCard
end Rows
end Go.Proofs.YtjadmbkmlehfdaaGreatDoor
