/-
  DERIVED. GIVEN WITH THE SEED: THE CARDS: each row of YtbplpekmpoenaaaGreatDoorRows.lean that lists a variable, with what it lists TIED to the program's text (the seventh form; the later family's looks); each row that meets fmt, with fmt's text TOLD by the authors' own Lean function (tested against real Go, not proved from fmt's source: count such statements apart). THE CARD IS WHAT COUNTS. Prove the row's statement (the work); the ties are given (YtbplpekmpoenaaaGreatDoorTie.lean); close each card by the builder's one call (the guide's Derived/Test/ToyasCard.lean, 'card_holds'). Laid BY PROGRAM, IN A SANDBOX (cutbox-door.mjs). By AI agents, Wed Nov 11 2026. No macro, syntax, notation, axiom, sorry.
-/
import Derived.Test.YtbplpekmpoenaaaGreatDoorRows
import GoSem.ClaimSeven
namespace Go.Proofs.YtbplpekmpoenaaaGreatDoor
namespace Rows

/-- THE TIED CARD OF 'drumlinlaw44.AuditNil'. -/
def auditNilCard : Claim7 := { stood := { row := auditNilRow, standIns := [], harness := (true, "62de8f8c5af94ca6747957c3e7795e3c5525cf37d09fea9ed68d74e15526e889"), looks := true }, kinds := [], alts := [], laidByText := true, laidKinds := [.data, .data, .data, .data, .data, .data, .pinned, .data, .sentinel, .sentinel, .data, .data], laidTests := true, laidLooks := .later }
def AuditNilCardSaid : Prop := Claim7.holds Tryz.pinned (.plain (OpenSpec.ofChange auditNilSpec)) auditNilCard

/-- THE TIED CARD OF 'drumlinlaw44.AuditRefuses'. -/
def auditRefusesCard : Claim7 := { stood := { row := auditRefusesRow, standIns := [], harness := (true, "62de8f8c5af94ca6747957c3e7795e3c5525cf37d09fea9ed68d74e15526e889"), looks := true }, kinds := [], alts := [], laidByText := true, laidKinds := [.data, .data, .data, .data, .data, .data, .pinned, .data, .sentinel, .sentinel, .data, .data], laidTests := true, laidLooks := .later }
def AuditRefusesCardSaid : Prop := Claim7.holds Tryz.pinned (.plain (OpenSpec.ofChange auditRefusesSpec)) auditRefusesCard

/-- THE TIED CARD OF 'drumlinlaw44.AuditKnown'. -/
def auditKnownCard : Claim7 := { stood := { row := auditKnownRow, standIns := [], harness := (true, "62de8f8c5af94ca6747957c3e7795e3c5525cf37d09fea9ed68d74e15526e889"), looks := true }, kinds := [], alts := [], laidByText := true, laidKinds := [.data, .data, .data, .data, .data, .data, .pinned, .data, .sentinel, .sentinel, .data, .data], laidTests := true, laidLooks := .later }
def AuditKnownCardSaid : Prop := Claim7.holds Tryz.pinned (.plain (OpenSpec.ofChange auditKnownSpec)) auditKnownCard

/-- THE TIED CARD OF 'drumlinlaw46.JudgeTexts'. -/
def judgeTextsCard : Claim7 := { stood := { row := judgeTextsRow, standIns := [], harness := (true, "62de8f8c5af94ca6747957c3e7795e3c5525cf37d09fea9ed68d74e15526e889"), looks := true }, kinds := [], alts := [], laidByText := true, laidKinds := [.data, .data, .data, .pinned, .data, .sentinel, .sentinel, .data, .data, .data, .data, .data, .data], laidTests := true, laidLooks := .later }
def JudgeTextsCardSaid : Prop := Claim7.holds Tryz.pinned (.plain (OpenSpec.ofChange judgeTextsSpec)) judgeTextsCard

/-- THE TIED CARD OF 'drumlinlaw46.JudgeNames'. -/
def judgeNamesCard : Claim7 := { stood := { row := judgeNamesRow, standIns := [], harness := (true, "62de8f8c5af94ca6747957c3e7795e3c5525cf37d09fea9ed68d74e15526e889"), looks := true }, kinds := [], alts := [], laidByText := true, laidKinds := [.data, .data, .data, .data, .pinned, .data, .sentinel, .sentinel, .data, .data, .data, .data, .data], laidTests := true, laidLooks := .later }
def JudgeNamesCardSaid : Prop := Claim7.holds Tryz.pinned (.plain (OpenSpec.ofChange judgeNamesSpec)) judgeNamesCard

/-- THE TIED CARD OF 'drumlinlaw46.JudgeErrors'. -/
def judgeErrorsCard : Claim7 := { stood := { row := judgeErrorsRow, standIns := [], harness := (true, "62de8f8c5af94ca6747957c3e7795e3c5525cf37d09fea9ed68d74e15526e889"), looks := true }, kinds := [], alts := [], laidByText := true, laidKinds := [.data, .data, .data, .pinned, .data, .sentinel, .sentinel, .data, .data, .data, .data, .data, .data], laidTests := true, laidLooks := .later }
def JudgeErrorsCardSaid : Prop := Claim7.holds Tryz.pinned (.plain (OpenSpec.ofChange judgeErrorsSpec)) judgeErrorsCard

/-- THE SECOND FORM's CARD OF 'drumlinlaw44.AuditNil'. -/
def auditNilUptoCard : Claim7 := { stood := { row := auditNilUptoRow, standIns := [], harness := (true, "62de8f8c5af94ca6747957c3e7795e3c5525cf37d09fea9ed68d74e15526e889"), looks := true }, kinds := [], alts := [], laidByText := true, laidKinds := [.data, .data, .data, .data, .data, .data, .pinned, .data, .sentinel, .sentinel, .data, .data], laidTests := true, laidLooks := .later }
def AuditNilUptoCardSaid : Prop := Claim7.holds Tryz.pinned (.plain (OpenSpec.upto auditNilSpec)) auditNilUptoCard

/-- THE SECOND FORM's CARD OF 'drumlinlaw44.AuditRefuses'. -/
def auditRefusesUptoCard : Claim7 := { stood := { row := auditRefusesUptoRow, standIns := [], harness := (true, "62de8f8c5af94ca6747957c3e7795e3c5525cf37d09fea9ed68d74e15526e889"), looks := true }, kinds := [], alts := [], laidByText := true, laidKinds := [.data, .data, .data, .data, .data, .data, .pinned, .data, .sentinel, .sentinel, .data, .data], laidTests := true, laidLooks := .later }
def AuditRefusesUptoCardSaid : Prop := Claim7.holds Tryz.pinned (.plain (OpenSpec.upto auditRefusesSpec)) auditRefusesUptoCard

/-- THE SECOND FORM's CARD OF 'drumlinlaw44.AuditKnown'. -/
def auditKnownUptoCard : Claim7 := { stood := { row := auditKnownUptoRow, standIns := [], harness := (true, "62de8f8c5af94ca6747957c3e7795e3c5525cf37d09fea9ed68d74e15526e889"), looks := true }, kinds := [], alts := [], laidByText := true, laidKinds := [.data, .data, .data, .data, .data, .data, .pinned, .data, .sentinel, .sentinel, .data, .data], laidTests := true, laidLooks := .later }
def AuditKnownUptoCardSaid : Prop := Claim7.holds Tryz.pinned (.plain (OpenSpec.upto auditKnownSpec)) auditKnownUptoCard

/-- THE SECOND FORM's CARD OF 'drumlinlaw46.JudgeTexts'. -/
def judgeTextsUptoCard : Claim7 := { stood := { row := judgeTextsUptoRow, standIns := [], harness := (true, "62de8f8c5af94ca6747957c3e7795e3c5525cf37d09fea9ed68d74e15526e889"), looks := true }, kinds := [], alts := [], laidByText := true, laidKinds := [.data, .data, .data, .pinned, .data, .sentinel, .sentinel, .data, .data, .data, .data, .data, .data], laidTests := true, laidLooks := .later }
def JudgeTextsUptoCardSaid : Prop := Claim7.holds Tryz.pinned (.plain (OpenSpec.upto judgeTextsSpec)) judgeTextsUptoCard

/-- THE SECOND FORM's CARD OF 'drumlinlaw46.JudgeNames'. -/
def judgeNamesUptoCard : Claim7 := { stood := { row := judgeNamesUptoRow, standIns := [], harness := (true, "62de8f8c5af94ca6747957c3e7795e3c5525cf37d09fea9ed68d74e15526e889"), looks := true }, kinds := [], alts := [], laidByText := true, laidKinds := [.data, .data, .data, .data, .pinned, .data, .sentinel, .sentinel, .data, .data, .data, .data, .data], laidTests := true, laidLooks := .later }
def JudgeNamesUptoCardSaid : Prop := Claim7.holds Tryz.pinned (.plain (OpenSpec.upto judgeNamesSpec)) judgeNamesUptoCard

/-- THE SECOND FORM's CARD OF 'drumlinlaw46.JudgeErrors'. -/
def judgeErrorsUptoCard : Claim7 := { stood := { row := judgeErrorsUptoRow, standIns := [], harness := (true, "62de8f8c5af94ca6747957c3e7795e3c5525cf37d09fea9ed68d74e15526e889"), looks := true }, kinds := [], alts := [], laidByText := true, laidKinds := [.data, .data, .data, .pinned, .data, .sentinel, .sentinel, .data, .data, .data, .data, .data, .data], laidTests := true, laidLooks := .later }
def JudgeErrorsUptoCardSaid : Prop := Claim7.holds Tryz.pinned (.plain (OpenSpec.upto judgeErrorsSpec)) judgeErrorsUptoCard
end Rows
end Go.Proofs.YtbplpekmpoenaaaGreatDoor
