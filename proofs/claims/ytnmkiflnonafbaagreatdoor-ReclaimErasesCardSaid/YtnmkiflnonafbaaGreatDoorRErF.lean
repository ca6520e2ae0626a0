/- ReclaimErases returns true for every setup, at every world whose package variables are as the program's text lays them; no condition beside the row's own. -/
import Derived.Test.YtnmkiflnonafbaaGreatDoorRows
import Derived.Test.YtnmkiflnonafbaaGreatDoorChecked
import Derived.Test.YtnmkiflnonafbaaGreatDoorE13
import Derived.Test.YtnmkiflnonafbaaGreatDoorSxTlQ
import Derived.WalkKit
import Derived.ProofKit
import Derived.ReadAgain
import Derived.LaidMore
import Derived.OpenShut
import Derived.Stop.Joined
import Derived.SevenTiedAt
import Derived.ClosedOfChecked
namespace Go.Proofs.YtnmkiflnonafbaaGreatDoor.reclaimErases
set_option maxRecDepth 100000
set_option maxHeartbeats 40000000
theorem tables : laidOutB Tryz.prog = true ∧ mapsRowed Tryz.prog = true ∧ Tryz.prog.plainKeys = true := ClosedOfChecked.closed_of_checked Tryz.checked (by kernel_rfl) (by kernel_rfl) (by kernel_rfl)
theorem fPk : (Rows.reclaimErasesRow.plainKeys == Tryz.prog.plainKeys) = true := by rw [tables.2.2]; rfl
end Go.Proofs.YtnmkiflnonafbaaGreatDoor.reclaimErases

namespace Go.Proofs.YtnmkiflnonafbaaGreatDoor.reclaimErases
open Go.ChangeShapes Go.WideShapes Go.ChangeAt Go.RowKit Go.X
set_option linter.unusedVariables false
set_option maxRecDepth 100000
set_option maxHeartbeats 40000000

theorem fIn : (Rows.reclaimErasesRow.inPlace == Tryz.prog.inPlace 4) = true := by rw [ZjW Zrj]; as_aux_lemma => kernel_rfl
theorem fUn : (Rows.reclaimErasesRow.unfollowed == Tryz.prog.unfollowed 4) = true := by rw [Zdg Zrj]; as_aux_lemma => kernel_rfl
theorem fRe : (Rows.reclaimErasesRow.recurses == Tryz.prog.recurses 4) = true := by rw [Zh8 (show Tryz.prog.unfollowed 4 = true by rw [Zdg Zrj]; kernel_rfl)]; as_aux_lemma => kernel_rfl
theorem fNa : (Rows.reclaimErasesRow.named == Tryz.prog.varsNamed 4) = true := by rw [ZgZ Zrj]; as_aux_lemma => kernel_rfl
theorem closed : joinedFacts Tryz.prog 4 Tryz.f4 Rows.reclaimErasesSpec Rows.reclaimErasesRow = true := by
  unfold joinedFacts
  repeat' (with_reducible apply ZrZ)
  all_goals first
    | (with_reducible exact fIn)
    | (with_reducible exact fUn)
    | (with_reducible exact fRe)
    | (with_reducible exact fNa)
    | (with_reducible exact tables.1)
    | (with_reducible exact tables.2.1)
    | (with_reducible exact fPk)
    | (as_aux_lemma => kernel_rfl)
end Go.Proofs.YtnmkiflnonafbaaGreatDoor.reclaimErases
namespace Go.Proofs.YtnmkiflnonafbaaGreatDoor
open Go
theorem ZmK {P : Program} (h : P.funcs.any Func.goes = false) (f : FuncId) : P.goes f = false := by
  have h1 : ∀ g : FuncId, (P.funcs[g]?).any Func.goes = false := by
    intro g
    cases hg : P.funcs[g]? with
    | none => rfl
    | some fn =>
      have := (Array.any_eq_false.1 h) g (Array.getElem?_eq_some_iff.1 hg).1
      rw [(Array.getElem?_eq_some_iff.1 hg).2] at this
      simpa using this
  unfold Program.goes
  simp [h, h1]
theorem ZiM {P : Program} (h : P.funcs.any Func.goes = false) (func : String) : P.goesAt .entering func = false := by
  unfold Program.goesAt Program.goesFrom
  cases P.funcNamed func with
  | none => rfl
  | some f => simp [ZmK h]
theorem Zse : Tryz.prog.funcs.any Func.goes = false := by as_aux_lemma => kernel_rfl
end Go.Proofs.YtnmkiflnonafbaaGreatDoor
