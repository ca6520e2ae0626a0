/- ReclaimSyncs returns true for every setup, at every world whose package variables are as the program's text lays them; no condition beside the row's own. -/
import Derived.Test.YtnmkiflnonafbaaGreatDoorRows
import Derived.Test.YtnmkiflnonafbaaGreatDoorChecked
import Derived.Test.YtnmkiflnonafbaaGreatDoorRSyG
import Derived.Test.YtnmkiflnonafbaaGreatDoorE13
import Derived.Test.YtnmkiflnonafbaaGreatDoorDxTlQ
import Derived.WalkKit
import Derived.ProofKit
import Derived.ReadAgain
import Derived.LaidMore
import Derived.OpenShut
import Derived.Stop.Joined
import Derived.SevenTiedAt
namespace Go.Proofs.YtnmkiflnonafbaaGreatDoor.reclaimSyncs
open Go.ChangeShapes Go.WideShapes Go.ChangeAt Go.RowKit Go.X
set_option linter.unusedVariables false
set_option maxRecDepth 100000
set_option maxHeartbeats 40000000

theorem fIn : (Rows.reclaimSyncsRow.inPlace == Tryz.prog.inPlace 3) = true := by rw [inPlace_of clos]; as_aux_lemma => kernel_rfl
theorem fUn : (Rows.reclaimSyncsRow.unfollowed == Tryz.prog.unfollowed 3) = true := by rw [unfollowed_of clos]; as_aux_lemma => kernel_rfl
theorem fRe : (Rows.reclaimSyncsRow.recurses == Tryz.prog.recurses 3) = true := by rw [recurses_of (show Tryz.prog.unfollowed 3 = true by rw [unfollowed_of clos]; kernel_rfl)]; as_aux_lemma => kernel_rfl
theorem fNa : (Rows.reclaimSyncsRow.named == Tryz.prog.varsNamed 3) = true := by rw [varsNamed_of clos]; as_aux_lemma => kernel_rfl
theorem closed : joinedFacts Tryz.prog 3 Tryz.f3 Rows.reclaimSyncsSpec Rows.reclaimSyncsRow = true := by
  unfold joinedFacts
  repeat' (with_reducible apply andI)
  all_goals first
    | (with_reducible exact fIn)
    | (with_reducible exact fUn)
    | (with_reducible exact fRe)
    | (with_reducible exact fNa)
    | (with_reducible exact tables.1)
    | (with_reducible exact tables.2.1)
    | (with_reducible exact fPk)
    | (as_aux_lemma => kernel_rfl)
end Go.Proofs.YtnmkiflnonafbaaGreatDoor.reclaimSyncs
namespace Go.Proofs.YtnmkiflnonafbaaGreatDoor
open Go
theorem goes_none {P : Program} (h : P.funcs.any Func.goes = false) (f : FuncId) : P.goes f = false := by
  have h1 : ∀ g : FuncId, (P.funcs[g]?).any Func.goes = false := by
    intro g
    cases hg : P.funcs[g]? with
    | none => rfl
    | some fn =>
      have := (Array.any_eq_false.1 h) g (Array.getElem?_eq_some_iff.1 hg).1
      rw [(Array.getElem?_eq_some_iff.1 hg).2] at this
      simpa using this
  unfold Program.goes
  simp [h, h1]
theorem goesAt_none {P : Program} (h : P.funcs.any Func.goes = false) (func : String) : P.goesAt .entering func = false := by
  unfold Program.goesAt Program.goesFrom
  cases P.funcNamed func with
  | none => rfl
  | some f => simp [goes_none h]
theorem noGo : Tryz.prog.funcs.any Func.goes = false := by as_aux_lemma => kernel_rfl
end Go.Proofs.YtnmkiflnonafbaaGreatDoor
