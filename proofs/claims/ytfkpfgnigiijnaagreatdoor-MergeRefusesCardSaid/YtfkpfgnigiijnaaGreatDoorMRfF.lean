/- ReclaimRefuses returns true for every setup, every choice and every distance, at every world whose package variables are as the program's text lays them; no condition beside the row's own. -/
import Derived.Test.YtfkpfgnigiijnaaGreatDoorRows
import Derived.Test.YtfkpfgnigiijnaaGreatDoorChecked
import Derived.Test.YtfkpfgnigiijnaaGreatDoorMRfG
import Derived.Test.YtfkpfgnigiijnaaGreatDoorE13
import Derived.Test.YtfkpfgnigiijnaaGreatDoorDxTlQ
import Derived.WalkKit
import Derived.ProofKit
import Derived.ReadAgain
import Derived.LaidMore
import Derived.OpenShut
import Derived.Stop.Joined
import Derived.SevenTiedAt
namespace Go.Proofs.YtfkpfgnigiijnaaGreatDoor.mergeRefuses
open Go.ChangeShapes Go.WideShapes Go.ChangeAt Go.RowKit Go.X
set_option linter.unusedVariables false
set_option maxRecDepth 100000
set_option maxHeartbeats 40000000

theorem fIn : (Rows.mergeRefusesRow.inPlace == Tryz.prog.inPlace 5) = true := by rw [ZmI Zwa]; as_aux_lemma => kernel_rfl
theorem fUn : (Rows.mergeRefusesRow.unfollowed == Tryz.prog.unfollowed 5) = true := by rw [Zd4 Zwa]; as_aux_lemma => kernel_rfl
theorem fRe : (Rows.mergeRefusesRow.recurses == Tryz.prog.recurses 5) = true := by rw [Zka (show Tryz.prog.unfollowed 5 = true by rw [Zd4 Zwa]; kernel_rfl)]; as_aux_lemma => kernel_rfl
theorem fNa : (Rows.mergeRefusesRow.named == Tryz.prog.varsNamed 5) = true := by rw [ZiZ Zwa]; as_aux_lemma => kernel_rfl
theorem closed : joinedFacts Tryz.prog 5 Tryz.f5 Rows.mergeRefusesSpec Rows.mergeRefusesRow = true := by
  unfold joinedFacts
  repeat' (with_reducible apply Zyc)
  all_goals first
    | (with_reducible exact fIn)
    | (with_reducible exact fUn)
    | (with_reducible exact fRe)
    | (with_reducible exact fNa)
    | (with_reducible exact tables.1)
    | (with_reducible exact tables.2.1)
    | (with_reducible exact fPk)
    | (as_aux_lemma => kernel_rfl)
end Go.Proofs.YtfkpfgnigiijnaaGreatDoor.mergeRefuses
namespace Go.Proofs.YtfkpfgnigiijnaaGreatDoor
open Go
theorem ZpN {P : Program} (h : P.funcs.any Func.goes = false) (f : FuncId) : P.goes f = false := by
  have h1 : ∀ g : FuncId, (P.funcs[g]?).any Func.goes = false := by
    intro g
    cases hg : P.funcs[g]? with
    | none => rfl
    | some fn =>
      have := (Array.any_eq_false.1 h) g (Array.getElem?_eq_some_iff.1 hg).1
      rw [(Array.getElem?_eq_some_iff.1 hg).2] at this
      simpa using this
  unfold Program.goes
  simp [h, h1]
theorem ZkD {P : Program} (h : P.funcs.any Func.goes = false) (func : String) : P.goesAt .entering func = false := by
  unfold Program.goesAt Program.goesFrom
  cases P.funcNamed func with
  | none => rfl
  | some f => simp [ZpN h]
theorem Zy3 : Tryz.prog.funcs.any Func.goes = false := by as_aux_lemma => kernel_rfl
end Go.Proofs.YtfkpfgnigiijnaaGreatDoor
