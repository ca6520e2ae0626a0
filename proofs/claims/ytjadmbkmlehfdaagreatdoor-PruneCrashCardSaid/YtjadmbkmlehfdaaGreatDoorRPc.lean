/- PruneCrash returns true for every setup, list of numbers, truth value, byte and truth value, at every world whose package variables are as the program's text lays them; no condition beside the row's own. -/
import Derived.Test.YtjadmbkmlehfdaaGreatDoorRPcB
import Derived.Test.YtjadmbkmlehfdaaGreatDoorRPcF
namespace Go.Proofs.YtjadmbkmlehfdaaGreatDoor.pruneCrash
open Go.ChangeShapes Go.WideShapes Go.ChangeAt Go.RowKit Go.M
set_option linter.unusedVariables false
set_option maxRecDepth 100000
set_option maxHeartbeats 40000000
theorem row : Rows.PruneCrashSaid :=
  OpenClaim.holds_of_wide 5 Tryz.f5 rfl rfl rfl rfl rfl rfl rfl ⟨rfl, rfl, rfl, rfl, rfl⟩ rfl rfl rfl rfl rfl (by as_aux_lemma => kernel_rfl) Tryz.func5 closed
    (of_decide_eq_true (by kernel_rfl)) (by unfold Func.isWrapper; first | (rw [if_pos (by decide +kernel)]; kernel_rfl) | (rw [if_neg (by decide +kernel)]; exact ⟨rfl, rfl⟩))
    (fun os started H enc _ => lifted os started H enc)
end Go.Proofs.YtjadmbkmlehfdaaGreatDoor.pruneCrash
namespace Go.Proofs.YtjadmbkmlehfdaaGreatDoor
open Go
set_option maxRecDepth 100000
set_option maxHeartbeats 40000000
theorem pruneCrash_card : Rows.PruneCrashCardSaid :=
  Claim7.holds_tied_plain_at .later [] [.data, .data, .data, .data] true (true, "7041d3fb7d2f55b5753a6b73a2750c965263be0b97da1227778d86a8d3b12337") false
    pruneCrash.row (fun _ h => by cases h) (by as_aux_lemma => kernel_rfl) (fun _ h => by cases h) pruneCrash_row_tie rfl ⟨rfl, rfl⟩ (by as_aux_lemma => kernel_rfl) rfl
    (fun f fn hf hfn => by
      obtain rfl : f = 5 := Option.some.inj ((show Tryz.prog.funcNamed "drumlin/drumlinlaw36.PruneCrash" = some 5 by kernel_rfl).symm.trans hf) |>.symm
      obtain rfl : fn = Tryz.f5 := (Option.some.inj (Tryz.func5.symm.trans hfn)).symm
      exact ⟨by as_aux_lemma => kernel_rfl, fun j t ht => by
        rw [Tryz.params5] at ht
        match j with
        | 0 => simp at ht; subst ht; exact (show Tryz.prog.wantsStandIn 25 = false by kernel_rfl)
        | 1 => simp at ht; subst ht; exact (show Tryz.prog.wantsStandIn 60 = false by kernel_rfl)
        | 2 => simp at ht; subst ht; exact (show Tryz.prog.wantsStandIn 4 = false by kernel_rfl)
        | 3 => simp at ht; subst ht; exact (show Tryz.prog.wantsStandIn 5 = false by kernel_rfl)
        | 4 => simp at ht; subst ht; exact (show Tryz.prog.wantsStandIn 4 = false by kernel_rfl)
        | j + 5 => simp at ht⟩)
    (Go.M.goesAt_none noGo _).symm
#print axioms pruneCrash_card
end Go.Proofs.YtjadmbkmlehfdaaGreatDoor
