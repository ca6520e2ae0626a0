/- JudgeNames returns true for every set and every other number, at every world whose package variables are as the program's text lays them; no condition beside the row's own. -/
import Derived.Test.YtbplpekmpoenaaaGreatDoorJNamC
namespace Go.Proofs.YtbplpekmpoenaaaGreatDoor
open Go
set_option maxRecDepth 100000
set_option maxHeartbeats 40000000
theorem judgeNames_card : Rows.JudgeNamesCardSaid :=
  Claim7.holds_tied_plain_at .later [] [.data, .data, .data, .data, .pinned, .data, .sentinel, .sentinel, .data, .data, .data, .data, .data] true (true, "62de8f8c5af94ca6747957c3e7795e3c5525cf37d09fea9ed68d74e15526e889") true
    judgeNames.row (fun _ h => by cases h) (by as_aux_lemma => kernel_rfl) (fun _ h => by cases h) judgeNames_row_tie rfl ⟨rfl, rfl⟩ (by as_aux_lemma => kernel_rfl) rfl
    (fun f fn hf hfn => by
      obtain rfl : f = 7 := Option.some.inj ((show Tryz.prog.funcNamed "drumlin/drumlinlaw46.JudgeNames" = some 7 by kernel_rfl).symm.trans hf) |>.symm
      obtain rfl : fn = Tryz.f7 := (Option.some.inj (Tryz.func7.symm.trans hfn)).symm
      exact ⟨by as_aux_lemma => kernel_rfl, fun j t ht => by
        rw [Tryz.params7] at ht
        match j with
        | 0 => simp at ht; subst ht; exact (show Tryz.prog.wantsStandIn 37 = false by kernel_rfl)
        | 1 => simp at ht; subst ht; exact (show Tryz.prog.wantsStandIn 3 = false by kernel_rfl)
        | j + 2 => simp at ht⟩)
    (goesAt_none noGo _).symm
#print axioms judgeNames_card
end Go.Proofs.YtbplpekmpoenaaaGreatDoor
