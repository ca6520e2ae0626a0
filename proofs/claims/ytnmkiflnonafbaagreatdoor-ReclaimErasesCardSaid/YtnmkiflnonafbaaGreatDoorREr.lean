/- ReclaimErases returns true for every setup, at every world whose package variables are as the program's text lays them; no condition beside the row's own. -/
import Derived.Test.YtnmkiflnonafbaaGreatDoorRErC
namespace Go.Proofs.YtnmkiflnonafbaaGreatDoor
open Go
set_option maxRecDepth 100000
set_option maxHeartbeats 40000000
theorem reclaimErases_card : Rows.ReclaimErasesCardSaid :=
  Claim7.holds_tied_plain_at .later [] [.data, .data, .data] true (true, "aa9f87a73fb2981f50cfc401ea2160c56d71317036f9eba98ce9e7fc1a5e8020") false
    reclaimErases.row (fun _ h => by cases h) (by as_aux_lemma => kernel_rfl) (fun _ h => by cases h) reclaimErases_row_tie rfl ⟨rfl, rfl⟩ (by as_aux_lemma => kernel_rfl) rfl
    (fun f fn hf hfn => by
      obtain rfl : f = 4 := Option.some.inj ((show Tryz.prog.funcNamed "drumlin/drumlinlaw30.ReclaimErases" = some 4 by kernel_rfl).symm.trans hf) |>.symm
      obtain rfl : fn = Tryz.f4 := (Option.some.inj (Tryz.func4.symm.trans hfn)).symm
      exact ⟨by as_aux_lemma => kernel_rfl, fun j t ht => by
        rw [Tryz.params4] at ht
        match j with
        | 0 => simp at ht; subst ht; exact (show Tryz.prog.wantsStandIn 25 = false by kernel_rfl)
        | 1 => simp at ht; subst ht; exact (show Tryz.prog.wantsStandIn 5 = false by kernel_rfl)
        | 2 => simp at ht; subst ht; exact (show Tryz.prog.wantsStandIn 5 = false by kernel_rfl)
        | j + 3 => simp at ht⟩)
    (ZiM Zse _).symm
#print axioms reclaimErases_card
end Go.Proofs.YtnmkiflnonafbaaGreatDoor
