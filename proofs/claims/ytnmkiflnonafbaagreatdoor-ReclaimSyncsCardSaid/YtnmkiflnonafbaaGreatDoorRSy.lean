/- ReclaimSyncs returns true for every setup, at every world whose package variables are as the program's text lays them; no condition beside the row's own. -/
import Derived.Test.YtnmkiflnonafbaaGreatDoorRSyC
namespace Go.Proofs.YtnmkiflnonafbaaGreatDoor
open Go
set_option maxRecDepth 100000
set_option maxHeartbeats 40000000
theorem reclaimSyncs_card : Rows.ReclaimSyncsCardSaid :=
  Claim7.holds_tied_plain_at .later [] [.data, .data, .data] true (true, "aa9f87a73fb2981f50cfc401ea2160c56d71317036f9eba98ce9e7fc1a5e8020") false
    reclaimSyncs.row (fun _ h => by cases h) (by as_aux_lemma => kernel_rfl) (fun _ h => by cases h) reclaimSyncs_row_tie rfl ⟨rfl, rfl⟩ (by as_aux_lemma => kernel_rfl) rfl
    (fun f fn hf hfn => by
      obtain rfl : f = 3 := Option.some.inj ((show Tryz.prog.funcNamed "drumlin/drumlinlaw30.ReclaimSyncs" = some 3 by kernel_rfl).symm.trans hf) |>.symm
      obtain rfl : fn = Tryz.f3 := (Option.some.inj (Tryz.func3.symm.trans hfn)).symm
      exact ⟨by as_aux_lemma => kernel_rfl, fun j t ht => by
        rw [Tryz.params3] at ht
        match j with
        | 0 => simp at ht; subst ht; exact (show Tryz.prog.wantsStandIn 25 = false by kernel_rfl)
        | j + 1 => simp at ht⟩)
    (goesAt_none noGo _).symm
#print axioms reclaimSyncs_card
end Go.Proofs.YtnmkiflnonafbaaGreatDoor
