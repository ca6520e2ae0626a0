/- ReclaimRefuses returns true for every setup, every choice and every distance, at every world whose package variables are as the program's text lays them; no condition beside the row's own. -/
import Derived.Test.YtfkpfgnigiijnaaGreatDoorMRfC
namespace Go.Proofs.YtfkpfgnigiijnaaGreatDoor
open Go
set_option maxRecDepth 100000
set_option maxHeartbeats 40000000
theorem mergeRefuses_card : Rows.MergeRefusesCardSaid :=
  Claim7.holds_tied_plain_at .later [] [.data, .data, .data, .data, .data] true (true, "a751e53a732b69fd54c7f0c8c534111fa40477f3a48b1b03f13583855932973d") true
    mergeRefuses.row (fun _ h => by cases h) (by as_aux_lemma => kernel_rfl) (fun _ h => by cases h) mergeRefuses_row_tie rfl ⟨rfl, rfl⟩ (by as_aux_lemma => kernel_rfl) rfl
    (fun f fn hf hfn => by
      obtain rfl : f = 5 := Option.some.inj ((show Tryz.prog.funcNamed "drumlin/drumlinlaw31.MergeRefuses" = some 5 by kernel_rfl).symm.trans hf) |>.symm
      obtain rfl : fn = Tryz.f5 := (Option.some.inj (Tryz.func5.symm.trans hfn)).symm
      exact ⟨by as_aux_lemma => kernel_rfl, fun j t ht => by
        rw [Tryz.params5] at ht
        match j with
        | 0 => simp at ht; subst ht; exact (show Tryz.prog.wantsStandIn 25 = false by kernel_rfl)
        | 1 => simp at ht; subst ht; exact (show Tryz.prog.wantsStandIn 5 = false by kernel_rfl)
        | 2 => simp at ht; subst ht; exact (show Tryz.prog.wantsStandIn 61 = false by kernel_rfl)
        | j + 3 => simp at ht⟩)
    (ZkD Zy3 _).symm
#print axioms mergeRefuses_card
end Go.Proofs.YtfkpfgnigiijnaaGreatDoor
