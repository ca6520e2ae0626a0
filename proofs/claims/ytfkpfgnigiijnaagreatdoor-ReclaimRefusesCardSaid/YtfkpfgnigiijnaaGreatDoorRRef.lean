/- ReclaimRefuses returns true for every setup and every distance, at every world whose package variables are as the program's text lays them; no condition beside the row's own. -/
import Derived.Test.YtfkpfgnigiijnaaGreatDoorRRefC
namespace Go.Proofs.YtfkpfgnigiijnaaGreatDoor
open Go
set_option maxRecDepth 100000
set_option maxHeartbeats 40000000
theorem reclaimRefuses_card : Rows.ReclaimRefusesCardSaid :=
  Claim7.holds_tied_plain_at .later [] [.data, .data, .data] true (true, "a751e53a732b69fd54c7f0c8c534111fa40477f3a48b1b03f13583855932973d") true
    reclaimRefuses.row (fun _ h => by cases h) (by as_aux_lemma => kernel_rfl) (fun _ h => by cases h) reclaimRefuses_row_tie rfl ⟨rfl, rfl⟩ (by as_aux_lemma => kernel_rfl) rfl
    (fun f fn hf hfn => by
      obtain rfl : f = 4 := Option.some.inj ((show Tryz.prog.funcNamed "drumlin/drumlinlaw30.ReclaimRefuses" = some 4 by kernel_rfl).symm.trans hf) |>.symm
      obtain rfl : fn = Tryz.f4 := (Option.some.inj (Tryz.func4.symm.trans hfn)).symm
      exact ⟨by as_aux_lemma => kernel_rfl, fun j t ht => by
        rw [Tryz.params4] at ht
        match j with
        | 0 => simp at ht; subst ht; exact (show Tryz.prog.wantsStandIn 25 = false by kernel_rfl)
        | 1 => simp at ht; subst ht; exact (show Tryz.prog.wantsStandIn 61 = false by kernel_rfl)
        | j + 2 => simp at ht⟩)
    (goesAt_none noGo _).symm
#print axioms reclaimRefuses_card
end Go.Proofs.YtfkpfgnigiijnaaGreatDoor
