/- StoreFormats returns true for every configuration, at every world whose package variables are as the program's text lays them; no condition beside the row's own. -/
import Derived.Test.YtfpiabkkelhgbaaGreatDoorSForC
namespace Go.Proofs.YtfpiabkkelhgbaaGreatDoor
open Go
set_option maxRecDepth 100000
set_option maxHeartbeats 40000000
theorem storeFormats_card : Rows.StoreFormatsCardSaid :=
  Claim7.holds_tied_plain_at .later [] [.data, .data, .data, .data, .data, .data] true (true, "864539c487ad9109818583b56f8ad2bb3647d874a78b94ba5dae614ab9c792df") true
    storeFormats.row (fun _ h => by cases h) (by as_aux_lemma => kernel_rfl) (fun _ h => by cases h) storeFormats_row_tie rfl ⟨rfl, rfl⟩ (by as_aux_lemma => kernel_rfl) rfl
    (fun f fn hf hfn => by
      obtain rfl : f = 3 := Option.some.inj ((show Tryz.prog.funcNamed "drumlin/drumlinlaw38.StoreFormats" = some 3 by kernel_rfl).symm.trans hf) |>.symm
      obtain rfl : fn = Tryz.f3 := (Option.some.inj (Tryz.func3.symm.trans hfn)).symm
      exact ⟨by as_aux_lemma => kernel_rfl, fun j t ht => by
        rw [Tryz.params3] at ht
        match j with
        | 0 => simp at ht; subst ht; exact (show Tryz.prog.wantsStandIn 23 = false by kernel_rfl)
        | j + 1 => simp at ht⟩)
    (goesAt_none noGo _).symm
#print axioms storeFormats_card
end Go.Proofs.YtfpiabkkelhgbaaGreatDoor
