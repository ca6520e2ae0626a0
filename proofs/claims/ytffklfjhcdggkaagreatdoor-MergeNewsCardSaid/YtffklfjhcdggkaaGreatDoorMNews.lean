/- MergeNews returns true for every configuration, at every world whose package variables are as the program's text lays them; no condition beside the row's own. -/
import Derived.Test.YtffklfjhcdggkaaGreatDoorMNewsC
namespace Go.Proofs.YtffklfjhcdggkaaGreatDoor
open Go
set_option maxRecDepth 100000
theorem mergeNews_card : Rows.MergeNewsCardSaid :=
  Claim7.holds_tied_plain_at .later [] [.data, .data, .data, .data, .data] true (true, "7da7ee61e66ea761c7d9ff01c97c92ba853f18af7924887625ae0d3bb7023d58") true
    mergeNews.row (fun _ h => by cases h) (by kernel_rfl) (fun _ h => by cases h) mergeNews_row_tie rfl ⟨rfl, rfl⟩ (by kernel_rfl) rfl
    (fun f fn hf hfn => by
      obtain rfl : f = 3 := Option.some.inj ((show Tryz.prog.funcNamed "drumlin/drumlinlaw31.MergeNews" = some 3 by kernel_rfl).symm.trans hf) |>.symm
      obtain rfl : fn = Tryz.f3 := (Option.some.inj (Tryz.func3.symm.trans hfn)).symm
      exact ⟨by kernel_rfl, fun j t ht => by
        rw [Tryz.params3] at ht
        match j with
        | 0 => simp at ht; subst ht; exact (show Tryz.prog.wantsStandIn 23 = false by kernel_rfl)
        | j + 1 => simp at ht⟩)
    (by kernel_rfl)
#print axioms mergeNews_card
end Go.Proofs.YtffklfjhcdggkaaGreatDoor
