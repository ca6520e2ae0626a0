/- ConsoleNil returns true for every line, at every world whose package variables are as the program's text lays them; no condition beside the row's own. -/
import Derived.Test.YtfpiabkkelhgbaaGreatDoorCNilC
namespace Go.Proofs.YtfpiabkkelhgbaaGreatDoor
open Go
set_option maxRecDepth 100000
set_option maxHeartbeats 40000000
theorem consoleNil_card : Rows.ConsoleNilCardSaid :=
  Claim7.holds_tied_plain_at .later [] [.data, .data, .data, .pinned, .data, .sentinel, .sentinel, .data, .data, .data, .data, .data] true (true, "864539c487ad9109818583b56f8ad2bb3647d874a78b94ba5dae614ab9c792df") true
    consoleNil.row (fun _ h => by cases h) (by as_aux_lemma => kernel_rfl) (fun _ h => by cases h) consoleNil_row_tie rfl ⟨rfl, rfl⟩ (by as_aux_lemma => kernel_rfl) rfl
    (fun f fn hf hfn => by
      obtain rfl : f = 4 := Option.some.inj ((show Tryz.prog.funcNamed "drumlin/drumlinlaw47.ConsoleNil" = some 4 by kernel_rfl).symm.trans hf) |>.symm
      obtain rfl : fn = Tryz.f4 := (Option.some.inj (Tryz.func4.symm.trans hfn)).symm
      exact ⟨by as_aux_lemma => kernel_rfl, fun j t ht => by
        rw [Tryz.params4] at ht
        match j with
        | 0 => simp at ht; subst ht; exact (show Tryz.prog.wantsStandIn 9 = false by kernel_rfl)
        | j + 1 => simp at ht⟩)
    (goesAt_none noGo _).symm
#print axioms consoleNil_card
end Go.Proofs.YtfpiabkkelhgbaaGreatDoor
