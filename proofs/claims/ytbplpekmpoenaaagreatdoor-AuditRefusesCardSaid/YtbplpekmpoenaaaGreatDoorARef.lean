/- AuditRefuses returns true for every configuration by numbers and both other numbers, at every world whose package variables are as the program's text lays them; no condition beside the row's own. -/
import Derived.Test.YtbplpekmpoenaaaGreatDoorARefC
namespace Go.Proofs.YtbplpekmpoenaaaGreatDoor
open Go
set_option maxRecDepth 100000
set_option maxHeartbeats 40000000
theorem auditRefuses_card : Rows.AuditRefusesCardSaid :=
  Claim7.holds_tied_plain_at .later [] [.data, .data, .data, .data, .data, .data, .pinned, .data, .sentinel, .sentinel, .data, .data] true (true, "62de8f8c5af94ca6747957c3e7795e3c5525cf37d09fea9ed68d74e15526e889") true
    auditRefuses.row (fun _ h => by cases h) (by as_aux_lemma => kernel_rfl) (fun _ h => by cases h) auditRefuses_row_tie rfl ⟨rfl, rfl⟩ (by as_aux_lemma => kernel_rfl) rfl
    (fun f fn hf hfn => by
      obtain rfl : f = 4 := Option.some.inj ((show Tryz.prog.funcNamed "drumlin/drumlinlaw44.AuditRefuses" = some 4 by kernel_rfl).symm.trans hf) |>.symm
      obtain rfl : fn = Tryz.f4 := (Option.some.inj (Tryz.func4.symm.trans hfn)).symm
      exact ⟨by as_aux_lemma => kernel_rfl, fun j t ht => by
        rw [Tryz.params4] at ht
        match j with
        | 0 => simp at ht; subst ht; exact (show Tryz.prog.wantsStandIn 36 = false by kernel_rfl)
        | 1 => simp at ht; subst ht; exact (show Tryz.prog.wantsStandIn 37 = false by kernel_rfl)
        | 2 => simp at ht; subst ht; exact (show Tryz.prog.wantsStandIn 5 = false by kernel_rfl)
        | j + 3 => simp at ht⟩)
    (goesAt_none noGo _).symm
#print axioms auditRefuses_card
end Go.Proofs.YtbplpekmpoenaaaGreatDoor
