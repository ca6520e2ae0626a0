/- StoreNil returns true for every step, at every world whose package variables are as the program's text lays them; no condition beside the row's own. -/
import Derived.Test.YtdhcjepgihfplaaGreatDoorSNilC
namespace Go.Proofs.YtdhcjepgihfplaaGreatDoor
open Go
set_option maxRecDepth 100000
set_option maxHeartbeats 40000000
theorem goes_none {P : Program} (h : P.funcs.any Func.goes = false) (f : FuncId) : P.goes f = false := by
  have h1 : ∀ g : FuncId, (P.funcs[g]?).any Func.goes = false := by
    intro g
    cases hg : P.funcs[g]? with
    | none => rfl
    | some fn =>
      have := (Array.any_eq_false.1 h) g (Array.getElem?_eq_some_iff.1 hg).1
      rw [(Array.getElem?_eq_some_iff.1 hg).2] at this
      simpa using this
  unfold Program.goes
  simp [h, h1]
theorem goesAt_none {P : Program} (h : P.funcs.any Func.goes = false) (func : String) : P.goesAt .entering func = false := by
  unfold Program.goesAt Program.goesFrom
  cases P.funcNamed func with
  | none => rfl
  | some f => simp [goes_none h]
theorem noGo : Tryz.prog.funcs.any Func.goes = false := by as_aux_lemma => kernel_rfl
theorem storeNil_card : Rows.StoreNilCardSaid :=
  Claim7.holds_tied_plain_at .later [] [.data, .data, .data, .data, .data, .data] true (true, "33246636d7efd3e8a5787aefb455e34e843ed3c8d7240bc94c5c904536311ff6") true
    storeNil.row (fun _ h => by cases h) (by as_aux_lemma => kernel_rfl) (fun _ h => by cases h) storeNil_row_tie rfl ⟨rfl, rfl⟩ (by as_aux_lemma => kernel_rfl) rfl
    (fun f fn hf hfn => by
      obtain rfl : f = 3 := Option.some.inj ((show Tryz.prog.funcNamed "drumlin/drumlinlaw38.StoreNil" = some 3 by kernel_rfl).symm.trans hf) |>.symm
      obtain rfl : fn = Tryz.f3 := (Option.some.inj (Tryz.func3.symm.trans hfn)).symm
      exact ⟨by as_aux_lemma => kernel_rfl, fun j t ht => by
        rw [Tryz.params3] at ht
        match j with
        | 0 => simp at ht; subst ht; exact (show Tryz.prog.wantsStandIn 26 = false by kernel_rfl)
        | j + 1 => simp at ht⟩)
    (goesAt_none noGo _).symm
#print axioms storeNil_card
end Go.Proofs.YtdhcjepgihfplaaGreatDoor
