/- Walks 34. -/
import Derived.Test.YtjadmbkmlehfdaaGreatDoorProg
import Derived.Test.YtjadmbkmlehfdaaGreatDoorK24
set_option linter.unusedVariables false
set_option linter.unusedSimpArgs false
set_option maxRecDepth 100000
namespace Go.M
open Go.Proofs Go.RowKit Go.Shelf
attribute [local go_sem] Oper.semAt_some
theorem leaves_marks {F : Fence} {n : Nat} {P : Program} {fn : Func} {tmps : Array Value} {R : Ending → World → Prop} : ∀ (ds : List Nat) (W : World), (∀ D ∈ ds, W.heap[D]? = some (.deferred (some []))) → ds.Nodup →
 (∀ W', Upd (fun b => b ∈ ds) W W' → LeavesInM F n P fn tmps R [] .returning W') → LeavesInM F n P fn tmps R (ds.map fun D => { target := .collected D, args := #[] }) .returning W
 | [], W, _, _, h => h W (Upd.refl _ _)
 | D :: ds, W, hD, hn, h => by
  have hk := hD D (List.mem_cons_self ..)
  obtain ⟨n1, n2⟩ := List.nodup_cons.1 hn
  refine ⟨by simp, .inl ⟨D, _, rfl, run_takeDeferred hk, ?_⟩⟩
  have U : Upd (fun b => b ∈ D :: ds) W (W.putObj D (.deferred none)) := (Upd.refl _ W).grown (grownBy_putObj' _ D _) (fun k e => by cases e; exact .inl (List.mem_cons_self ..))
  refine leaves_marks ds _ (fun D' hD' => ?_) n2 (fun W' U' => h W' (U.trans (U'.mono (fun b _ hb => List.mem_cons_of_mem _ hb))))
  rw [World.putObj_heap_other (fun e => n1 (by rw [← e]; exact hD'))]
  exact hD D' (List.mem_cons_of_mem _ hD')
end Go.M
