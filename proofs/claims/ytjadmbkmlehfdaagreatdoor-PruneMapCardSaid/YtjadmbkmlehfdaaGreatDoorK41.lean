/- Walks 41. -/
import Derived.Test.YtjadmbkmlehfdaaGreatDoorProg
import Derived.Test.YtjadmbkmlehfdaaGreatDoorK36
import Derived.Test.YtjadmbkmlehfdaaGreatDoorK40
set_option linter.unusedVariables false
set_option linter.unusedSimpArgs false
set_option maxRecDepth 100000
namespace Go.M
open Go.Proofs Go.RowKit
set_option linter.unusedSimpArgs false
def idxColV (q X O S n : Nat) (mv : Value) (sv : Nat → Value) : Col := fun b => if b = X then (q, 0) else if b = O then (q, 1) else if b = S then (q, 2) else if mv.ownBlock = some b then (q, 3) else match whichV sv n b with | some i => (q, 5 + i) | none => (q, 4)
theorem IdxC.copy {w : World} {col : Col} {q X n : Nat} {M : ByteArray → List Ent} {s : IdxS} (h : IdxC w col q X n M s) (q' : Nat) :
 Calls Tryz.prog 28 #[.pointer (some ⟨X, 0, none⟩)] w fun e w' => ∃ C c x', e = .returned (.pointer (some ⟨C, 0, none⟩)) ∧ Old w w' ∧ x'.es = s.es ∧ ∀ col', Newly w w' c col' → IdxC w' col' q' C n M x' := by
 obtain ⟨t, fX⟩ := h.fX
 have hc : ∀ i, i < n → w.cell? ⟨s.S, i, none⟩ = some (s.sv i) := fun i hi => by
  have := h.fS.cell i
  rwa [h.fs i hi] at this
 refine (xcopy (fX.cell 0) (fX.cell 1) h.lo h.hi h.kv (fun j hj => ⟨hc j hj, h.own j hj, by have := h.len j hj; omega⟩)).mono ?_
 rintro e w' ⟨rfl, hU, rv, sv', mv', n', key', val', kz', L, hm, hs, hL⟩
 obtain ⟨g, cap, hrv⟩ := own_block hs.own h.lo
 subst hrv
 have hg := hs.rb g rfl
 have hgl := own_lt' hs.own (b := g) rfl
 obtain ⟨cg, hcg⟩ := own_has hs.own (b := g) rfl
 obtain ⟨tX, hX⟩ := hs.hX
 have hXl := hX.lt
 obtain ⟨tO, hO⟩ := hm.kv.om.made
 have sg : ∀ i, i < n → ∀ b, (sv' i).ownBlock = some b → b ≠ g ∧ mv'.ownBlock ≠ some b ∧ w.heap.size + 4 ≤ b ∧ b < w'.heap.size := fun i hi b hb => by
  obtain ⟨cur, hcur⟩ := own_has (hs.row i hi) hb
  refine ⟨fun e => ?_, fun e => ?_, by have := hs.sb i hi b hb; omega, own_lt' (hs.row i hi) hb⟩
  ·rw [e] at hcur
   have := has_types hcur hcg
   revert this; decide
  ·obtain ⟨c2, h2⟩ := own_has hm.kv.om.own e
   have := has_types hcur h2
   revert this; decide
 have mg : ∀ b, mv'.ownBlock = some b → b ≠ g ∧ w.heap.size + 4 ≤ b ∧ b < w'.heap.size := fun b hb => by
  refine ⟨fun e => ?_, hm.mb b hb, own_lt' hm.kv.om.own hb⟩
  obtain ⟨c2, h2⟩ := own_has hm.kv.om.own hb
  rw [e] at h2
  have := has_types h2 hcg
  revert this; decide
 have iV : ∀ b, ∀ i j, i < n → j < n → (sv' i).ownBlock = some b → (sv' j).ownBlock = some b → i = j := fun b i j hi hj h1 h2 => by
  rcases Nat.lt_trichotomy i j with h3 | h3 | h3
  ·have := hs.inc i j h3 hj b b h1 h2; omega
  ·exact h3
  ·have := hs.inc j i h3 hi b b h2 h1; omega
 refine ⟨w.heap.size + 1, idxColV q' (w.heap.size + 1) w.heap.size g n mv' sv', { s with O := w.heap.size, S := g, c := cap, tS := 142, cS := cg, mv := mv', mn := n', key := key', val := val', sv := sv', kz := kz' }, rfl, hU, rfl, fun col' hn => ⟨⟨tX, hX⟩, hcg, fun i hi => ?_, ⟨hm.kv.om, hm.kv.n5, hm.kv.mO, hm.kv.row, hm.kv.len, hm.kv.sep, hm.kv.mp, hm.kv.on, hm.kv.inj, fun r hr b hb => ?_⟩, hs.row, h.len, ?_, ?_, ?_, fun b hb => ?_, fun i hi b hb => ?_, h.lo, h.hi, h.con⟩⟩
 ·have h2 := hs.own.cells (g := g) rfl i (sv' i) (by rw [List.getElem?_map, List.getElem?_range hi]; rfl)
  rw [show (⟨g, 0, none⟩ : Addr).add i = ⟨g, i, none⟩ from by unfold Addr.add; split <;> simp_all] at h2
  rw [← hcg.cell]
  exact h2
 ·obtain ⟨b1, b2⟩ := hm.kv.bl r hr b hb
  obtain ⟨b3, b4⟩ := hm.kv.sep r hr b hb
  have bg : b ≠ g := fun e => by
   obtain ⟨cur, hcur⟩ := own_has (hm.kv.row r hr) hb
   rw [e] at hcur
   have := has_types hcur hcg
   revert this; decide
  have hnone : whichV sv' n b = none := by
   unfold whichV
   rw [List.find?_eq_none]
   intro i hi
   rw [List.mem_range] at hi
   simp only [beq_iff_eq]
   intro e
   have := hs.sb i hi b e
   omega
  show col' b = _
  rw [hn b (by omega) (own_lt' (hm.kv.row r hr) hb)]
  unfold idxColV
  rw [if_neg (by omega), if_neg (by omega), if_neg bg, if_neg b4, hnone]
 ·rw [hn _ (by omega) hXl]; unfold idxColV; rw [if_pos rfl]
 ·show col' w.heap.size = _
  rw [hn _ (by omega) hO.lt]; unfold idxColV; rw [if_neg (by omega), if_pos rfl]
 ·show col' g = _
  rw [hn _ (by omega) hgl]; unfold idxColV; rw [if_neg (by omega), if_neg (by omega), if_pos rfl]
 ·obtain ⟨b1, b2, b3⟩ := mg b hb
  show col' b = _
  rw [hn _ (by omega) b3]; unfold idxColV; rw [if_neg (by omega), if_neg (by omega), if_neg b1, if_pos hb]
 ·obtain ⟨b1, b2, b3, b4⟩ := sg i hi b hb
  rw [hn _ (by omega) b4]; unfold idxColV; rw [if_neg (by omega), if_neg (by omega), if_neg b1, if_neg b2, whichV_some (iV b) hi hb]
end Go.M
