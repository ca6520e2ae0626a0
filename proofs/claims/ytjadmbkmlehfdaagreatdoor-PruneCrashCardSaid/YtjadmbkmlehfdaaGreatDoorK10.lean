/- Walks 10. -/
import Derived.Test.YtjadmbkmlehfdaaGreatDoorProg
import Derived.Test.YtjadmbkmlehfdaaGreatDoorK9
set_option linter.unusedVariables false
set_option linter.unusedSimpArgs false
set_option maxRecDepth 100000
namespace Go.M
open Go.Proofs Go.RowKit
structure Con (n mn : Nat) (key : Nat → ByteArray) (kz : Nat → List Ent) (es : Nat → List Ent) : Prop where
 a : ∀ i, i < n → ∀ x ∈ es i, x.slot = i ∧ ∃ r, r < mn ∧ key r = x.key ∧ x ∈ kz r
 b : ∀ r, r < mn → kz r ≠ [] ∧ ∀ y ∈ kz r, y.key = key r ∧ y.slot < n ∧ y ∈ es y.slot
 inj : ∀ i j, i < mn → j < mn → key i = key j → i = j
 ord : ∀ r, r < mn → (kz r).Pairwise (fun x y => x.before y = true)
 dis : ∀ i, i < n → (es i).Pairwise (fun x y => x.seq ≠ y.seq)
theorem SetDesc.content {mn mn' : Nat} {k : ByteArray} {v : Value} {key key' : Nat → ByteArray} {val val' : Nat → Value} (h : SetDesc mn k v key val mn' key' val') (inj : ∀ i j, i < mn → j < mn → key i = key j → i = j) (kz : Nat → List Ent) (l : List Ent) :
 ∃ kz' : Nat → List Ent, (∀ i, i < mn' → (val' i = v ∧ key' i = k ∧ kz' i = l) ∨ ∃ j, j < mn ∧ key j ≠ k ∧ val' i = val j ∧ key' i = key j ∧ kz' i = kz j) ∧ (∃ i, i < mn' ∧ key' i = k ∧ kz' i = l) ∧
  (∀ j, j < mn → key j ≠ k → ∃ i, i < mn' ∧ key' i = key j ∧ kz' i = kz j) ∧ ∀ i j, i < mn' → j < mn' → key' i = key' j → i = j := by
 obtain ⟨r, hr, hlt, ⟨h1, h2, rfl, rfl, rfl⟩ | ⟨h1, rfl, rfl, rfl⟩⟩ := h
 ·refine ⟨fun i => if i = r then l else kz i, fun i hi => ?_, ⟨r, h1, h2, if_pos rfl⟩, fun j hj hk => ⟨j, hj, rfl, if_neg (fun e => hk (by rw [e, h2]))⟩, inj⟩
  by_cases e : i = r
  ·subst e; exact .inl ⟨if_pos rfl, h2, if_pos rfl⟩
  ·exact .inr ⟨i, hi, fun e2 => e (inj i r hi h1 (e2.trans h2.symm)), if_neg e, rfl, if_neg e⟩
 ·have c1 : ∀ {α : Type} (x : α) (f : Nat → α) {i : Nat}, i < r → insAt r x f i = f i := by intro α x f i h; exact if_pos h
  have c2 : ∀ {α : Type} (x : α) (f : Nat → α), insAt r x f r = x := by intro α x f; simp [insAt]
  have c3 : ∀ {α : Type} (x : α) (f : Nat → α) {i : Nat}, r < i → insAt r x f i = f (i - 1) := by intro α x f i h; unfold insAt; rw [if_neg (by omega), if_neg (by omega)]
  have kk : ∀ i, i < mn + 1 → i ≠ r → ∃ j, j < mn ∧ (∀ {α : Type} (x : α) (f : Nat → α), insAt r x f i = f j) ∧ j = if i < r then i else i - 1 := fun i hi hne => by
   rcases Nat.lt_or_ge i r with h | h
   ·exact ⟨i, by omega, by intro α x f; exact c1 x f h, by rw [if_pos h]⟩
   ·exact ⟨i - 1, by omega, by intro α x f; exact c3 x f (by omega), by rw [if_neg (by omega)]⟩
  refine ⟨insAt r l kz, fun i hi => ?_, ⟨r, by omega, c2 _ _, c2 _ _⟩, fun j hj hk => ?_, fun i j hi hj e => ?_⟩
  ·by_cases e : i = r
   ·subst e; exact .inl ⟨c2 _ _, c2 _ _, c2 _ _⟩
   ·obtain ⟨j, a1, a2, -⟩ := kk i hi e
    exact .inr ⟨j, a1, h1 j a1, a2 _ _, a2 _ _, a2 _ _⟩
  ·rcases Nat.lt_or_ge j r with h | h
   ·exact ⟨j, by omega, c1 _ _ h, c1 _ _ h⟩
   ·exact ⟨j + 1, by omega, c3 _ _ (by omega), c3 _ _ (by omega)⟩
  ·by_cases e1 : i = r
   ·subst e1
    by_cases e2 : j = i
    ·exact e2.symm
    ·obtain ⟨j', a1, a2, -⟩ := kk j hj e2
     rw [c2, a2] at e
     exact absurd e.symm (h1 j' a1)
   ·obtain ⟨i', a1, a2, a3⟩ := kk i hi e1
    by_cases e2 : j = r
    ·subst e2
     rw [c2, a2] at e
     exact absurd e (h1 i' a1)
    ·obtain ⟨j', b1, b2, b3⟩ := kk j hj e2
     rw [a2, b2] at e
     have := inj i' j' a1 b1 e
     rw [a3, b3] at this
     split at this <;> split at this <;> omega
theorem before_not {x e : Ent} (h : ¬ x.before e = true) (hs : x.seq = e.seq → x.slot ≠ e.slot) : e.before x = true := by
 simp only [Ent.before, Bool.or_eq_true, Bool.and_eq_true, decide_eq_true_eq, not_or, not_and] at h ⊢
 obtain ⟨h1, h2⟩ := h
 rcases Nat.lt_or_ge x.seq e.seq with h3 | h3
 ·exact .inl h3
 ·have h4 : x.seq = e.seq := by omega
  exact .inr ⟨h4.symm, by have := h2 h4; have := hs h4; omega⟩
theorem before_trans {x y z : Ent} (h : x.before y = true) (h2 : y.before z = true) : x.before z = true := by
 simp only [Ent.before, Bool.or_eq_true, Bool.and_eq_true, decide_eq_true_eq] at h h2 ⊢
 omega
theorem mem_ins {rk : Nat} {zs : List Ent} {e y : Ent} : y ∈ zs.take rk ++ e :: zs.drop rk ↔ y = e ∨ y ∈ zs := by
 have := List.take_append_drop rk zs
 constructor
 ·intro h
  rcases List.mem_append.1 h with h | h
  ·exact .inr (List.mem_of_mem_take h)
  ·rcases List.mem_cons.1 h with h | h
   ·exact .inl h
   ·exact .inr (List.mem_of_mem_drop h)
 ·rintro (rfl | h)
  ·simp
  ·rw [← this] at h
   rcases List.mem_append.1 h with h | h
   ·exact List.mem_append_left _ h
   ·exact List.mem_append_right _ (List.mem_cons_of_mem _ h)
theorem ins_length {rk : Nat} {zs : List Ent} {e : Ent} (h : rk ≤ zs.length) : (zs.take rk ++ e :: zs.drop rk).length = zs.length + 1 := by
 simp
 omega
theorem Place.sorted {e : Ent} {rk : Nat} {zs : List Ent} (h : Place e rk zs) (hs : zs.Pairwise (fun x y => x.before y = true)) (hf : ∀ x ∈ zs, Fit e x) : (zs.take rk ++ e :: zs.drop rk).Pairwise (fun x y => x.before y = true) := by
 obtain ⟨h0, h1⟩ := h
 have ha : ∀ x ∈ zs.take rk, x.before e = true := fun x hx => by
  obtain ⟨i, hi, rfl⟩ := List.mem_iff_getElem.1 hx
  rw [List.length_take] at hi
  rw [List.getElem_take]
  exact (h1 i _ (List.getElem?_eq_getElem (by omega))).2 (by omega)
 have hb : ∀ x ∈ zs.drop rk, e.before x = true := fun x hx => by
  obtain ⟨i, hi, rfl⟩ := List.mem_iff_getElem.1 hx
  rw [List.length_drop] at hi
  rw [List.getElem_drop]
  refine before_not (fun hq => ?_) (fun hq => (hf _ (List.getElem_mem _) hq).2.2.2)
  have := (h1 (rk + i) _ (List.getElem?_eq_getElem (by omega))).1 hq
  omega
 refine List.pairwise_append.2 ⟨hs.sublist (List.take_sublist _ _), List.pairwise_cons.2 ⟨hb, hs.sublist (List.drop_sublist _ _)⟩, fun x hx y hy => ?_⟩
 rcases List.mem_cons.1 hy with rfl | hy
 ·exact ha x hx
 ·exact before_trans (ha x hx) (hb y hy)
theorem Con.add {n mn mn' : Nat} {key key' : Nat → ByteArray} {kz kz' es : Nat → List Ent} {e : Ent} {zs : List Ent} {rk : Nat} (h : Con n mn key kz es) (hs : e.slot < n) (hp : Place e rk zs) (h1 : ∀ x ∈ zs, Fit e x) (h2 : ∀ x ∈ es e.slot, x.seq ≠ e.seq)
 (hz : (zs = [] ∧ ∀ r, r < mn → key r ≠ e.key) ∨ ∃ r, r < mn ∧ key r = e.key ∧ zs = kz r)
 (d1 : ∀ i, i < mn' → (key' i = e.key ∧ kz' i = zs.take rk ++ e :: zs.drop rk) ∨ ∃ j, j < mn ∧ key j ≠ e.key ∧ key' i = key j ∧ kz' i = kz j) (d2 : ∃ i, i < mn' ∧ key' i = e.key ∧ kz' i = zs.take rk ++ e :: zs.drop rk) (d3 : ∀ j, j < mn → key j ≠ e.key → ∃ i, i < mn' ∧ key' i = key j ∧ kz' i = kz j)
 (d4 : ∀ i j, i < mn' → j < mn' → key' i = key' j → i = j) : Con n mn' key' kz' (fun i => if i = e.slot then es i ++ [e] else es i) := by
 have hin : ∀ {x : Ent}, x ∈ es x.slot → x ∈ (if x.slot = e.slot then es x.slot ++ [e] else es x.slot) := fun {x} hx => by
  split
  ·exact List.mem_append_left _ hx
  ·exact hx
 have ha : ∀ i, i < n → ∀ x ∈ es i, x.slot = i ∧ ∃ r, r < mn' ∧ key' r = x.key ∧ x ∈ kz' r := fun i hi x hx => by
  obtain ⟨q1, r, q2, q3, q4⟩ := h.a i hi x hx
  refine ⟨q1, ?_⟩
  by_cases hk : key r = e.key
  ·rcases hz with ⟨-, hn⟩ | ⟨r', p1, p2, p3⟩
   ·exact absurd hk (hn r q2)
   ·have := h.inj r' r p1 q2 (p2.trans hk.symm)
    subst this
    obtain ⟨i', g1, g2, g3⟩ := d2
    exact ⟨i', g1, by rw [g2, ← hk, q3], by rw [g3, p3]; exact mem_ins.2 (.inr q4)⟩
  ·obtain ⟨i', g1, g2, g3⟩ := d3 r q2 hk
   exact ⟨i', g1, g2.trans q3, by rw [g3]; exact q4⟩
 refine ⟨fun i hi x hx => ?_, fun r hr => ?_, d4, fun r hr => ?_, fun i hi => ?_⟩
 ·by_cases hie : i = e.slot
  ·simp only [if_pos hie] at hx
   rcases List.mem_append.1 hx with hx | hx
   ·exact ha i hi x hx
   ·simp at hx
    subst hx
    obtain ⟨i', g1, g2, g3⟩ := d2
    exact ⟨hie.symm, i', g1, g2, by rw [g3]; exact mem_ins.2 (.inl rfl)⟩
  ·simp only [if_neg hie] at hx
   exact ha i hi x hx
 ·rcases d1 r hr with ⟨g1, g2⟩ | ⟨j, g0, -, g1, g2⟩
  ·refine ⟨by rw [g2]; simp, fun y hy => ?_⟩
   rw [g2] at hy
   rcases mem_ins.1 hy with rfl | hy
   ·exact ⟨g1.symm, hs, by simp⟩
   ·rcases hz with ⟨rfl, -⟩ | ⟨r', p1, p2, rfl⟩
    ·cases hy
    ·obtain ⟨q1, q2, q3⟩ := (h.b r' p1).2 y hy
     exact ⟨by rw [q1, p2, g1], q2, hin q3⟩
  ·obtain ⟨q0, q⟩ := h.b j g0
   refine ⟨by rw [g2]; exact q0, fun y hy => ?_⟩
   rw [g2] at hy
   obtain ⟨q1, q2, q3⟩ := q y hy
   exact ⟨q1.trans g1.symm, q2, hin q3⟩
 ·rcases d1 r hr with ⟨g1, g2⟩ | ⟨j, g0, -, g1, g2⟩
  ·rw [g2]
   refine hp.sorted ?_ h1
   rcases hz with ⟨rfl, -⟩ | ⟨r', p1, p2, rfl⟩
   ·simp
   ·exact h.ord r' p1
  ·rw [g2]; exact h.ord j g0
 ·by_cases hie : i = e.slot
  ·subst hie
   simp only [if_true]
   exact List.pairwise_append.2 ⟨h.dis _ hi, by simp, fun x hx y hy => by simp at hy; subst hy; exact h2 x hx⟩
  ·simp only [if_neg hie]
   exact h.dis i hi
end Go.M
