/- Walks 5. -/
import Derived.Test.YtjadmbkmlehfdaaGreatDoorProg
import Derived.Test.YtjadmbkmlehfdaaGreatDoorK4
import Derived.Test.YtjadmbkmlehfdaaGreatDoorK3
set_option linter.unusedVariables false
set_option linter.unusedSimpArgs false
set_option maxRecDepth 100000
namespace Go.M
open Go.Proofs Go.RowKit
theorem bless_cons (a b : UInt8) (x y : List UInt8) : Op.bytesLess (a :: x) (b :: y) = true ↔ a.toNat < b.toNat ∨ (a.toNat = b.toNat ∧ Op.bytesLess x y = true) := by
 simp only [Op.bytesLess, Bool.or_eq_true, Bool.and_eq_true, decide_eq_true_eq, beq_iff_eq, UInt8.lt_iff_toNat_lt, ← UInt8.toNat_inj]
theorem bless_le_lt : ∀ (a b c : List UInt8), Op.bytesLess b a = false → Op.bytesLess b c = true → Op.bytesLess a c = true
 | a, b, [], h1, h2 => by cases b <;> simp [Op.bytesLess] at h2
 | [], b, c :: y, h1, h2 => by simp [Op.bytesLess]
 | a :: x, [], c :: y, h1, h2 => by simp [Op.bytesLess] at h1
 | a :: x, b :: z, c :: y, h1, h2 => by
  have ih := bless_le_lt x z y
  rw [bless_cons] at h2 ⊢
  have h1' : ¬ (b.toNat < a.toNat ∨ (b.toNat = a.toNat ∧ Op.bytesLess z x = true)) := by rw [← bless_cons, h1]; simp
  have hz : Op.bytesLess z x = false ∨ Op.bytesLess z x = true := by cases Op.bytesLess z x <;> simp
  rcases h2 with h2 | ⟨h2, h3⟩
  ·exact .inl (by omega)
  ·by_cases he : b.toNat = a.toNat
   ·rcases hz with hz | hz
    ·exact .inr ⟨by omega, ih hz h3⟩
    ·exact absurd (.inr ⟨he, hz⟩) h1'
   ·exact .inl (by omega)
theorem bless_asymm : ∀ (a b : List UInt8), Op.bytesLess a b = true → Op.bytesLess b a = false
 | a, [], h => by cases a <;> simp [Op.bytesLess] at h
 | [], b :: y, h => by simp [Op.bytesLess]
 | a :: x, b :: y, h => by
  have ih := bless_asymm x y
  rw [bless_cons] at h
  rw [Bool.eq_false_iff, Ne, bless_cons]
  intro h2
  rcases h with h | ⟨h, h3⟩
  ·omega
  ·rcases h2 with h2 | ⟨h2, h4⟩
   ·omega
   ·rw [ih h3] at h4
    cases h4
theorem bless_tri : ∀ (a b : List UInt8), Op.bytesLess a b = false → Op.bytesLess b a = false → a = b
 | [], [], _, _ => rfl
 | [], b :: y, h, _ => by simp [Op.bytesLess] at h
 | a :: x, [], _, h => by simp [Op.bytesLess] at h
 | a :: x, b :: y, h1, h2 => by
  have h1' : ¬ (a.toNat < b.toNat ∨ (a.toNat = b.toNat ∧ Op.bytesLess x y = true)) := by rw [← bless_cons, h1]; simp
  have h2' : ¬ (b.toNat < a.toNat ∨ (b.toNat = a.toNat ∧ Op.bytesLess y x = true)) := by rw [← bless_cons, h2]; simp
  have e : a.toNat = b.toNat := by omega
  have ih := bless_tri x y (by cases hq : Op.bytesLess x y; rfl; exact absurd (.inr ⟨e, hq⟩) h1') (by cases hq : Op.bytesLess y x; rfl; exact absurd (.inr ⟨e.symm, hq⟩) h2')
  rw [ih, UInt8.toNat_inj.1 e]
theorem keyLt_irrefl (a : ByteArray) : keyLt a a = false := by
 cases h : keyLt a a with
 | false => rfl
 | true => exact (bless_asymm _ _ h).symm.trans h |>.symm ▸ rfl
theorem keyLt_tri {a b : ByteArray} (h1 : keyLt a b = false) (h2 : keyLt b a = false) : a = b := (key_eq a b).1 (bless_tri _ _ h1 h2)
theorem keyLt_le {a b c : ByteArray} (h1 : keyLt b a = false) (h2 : keyLt b c = true) : keyLt a c = true := bless_le_lt _ _ _ h1 h2
theorem keyLt_trans {a b c : ByteArray} (h1 : keyLt a b = true) (h2 : keyLt b c = true) : keyLt a c = true := bless_le_lt _ _ _ (bless_asymm _ _ h1) h2
def insAt {α : Type} (r : Nat) (x : α) (f : Nat → α) : Nat → α := fun i => if i < r then f i else if i = r then x else f (i - 1)
theorem itemsOf_succ (n : Nat) (key : Nat → ByteArray) (val : Nat → Value) : itemsOf (n + 1) key val = itemsOf n key val ++ [.string (key n), val n] := by simp [itemsOf, List.range_succ]
theorem itemsOf_congr {n : Nat} {key key' : Nat → ByteArray} {val val' : Nat → Value} (h : ∀ i, i < n → key i = key' i ∧ val i = val' i) : itemsOf n key val = itemsOf n key' val' := by
 induction n with
 | zero => rfl
 | succ n ih => rw [itemsOf_succ, itemsOf_succ, ih (fun i hi => h i (by omega)), (h n (by omega)).1, (h n (by omega)).2]
theorem itemsOf_ins {n r : Nat} (hr : r ≤ n) (key : Nat → ByteArray) (val : Nat → Value) (k : ByteArray) (v : Value) :
 (itemsOf n key val).take (r * 2) ++ [.string k, v] ++ (itemsOf n key val).drop (r * 2) = itemsOf (n + 1) (insAt r k key) (insAt r v val) := by
 induction n with
 | zero =>
  obtain rfl : r = 0 := by omega
  simp [itemsOf, insAt]
 | succ n ih =>
  have hl := itemsOf_length n key val
  by_cases h : r = n + 1
  ·subst h
   have hl2 := itemsOf_length (n + 1) key val
   rw [List.take_of_length_le (by omega), List.drop_eq_nil_of_le (by omega), List.append_nil, itemsOf_succ (n + 1)]
   have e1 : itemsOf (n + 1) (insAt (n + 1) k key) (insAt (n + 1) v val) = itemsOf (n + 1) key val := itemsOf_congr fun i hi => by simp [insAt, hi]
   rw [e1]
   simp [insAt]
  ·have hr' : r ≤ n := by omega
   rw [itemsOf_succ n key val, List.take_append_of_le_length (by omega), List.drop_append_of_le_length (by omega), itemsOf_succ (n + 1), ← ih hr']
   simp [insAt, show ¬ n + 1 < r by omega, show ¬ n + 1 = r by omega]
theorem itemsOf_set {n r : Nat} (hr : r < n) (key : Nat → ByteArray) (val : Nat → Value) (v : Value) :
 (itemsOf n key val).set (r * 2 + 1) v = itemsOf n key (fun i => if i = r then v else val i) := by
 induction n with
 | zero => omega
 | succ n ih =>
  have hl := itemsOf_length n key val
  rw [itemsOf_succ, itemsOf_succ]
  by_cases h : r = n
  ·subst h
   rw [List.set_append_right _ _ (by omega), hl, show r * 2 + 1 - r * 2 = 1 by omega]
   rw [itemsOf_congr (key' := key) (val' := fun i => if i = r then v else val i) (fun i hi => ⟨rfl, by rw [if_neg (by omega)]⟩)]
   simp
  ·rw [List.set_append_left _ _ (by omega), ih (by omega)]
   simp [show ¬ n = r by omega]
theorem sorted_ins {n r : Nat} {key : Nat → ByteArray} {k : ByteArray} (hr : r ≤ n) (hs : ∀ k i j, i ≤ j → j < n → keyLt (key j) k = true → keyLt (key i) k = true)
 (ha : ∀ i, i < r → keyLt (key i) k = true) (hb : ∀ i, r ≤ i → i < n → keyLt (key i) k = false) : ∀ k' i j, i ≤ j → j < n + 1 → keyLt (insAt r k key j) k' = true → keyLt (insAt r k key i) k' = true := by
 intro k' i j hij hj h
 unfold insAt at h ⊢
 by_cases h1 : i < r
 ·rw [if_pos h1]
  by_cases h2 : j < r
  ·rw [if_pos h2] at h; exact hs k' i j hij (by omega) h
  ·rw [if_neg h2] at h
   by_cases h3 : j = r
   ·rw [if_pos h3] at h; exact keyLt_trans (ha i h1) h
   ·rw [if_neg h3] at h; exact hs k' i (j - 1) (by omega) (by omega) h
 ·rw [if_neg h1]
  rw [if_neg (show ¬ j < r by omega)] at h
  by_cases h3 : i = r
  ·rw [if_pos h3]
   by_cases h4 : j = r
   ·rwa [if_pos h4] at h
   ·rw [if_neg h4] at h
    exact keyLt_le (hb (j - 1) (by omega) (by omega)) h
  ·rw [if_neg h3]
   rw [if_neg (show ¬ j = r by omega)] at h
   exact hs k' (i - 1) (j - 1) (by omega) (by omega) h
theorem items_one {n : Nat} {key : Nat → ByteArray} {val : Nat → Value} (hv : ∀ i, i < n → (val i).oneCell' = true) : ∀ u ∈ itemsOf n key val, u.oneCell' = true := by
 intro u hu
 simp only [itemsOf, List.mem_flatMap, List.mem_range] at hu
 obtain ⟨i, hi, hu⟩ := hu
 simp at hu
 rcases hu with rfl | rfl
 ·rfl
 ·exact hv i hi
theorem own_setRow {w : World} {e : TypeId} {size n g c j : Nat} {xs : List Value} {u : Value} (own : w.ownsRow 0 e size (.slice (some ⟨g, 0, none⟩) n c) n xs) (hj : j < n * size) :
 (w.setCell ⟨g, j, none⟩ u).ownsRow 0 e size (.slice (some ⟨g, 0, none⟩) n c) n (xs.set j u) := by
 refine ⟨by rw [List.length_set]; exact own.1, ?_⟩
 rcases own.2 with ⟨h1, h2⟩ | ⟨g', cap, cur, h1, hb, hg, hnc, hcm, hcs, htk⟩
 ·cases h1
 ·refine .inr ⟨g', cap, cur.setIfInBounds j u, h1, hb, ?_, hnc, hcm, by simpa using hcs, ?_⟩
  ·have : g' = g := by
    injection h1 with h1 _ _
    injection h1 with h1
    injection h1 with h1
    exact h1.symm
   subst this
   exact Has.set (t := e) hg j u
  ·rw [Array.toList_setIfInBounds, List.take_set, htk]
theorem rank_exists {key : Nat → ByteArray} {k : ByteArray} : ∀ n, (∀ i j, i ≤ j → j < n → keyLt (key j) k = true → keyLt (key i) k = true) → ∃ r, r ≤ n ∧ (∀ i, i < r → keyLt (key i) k = true) ∧ (∀ i, r ≤ i → i < n → keyLt (key i) k = false)
 | 0, _ => ⟨0, Nat.le_refl _, fun i h => by omega, fun i h1 h2 => by omega⟩
 | n + 1, hs => by
  obtain ⟨r, hr, ha, hb⟩ := rank_exists n (fun i j h1 h2 => hs i j h1 (by omega))
  by_cases h : r = n
  ·subst h
   cases hq : keyLt (key r) k with
   | true => exact ⟨r + 1, Nat.le_refl _, fun i hi => by by_cases e : i = r; (· rw [e]; exact hq); (· exact ha i (by omega)), fun i h1 h2 => by omega⟩
   | false => exact ⟨r, by omega, ha, fun i h1 h2 => by by_cases e : i = r; (· rw [e]; exact hq); (· exact hb i h1 (by omega))⟩
  ·refine ⟨r, by omega, ha, fun i h1 h2 => ?_⟩
   by_cases e : i = n
   ·cases hq : keyLt (key i) k with
    | false => rfl
    | true =>
     have := hs r i h1 (by omega) hq
     rw [hb r (Nat.le_refl _) (by omega)] at this
     cases this
   ·exact hb i h1 (by omega)
def SetDesc (n : Nat) (k : ByteArray) (v : Value) (key : Nat → ByteArray) (val : Nat → Value) (n' : Nat) (key' : Nat → ByteArray) (val' : Nat → Value) : Prop :=
 ∃ r, r ≤ n ∧ (∀ i, i < r → keyLt (key i) k = true) ∧ ((r < n ∧ key r = k ∧ n' = n ∧ key' = key ∧ val' = fun i => if i = r then v else val i) ∨ ((∀ i, i < n → key i ≠ k) ∧ n' = n + 1 ∧ key' = insAt r k key ∧ val' = insAt r v val))
def SetPostX (w : World) (O n : Nat) (mv v : Value) (k : ByteArray) (key : Nat → ByteArray) (val : Nat → Value) (e : Ending) (w' : World) : Prop :=
 (∃ u b, e = .returned (.tuple #[u, b, .int .i64 0])) ∧ ∃ (mv' : Value) (n' : Nat) (key' : Nat → ByteArray) (val' : Nat → Value), OMap w' O mv' n' key' val' ∧ Upd (fun b => b = O ∨ mv.ownBlock = some b) w w' ∧
   (∀ b, mv'.ownBlock = some b → mv.ownBlock = some b ∨ w.heap.size ≤ b) ∧ SetDesc n k v key val n' key' val'
theorem set_exact {w : World} {O n vn vc : Nat} {va : Option Addr} {mv : Value} {k : ByteArray} {key : Nat → ByteArray} {val : Nat → Value} (h : OMap w O mv n key val) (hag : mv.ownBlock ≠ some O) (hv : ∀ i, i < n → (val i).oneCell' = true) (hn : n < 1000) :
 Calls Tryz.prog 82 #[.pointer (some ⟨O, 0, none⟩), .string k, .slice va vn vc] w (SetPostX w O n mv (.slice va vn vc) k key val) := by
 obtain ⟨t, hO⟩ := h.made
 obtain ⟨r, hr, ha, hb⟩ := rank_exists (key := key) (k := k) n (h.sorted k)
 have hF : ∀ b, (b = true ↔ r < n ∧ key r = k) → Calls Tryz.prog 164 #[.pointer (some ⟨O, 0, none⟩), .string k] w fun e w2 => e = .returned (.tuple #[.int .i64 ((r : Nat) : Int), .bool b]) ∧ Old w w2 := by
  intro b hbb
  refine (find_any (k := k) h).mono ?_
  rintro e w2 ⟨r', b', hr', rfl, hb', ha', hbb', hU⟩
  have e1 : r' = r := by
   rcases Nat.lt_trichotomy r' r with h1 | h1 | h1
   ·have := ha r' h1
    rw [hbb' r' (Nat.le_refl _) (by omega)] at this
    cases this
   ·exact h1
   ·have := ha' r h1
    rw [hb r (Nat.le_refl _) (by omega)] at this
    cases this
  subst e1
  have e2 : b' = b := by rw [Bool.eq_iff_iff, hb', hbb]
  subst e2
  exact ⟨rfl, hU⟩
 by_cases hk : r < n ∧ key r = k
 ·have hF1 := hF true (by simp [hk])
  rcases h.at with ⟨rfl, rfl, h0, h1⟩ | ⟨B, c, rfl, hM⟩
  ·omega
  ·obtain ⟨cur, hcur⟩ : ∃ cur, Has w B 233 cur := by
    rcases h.own.2 with ⟨h1, h2⟩ | ⟨g', cap, cur, h1, hb, hg, _⟩
    ·cases h1
    ·injection h1 with h1 _ _
     injection h1 with h1
     injection h1 with h1
     subst h1
     exact ⟨cur, hg⟩
   have hBO : B ≠ O := fun e => hag (by rw [e]; rfl)
   refine (oset_old (va := va) (vn := vn) (vc := vc) hM hcur hk.1 hk.2 hF1).mono ?_
   rintro e w' ⟨rfl, w1, U1, U2⟩
   refine ⟨⟨_, _, rfl⟩, .slice (some ⟨B, 0, none⟩) n c, n, key, fun i => if i = r then .slice va vn vc else val i, ?_, ?_, fun b hb => .inl hb, ⟨r, hr, ha, .inl ⟨hk.1, hk.2, rfl, rfl, rfl⟩⟩⟩
   ·refine ⟨⟨t, U2.has ((U1.has hO).setOther (by exact hBO) _)⟩, ?_, h.sorted, h.few⟩
    rw [← itemsOf_set hk.1]
    exact Upd.own U2 (own_setRow (Upd.own U1 h.own (fun _ _ x => x)) (by omega)) (fun _ _ x => x)
   ·exact (((Upd.mono U1 (fun _ _ x => x.elim)).setCell _ _ (.inl (.inr rfl))).after U2 (fun _ _ x => x.elim))
 ·have hF1 := hF false (by simp [hk])
  have hne : ∀ i, i < n → key i ≠ k := fun i hi e => by
   have hri : r ≤ i := Nat.le_of_not_lt (fun h => by have := ha i h; rw [e, keyLt_irrefl] at this; cases this)
   refine hk ⟨by omega, keyLt_tri (hb r (Nat.le_refl _) (by omega)) ?_⟩
   cases hq : keyLt k (key r) with
   | false => rfl
   | true =>
    have := h.sorted (key r) r i hri hi (by rw [e]; exact hq)
    rw [keyLt_irrefl] at this
    cases this
  refine (oset_new (va := va) (vn := vn) (vc := vc) hO h.own (items_one hv) (by omega) hr hag hF1).mono ?_
  rintro e w' ⟨rfl, w1, v', U1, hown, hfr, rfl⟩
  have hv'O : v'.ownBlock ≠ some O := fun e => by
   rcases hfr O e with h1 | h1
   ·exact hag h1
   ·have := hO.lt
    omega
  refine ⟨⟨_, _, rfl⟩, v', n + 1, insAt r k key, insAt r (.slice va vn vc) val, ?_, ?_, hfr, ⟨r, hr, ha, .inr ⟨hne, rfl, rfl, rfl⟩⟩⟩
  ·refine ⟨⟨t, ?_⟩, ?_, sorted_ins hr h.sorted ha hb, by omega⟩
   ·have := (U1.has hO hag).set 1 v'
    simpa using this
   ·rw [← itemsOf_ins hr]
    have U3 : Upd (fun b => b = O) w1 (w1.setCell ⟨O, 1, none⟩ v') := (Upd.refl _ _).setCell _ _ (.inl rfl)
    exact Upd.own U3 hown (fun b hb e => hv'O (by rw [hb, e]))
  ·exact (Upd.mono U1 (fun _ _ x => .inr x)).setCell _ _ (.inl (.inl rfl))
theorem SetDesc.each {n : Nat} {k : ByteArray} {v : Value} {key : Nat → ByteArray} {val : Nat → Value} {n' : Nat} {key' : Nat → ByteArray} {val' : Nat → Value} (h : SetDesc n k v key val n' key' val') : n' ≤ n + 1 ∧ ∀ i, i < n' → (val' i = v ∧ key' i = k) ∨ ∃ j, j < n ∧ val' i = val j ∧ key' i = key j := by
 obtain ⟨r, hr, -, ⟨h1, h2, rfl, rfl, rfl⟩ | ⟨h1, rfl, rfl, rfl⟩⟩ := h
 ·refine ⟨by omega, fun i hi => ?_⟩
  by_cases e : i = r
  ·exact .inl ⟨if_pos e, by rw [e]; exact h2⟩
  ·exact .inr ⟨i, hi, if_neg e, rfl⟩
 ·refine ⟨Nat.le_refl _, fun i hi => ?_⟩
  unfold insAt
  by_cases h1 : i < r
  ·exact .inr ⟨i, by omega, by rw [if_pos h1], by rw [if_pos h1]⟩
  ·by_cases h2 : i = r
   ·exact .inl ⟨by rw [if_neg h1, if_pos h2], by rw [if_neg h1, if_pos h2]⟩
   ·exact .inr ⟨i - 1, by omega, by rw [if_neg h1, if_neg h2], by rw [if_neg h1, if_neg h2]⟩
theorem ret_bool {a b : Bool} (h : a = b) : Ending.returned (.bool a) = .returned (.bool b) := by rw [h]
def wIdx (k : Nat) : Nat := if k = 1 then 0 else if k = 2 then 1 else if k = 4 then 2 else 3
theorem index_walk {w : World} {B k : Nat} (hk : k = 1 ∨ k = 2 ∨ k = 4 ∨ k = 8) (c0 : w.cell? ⟨B, 0, none⟩ = some (.int .i64 1)) (c1 : w.cell? ⟨B, 1, none⟩ = some (.int .i64 2)) (c2 : w.cell? ⟨B, 2, none⟩ = some (.int .i64 4)) (c3 : w.cell? ⟨B, 3, none⟩ = some (.int .i64 8)) :
 Calls Tryz.prog 280 #[.slice (some ⟨B, 0, none⟩) 4 4, .int .i64 ((k : Nat) : Int)] w fun e w' => e = .returned (.int .i64 ((wIdx k : Nat) : Int)) ∧ w = w' := by
 rcases hk with rfl | rfl | rfl | rfl
 ·go_enter Tryz.func280, Tryz.ntmps280
  go_wp2
  refine wp_loop_rounds 1 ?_
  rw [rounds_succ]
  go_wp2
  go_ret
  exact ⟨rfl, rfl⟩
 ·go_enter Tryz.func280, Tryz.ntmps280
  go_wp2
  refine wp_loop_rounds 2 ?_
  rw [rounds_succ]
  go_wp2
  rw [rounds_succ]
  go_wp2
  go_ret
  exact ⟨rfl, rfl⟩
 ·go_enter Tryz.func280, Tryz.ntmps280
  go_wp2
  refine wp_loop_rounds 3 ?_
  rw [rounds_succ]
  go_wp2
  rw [rounds_succ]
  go_wp2
  rw [rounds_succ]
  go_wp2
  go_ret
  exact ⟨rfl, rfl⟩
 ·go_enter Tryz.func280, Tryz.ntmps280
  go_wp2
  refine wp_loop_rounds 4 ?_
  rw [rounds_succ]
  go_wp2
  rw [rounds_succ]
  go_wp2
  rw [rounds_succ]
  go_wp2
  rw [rounds_succ]
  go_wp2
  go_ret
  exact ⟨rfl, rfl⟩
theorem info_u8r : (Tryz.prog.info? 5).map (fun i => (i.zero, i.size, i.bytes)) = some (some (.int .u8 0), 1, 1) := by kernel_rfl
def NewRow (w : World) (e : TypeId) (k n : Nat) (xs : List Value) (en : Ending) (w' : World) : Prop :=
 ∃ v', en = .returned v' ∧ w'.ownsRow 0 e k v' n xs ∧ Old w w' ∧ (∀ b, v'.ownBlock = some b → w.heap.size ≤ b)
theorem clone_nil {w : World} :
 Calls Tryz.prog 210 #[.slice none 0 0] w (NewRow w 5 1 0 []) := by
 have hq : ∀ w : World, (binOp .eql 77 (.slice none 0 0) (.slice none 0 0)).run Tryz.prog w = .ok (.bool true) w := fun w => Lib.run_eql_slice_nil w _ _ _ _ _ _ _ Tryz.underlying77
 go_enter Tryz.func210, Tryz.ntmps210
 go_wp2
 go_ret
 exact ⟨_, rfl, World.ownsRow_nil _ _ _ _, Upd.refl _ _, fun b hb => by cases hb⟩
theorem clone_some {w : World} {ad : Addr} {n c : Nat} {xs : List Value} (hl : xs.length = n) (he : ∀ j u, xs[j]? = some u → w.cell? (ad.add j) = some u) (h1 : ∀ u ∈ xs, u.oneCell' = true) (hn : n ≤ 100000) :
 Calls Tryz.prog 210 #[.slice (some ad) n c] w (NewRow w 5 1 n xs) := by
 obtain ⟨i0, hi0, hz0, hz1, hz2⟩ := info_parts info_u8r
 have hq : ∀ w : World, (binOp .eql 77 (.slice (some ad) n c) (.slice none 0 0)).run Tryz.prog w = .ok (.bool false) w := fun w => Lib.run_eql_slice_nil w _ _ _ _ _ _ _ Tryz.underlying77
 have HE := Lib.hid he
 have HW : ∀ o : Obj, Hid (∀ j u, xs[j]? = some u → (w.alloc o).cell? (ad.add j) = some u) := fun o j u hj => Old.cellOf' ((Upd.refl _ w).alloc o) (he j u hj)
 have HL := Lib.hid hl
 clear he hl
 go_enter Tryz.func210, Tryz.ntmps210
 go_wp2_with (first | (at_builtin; refine wpList_append_mk rfl (.tmp 5) (.tmp 6) 77 rfl 5 i0 (.int .u8 0) 1 1 Tryz.underlying77 hi0 hz0 hz1 hz2 rfl (by decide) (.slice (some ⟨w.heap.size, 0, none⟩) 0 0) 0 [] rfl ?c0 ad n c xs rfl (by rw [HL.out]; omega) (by exact (HW _).out) h1 (by unfold maxLen; omega) (by omega) ?_))
 case c0 => exact ⟨rfl, .inr ⟨w.heap.size, 0, #[], rfl, Nat.zero_le _, heap_alloc_new _ _, Nat.le_refl _, Nat.zero_le _, rfl, rfl⟩⟩
 intro v' w1 hown' hgrow hnil hfresh
 go_wp2
 go_ret
 refine ⟨_, rfl, by simpa using hown', ((Upd.refl _ w).alloc _).grown hgrow (fun k hk => .inr ?_), fun b hb => ?_⟩
 ·simp [Value.ownBlock] at hk; omega
 ·rcases hfresh b hb with h | h
  ·have : w.heap.size = b := by simpa [Value.ownBlock] using h
   omega
  ·exact Nat.le_trans (by simp) h
theorem widths_walk {w : World} :
 Calls Tryz.prog 271 #[] w fun e w' => e = .returned (.slice (some ⟨w.heap.size, 0, none⟩) 4 4) ∧ w.alloc (.cells #[.int .i64 1, .int .i64 2, .int .i64 4, .int .i64 8] 3) = w' := by
 go_enter Tryz.func271, Tryz.ntmps271
 go_wp2
 go_ret
 exact ⟨rfl, rfl⟩
theorem contains_walk {w : World} {B k : Nat} (hk : k = 1 ∨ k = 2 ∨ k = 4 ∨ k = 8) (c0 : w.cell? ⟨B, 0, none⟩ = some (.int .i64 1)) (c1 : w.cell? ⟨B, 1, none⟩ = some (.int .i64 2)) (c2 : w.cell? ⟨B, 2, none⟩ = some (.int .i64 4)) (c3 : w.cell? ⟨B, 3, none⟩ = some (.int .i64 8)) :
 Calls Tryz.prog 270 #[.slice (some ⟨B, 0, none⟩) 4 4, .int .i64 ((k : Nat) : Int)] w fun e w' => e = .returned (.bool true) ∧ w = w' := by
 have HI := Lib.hid (index_walk hk c0 c1 c2 c3)
 clear hk c0 c1 c2 c3
 go_enter Tryz.func270, Tryz.ntmps270
 go_wp2_with (first | (go_at_call 280; refine HI.out.mono ?_; rintro e w1 ⟨rfl, rfl⟩))
 go_ret
 exact ⟨rfl, rfl⟩
theorem fits_walk {w : World} {n k : Nat} (hk : k = 1 ∨ k = 2 ∨ k = 4 ∨ k = 8) (hn : n < 2 ^ (8 * k)) :
 Calls Tryz.prog 272 #[.int .u64 ((n : Nat) : Int), .int .i64 ((k : Nat) : Int)] w fun e w' => e = .returned (.bool true) ∧ w.alloc (.cells #[.int .i64 1, .int .i64 2, .int .i64 4, .int .i64 8] 3) = w' := by
 have HC := Lib.hid (contains_walk (w := w.alloc (.cells #[.int .i64 1, .int .i64 2, .int .i64 4, .int .i64 8] 3)) (B := w.heap.size) hk (by simp) (by simp) (by simp) (by simp))
 by_cases h8 : k = 8
 ·subst h8
  clear hk hn
  go_enter Tryz.func272, Tryz.ntmps272
  go_wp2_with (first | (go_at_call 271; refine widths_walk.mono ?_; rintro e w1 ⟨rfl, rfl⟩) | (go_at_call 270; refine HC.out.mono ?_; rintro e w1 ⟨rfl, rfl⟩))
  go_ret
  exact ⟨rfl, rfl⟩
 ·have e1 : ((k : Int) == 8) = false := by rw [beq_eq_false_iff_ne]; omega
  have e2 : (n : Int) / 2 ^ (8 * k) = 0 := by
   have : ((2 : Int) ^ (8 * k)) = ((2 ^ (8 * k) : Nat) : Int) := by simp
   rw [this]; exact Int.ediv_eq_zero_of_lt (by omega) (by omega)
  have hk7 : k ≤ 7 := by omega
  have E2 := Lib.hid e2
  clear hk hn e2
  go_enter Tryz.func272, Tryz.ntmps272
  go_wp2_with (first | (go_at_call 271; refine widths_walk.mono ?_; rintro e w1 ⟨rfl, rfl⟩) | (go_at_call 270; refine HC.out.mono ?_; rintro e w1 ⟨rfl, rfl⟩))
  go_ret
  exact ⟨ret_bool (by rw [E2.out]; rfl), rfl⟩
def leB (n k : Nat) : List UInt8 := (List.range k).map fun i => UInt8.ofNat (n / 2 ^ (8 * i) % 256)
theorem leB_succ (n k : Nat) : leB n (k + 1) = leB n k ++ [UInt8.ofNat (n / 2 ^ (8 * k) % 256)] := by simp [leB, List.range_succ]
theorem leB_length (n k : Nat) : (leB n k).length = k := by simp [leB]
def NewRow2 (w : World) (e : TypeId) (k n : Nat) (xs : List Value) (en : Ending) (w' : World) : Prop :=
 ∃ v', en = .returned (.tuple #[v', .int .i64 0]) ∧ w'.ownsRow 0 e k v' n xs ∧ Old w w' ∧ (∀ b, v'.ownBlock = some b → w.heap.size ≤ b)
def BytesAt (w : World) (v : Value) (bs : List UInt8) : Prop := (v = .slice none 0 0 ∧ bs = []) ∨ ∃ ad c, v = .slice (some ad) bs.length c ∧ ∀ j u, (bs.map bcell)[j]? = some u → w.cell? (ad.add j) = some u
theorem BytesAt.old {w w' : World} {v : Value} {bs : List UInt8} (h : BytesAt w v bs) (O : Old w w') : BytesAt w' v bs := by
 rcases h with h | ⟨ad, c, h1, h2⟩
 ·exact .inl h
 ·exact .inr ⟨ad, c, h1, fun j u hj => Old.cellOf' O (h2 j u hj)⟩
theorem bcell_one (bs : List UInt8) : ∀ u ∈ bs.map bcell, u.oneCell' = true := by
 intro u hu
 obtain ⟨x, _, rfl⟩ := List.mem_map.1 hu
 rfl
theorem clone_walk {w : World} {v : Value} {bs : List UInt8} (h : BytesAt w v bs) (hn : bs.length ≤ 100000) :
 Calls Tryz.prog 210 #[v] w (NewRow w 5 1 bs.length (bs.map bcell)) := by
 rcases h with ⟨rfl, rfl⟩ | ⟨ad, c, rfl, h2⟩
 ·exact clone_nil
 ·exact clone_some (by simp) h2 (bcell_one bs) hn
theorem append_walk {w : World} {v : Value} {bs : List UInt8} {n k : Nat} (h : BytesAt w v bs) (hb : bs.length ≤ 10000) (hk : k = 1 ∨ k = 2 ∨ k = 4 ∨ k = 8) (hn : n < 2 ^ (8 * k)) :
 Calls Tryz.prog 247 #[v, .int .u64 ((n : Nat) : Int), .int .i64 ((k : Nat) : Int)] w (NewRow2 w 5 1 (bs.length + k) ((bs ++ leB n k).map bcell)) := by
 have hv : ∃ a c, v = .slice a bs.length c := by
  rcases h with ⟨rfl, rfl⟩ | ⟨ad, c, rfl, h2⟩
  ·exact ⟨none, 0, rfl⟩
  ·exact ⟨_, _, rfl⟩
 have hk8 : k ≤ 8 := by omega
 obtain ⟨va, vc, rfl⟩ := hv
 obtain ⟨i0, hi0, hz0, hz1, hz2⟩ := info_parts info_u8r
 have HC := Lib.hid (contains_walk (w := w.alloc (.cells #[.int .i64 1, .int .i64 2, .int .i64 4, .int .i64 8] 3)) (B := w.heap.size) hk (by simp) (by simp) (by simp) (by simp))
 have HF := Lib.hid (fun w : World => fits_walk (w := w) hk hn)
 have HB := Lib.hid h
 clear h hk hn
 go_enter Tryz.func247, Tryz.ntmps247
 go_wp2_with (first | (go_at_call 271; refine widths_walk.mono ?_; rintro e w1 ⟨rfl, rfl⟩) | (go_at_call 270; refine HC.out.mono ?_; rintro e w1 ⟨rfl, rfl⟩) | (go_at_call 272; refine (HF.out _).mono ?_; rintro e w1 ⟨rfl, rfl⟩) | (go_at_call 210; refine (clone_walk (HB.out.old (((Upd.refl _ w).alloc _).alloc _)) (by omega)).mono ?_; rintro e w1 ⟨v1, rfl, hown, hO, hfr⟩))
 have O1 := Lib.hid ((((Upd.refl (fun _ => False) w).alloc (.cells #[.int .i64 1, .int .i64 2, .int .i64 4, .int .i64 8] 3)).alloc (.cells #[.int .i64 1, .int .i64 2, .int .i64 4, .int .i64 8] 3)).trans hO)
 have hfr1 : ∀ b, v1.ownBlock = some b → w.heap.size ≤ b := fun b hb => Nat.le_trans (by simp; omega) (hfr b hb)
 clear hO hfr HC HF HB
 go_loopw [8, 23] (fun out i wr => ∃ j : Nat, j ≤ k ∧ i = .int .i64 j ∧ wr.ownsRow 0 5 1 out (bs.length + j) ((bs ++ leB n j).map bcell) ∧ Old w wr ∧ (∀ b, out.ownBlock = some b → w.heap.size ≤ b)) (fun _ i _ => k - (intOf i).toNat)
 case atStart => exact ⟨0, Nat.zero_le _, rfl, by simpa [leB] using hown, O1.out, hfr1⟩
 case round =>
  obtain ⟨j, hj, rfl, hown2, hO2, hfr2⟩ := hrel
  clear hown hfr1 O1
  obtain ⟨oa, oc, rfl⟩ := own_slice hown2
  by_cases hlt : j < k
  ·have HOW := Lib.hid hown2
   have HOO := Lib.hid hO2
   have HFR := Lib.hid hfr2
   clear hown2 hO2 hfr2
   go_wp2_with (first | (at_builtin; refine wpList_append_mk rfl (.tmp 26) (.tmp 32) 77 rfl 5 i0 (.int .u8 0) 1 1 Tryz.underlying77 hi0 hz0 hz1 hz2 rfl (by decide) (.slice oa (bs.length + j) oc) (bs.length + j) ((bs ++ leB n j).map bcell) rfl (HOW.out.alloc _) ⟨wr.heap.size, 0, none⟩ 1 1 [_] rfl rfl (one_new _ _ _) (by simp [Value.oneCell']) (by unfold maxLen; omega) (by omega) ?_; intro v2 w2 hown3 hgrow3 _ hfresh3; obtain ⟨a3, c3, rfl⟩ := own_slice hown3))
   have hby : Value.int .u8 ((n : Int) / 2 ^ (8 * j) % 256) = bcell (UInt8.ofNat (n / 2 ^ (8 * j) % 256)) := by
    unfold bcell
    have e1 : ((2 : Int) ^ (8 * j)) = ((2 ^ (8 * j) : Nat) : Int) := by simp
    have e2 : (UInt8.ofNat (n / 2 ^ (8 * j) % 256)).toNat = n / 2 ^ (8 * j) % 256 := by simp
    rw [e1, e2]
    simp
   rw [hby] at hown3
   have hown4 : Hid (w2.ownsRow 0 5 1 (.slice a3 (bs.length + j + 1) c3) (bs.length + (j + 1)) ((bs ++ leB n (j + 1)).map bcell)) := by
    have := hown3
    rw [leB_succ, ← List.append_assoc, List.map_append (l₁ := bs ++ leB n j)]
    exact this
   have hfr4 : Hid (∀ b, (Value.slice a3 (bs.length + j + 1) c3).ownBlock = some b → w.heap.size ≤ b) := fun b hb => by
    rcases hfresh3 b hb with h | h
    ·exact HFR.out b h
    ·exact Nat.le_trans HOO.out.size (Nat.le_trans (by simp) h)
   have hO4 : Hid (Old w w2) := (HOO.out.alloc _).grown hgrow3 (fun b hb => .inr (HFR.out b hb))
   clear hown3 hgrow3 hfresh3 hby
   go_wp2
   go_roundw
   case rel => exact ⟨j + 1, by omega, by go_num, by exact hown4.out, hO4.out, hfr4.out⟩
   case measure => simp [intOf]; omega
  ·obtain rfl : j = k := by omega
   have HOW := Lib.hid hown2
   have HOO := Lib.hid hO2
   have HFR := Lib.hid hfr2
   clear hown2 hO2 hfr2
   go_wp2
   go_ret2
   exact ⟨_, rfl, HOW.out, HOO.out, HFR.out⟩
def Ent.before (a b : Ent) : Bool := decide (b.seq < a.seq) || (decide (a.seq = b.seq) && decide (a.slot < b.slot))
theorem or_any {w : World} {b : Nat} {x y : Int} (h0 : w.cell? ⟨b, 0, none⟩ = some (.int .i64 x)) (h1 : w.cell? ⟨b, 1, none⟩ = some (.int .i64 y)) :
 Calls Tryz.prog 218 #[.slice (some ⟨b, 0, none⟩) 2 2] w fun e w' => e = .returned (.int .i64 (if x = 0 then y else x)) ∧ w = w' := by
 go_enter Tryz.func218, Tryz.ntmps218
 go_wp2
 go_loopw [8] (fun i wr => ∃ k : Nat, i = .int .i64 k ∧ w = wr ∧ k ≤ 2 ∧ (1 ≤ k → x = 0) ∧ (2 ≤ k → y = 0)) (fun i _ => 2 - (intOf i).toNat)
 case atStart => exact ⟨0, rfl, rfl, by omega, by omega, by omega⟩
 case round =>
  obtain ⟨k, rfl, rfl, hk, hk1, hk2⟩ := hrel
  obtain rfl | rfl | rfl : k = 0 ∨ k = 1 ∨ k = 2 := by omega
  ·go_wp2
   ·have hx : (x != 0) = true := by assumption
    have hx0 : x = 0 := by assumption
    rw [hx0] at hx
    cases hx
   ·go_ret
    exact ⟨rfl, rfl⟩
   ·have hx : (x != 0) = false := by assumption
    exact ⟨⟨1, rfl, trivial, by omega, fun _ => by simpa using hx, by omega⟩, by simp [intOf]⟩
  ·have hx := hk1 (by omega)
   go_wp2
   ·go_ret
    exact ⟨rfl, rfl⟩
   ·have hy : (y != 0) = false := by assumption
    exact ⟨⟨2, rfl, trivial, by omega, fun _ => hx, fun _ => by simpa using hy⟩, by simp [intOf]⟩
  ·have hx := hk1 (by omega)
   have hy := hk2 (by omega)
   go_wp2
   go_ret
   exact ⟨hy ▸ rfl, rfl⟩
theorem newer_any {w : World} {a b : Ent} (h : a.seq = b.seq → a.slot ≠ b.slot) :
 Calls Tryz.prog 138 #[a.val, b.val] w fun e w' => e = .returned (.int .i64 (if a.before b then -1 else 1)) ∧ Old w w' := by
 have hc : (if cmpI (b.seq : Int) (a.seq : Int) = 0 then cmpI (a.slot : Int) (b.slot : Int) else cmpI (b.seq : Int) (a.seq : Int)) = if a.before b then -1 else 1 := by
  unfold cmpI Ent.before
  by_cases h1 : b.seq < a.seq
  ·simp [h1]
  ·by_cases h2 : a.seq < b.seq
   ·have h4 : a.seq ≠ b.seq := by omega
    simp [h1, h2, h4]
   ·have h3 : a.seq = b.seq := by omega
    have h4 := h h3
    by_cases h5 : a.slot < b.slot
    ·simp [h3, h5]
    ·have h6 : b.slot < a.slot := by omega
     simp [h3, h5, h6]
 have HC : ∀ w : World, Hid (Calls Tryz.prog 219 #[.int .i64 b.seq, .int .i64 a.seq] w fun e w' => e = .returned (.int .i64 (cmpI (b.seq : Int) (a.seq : Int))) ∧ w = w') := fun w => cmp_i64 (w := w) (a := b.seq) (b := a.seq)
 have HD : ∀ w : World, Hid (Calls Tryz.prog 135 #[.int .i64 a.slot, .int .i64 b.slot] w fun e w' => e = .returned (.int .i64 (cmpI (a.slot : Int) (b.slot : Int))) ∧ w = w') := fun w => cmp_int (w := w) (a := a.slot) (b := b.slot)
 generalize cmpI (b.seq : Int) (a.seq : Int) = x at *
 generalize cmpI (a.slot : Int) (b.slot : Int) = y at *
 generalize (if a.before b then (-1 : Int) else 1) = z at *
 have HOR : Hid (∀ (w : World) (b : Nat), w.cell? ⟨b, 0, none⟩ = some (.int .i64 x) → w.cell? ⟨b, 1, none⟩ = some (.int .i64 y) → Calls Tryz.prog 218 #[.slice (some ⟨b, 0, none⟩) 2 2] w fun e w' => e = .returned (.int .i64 z) ∧ w = w') := fun w b h0 h1 => by
  have := or_any h0 h1
  rw [hc] at this
  exact this
 clear hc h
 unfold Ent.val
 go_enter Tryz.func138, Tryz.ntmps138
 go_wp2_with (first | (fail))
 have a0 := Has.new w 47 #[.int .i64 a.seq, .string a.key, .bool a.del, .int .i64 a.slot, .int .i64 a.off, .int .i64 a.size]
 have a1 := a0.alloc (.cells #[.int .i64 b.seq, .string b.key, .bool b.del, .int .i64 b.slot, .int .i64 b.off, .int .i64 b.size] 47)
 have b1 := Has.new (w.alloc (.cells #[.int .i64 a.seq, .string a.key, .bool a.del, .int .i64 a.slot, .int .i64 a.off, .int .i64 a.size] 47)) 47 #[.int .i64 b.seq, .string b.key, .bool b.del, .int .i64 b.slot, .int .i64 b.off, .int .i64 b.size]
 have hO : Old w ((w.alloc (.cells #[.int .i64 a.seq, .string a.key, .bool a.del, .int .i64 a.slot, .int .i64 a.off, .int .i64 a.size] 47)).alloc (.cells #[.int .i64 b.seq, .string b.key, .bool b.del, .int .i64 b.slot, .int .i64 b.off, .int .i64 b.size] 47)) := ((Upd.refl _ w).alloc _).alloc _
 generalize hW : World.alloc (World.alloc w _) _ = W at a1 b1 hO ⊢
 rw [World.size_alloc] at b1
 clear hW a0
 have c0 := a1.cell 0
 have c3 := a1.cell 3
 have d0 := b1.cell 0
 have d3 := b1.cell 3
 simp only [List.getElem?_toArray, List.getElem?_cons_zero, List.getElem?_cons_succ] at c0 c3 d0 d3
 clear a1 b1
 have HO := Lib.hid hO
 clear hO
 go_region_held3 (fun x => x.cell? ⟨w.heap.size, 0, none⟩ = some (.int .i64 a.seq) ∧ x.cell? ⟨w.heap.size, 3, none⟩ = some (.int .i64 a.slot) ∧ x.cell? ⟨w.heap.size + 1, 0, none⟩ = some (.int .i64 b.seq) ∧ x.cell? ⟨w.heap.size + 1, 3, none⟩ = some (.int .i64 b.slot))
  (first | go_keep)
  (first | (go_at_call 219; refine (HC _).out.mono ?_; rintro e w1 ⟨rfl, rfl⟩) | (go_at_call 135; refine (HD _).out.mono ?_; rintro e w1 ⟨rfl, rfl⟩) | (go_at_call 218; refine (HOR.out _ _ (by simp) (by simp)).mono ?_; rintro e w1 ⟨rfl, rfl⟩))
 go_wp2
 go_ret
 exact ⟨rfl, (HO.out.alloc _).drew⟩
theorem bs_ins_some {w : World} {g c : Nat} {t : Ent} {es : List Ent} (h : ∀ i e, es[i]? = some e → ∀ j u, e.cells[j]? = some u → w.cell? ⟨g, i * 6 + j, none⟩ = some u) (hn : es.length ≤ 1000) (hne : ∀ e ∈ es, e.seq = t.seq → e.slot ≠ t.slot)
 (hs : es.Pairwise (fun a b => b.before t = true → a.before t = true)) :
 Calls Tryz.prog 137 #[.slice (some ⟨g, 0, none⟩) es.length c, t.val, .func (.func 138) #[] #[]] w fun e w' => ∃ r, r ≤ es.length ∧ (∀ i x, es[i]? = some x → (x.before t = true ↔ i < r)) ∧ e = .returned (.tuple #[.int .i64 ((r : Nat) : Int), .bool false]) ∧ Old w w' := by
 have HE := Lib.hid h
 have HL := Lib.hid hne
 have HP := Lib.hid (fun i j x y (hij : i < j) (hx : es[i]? = some x) (hy : es[j]? = some y) => by
  have h1 := (List.getElem?_eq_some_iff.1 hx)
  have h2 := (List.getElem?_eq_some_iff.1 hy)
  have := List.pairwise_iff_getElem.1 hs i j h1.1 h2.1 hij
  rw [h1.2, h2.2] at this
  exact this)
 clear h hne hs
 go_enter Tryz.func137, Tryz.ntmps137
 unfold Ent.val
 go_wp2
 have HT := Lib.hid (Has.new w 47 #[.int .i64 ((t.seq : Nat) : Int), .string t.key, .bool t.del, .int .i64 ((t.slot : Nat) : Int), .int .i64 ((t.off : Nat) : Int), .int .i64 ((t.size : Nat) : Int)])
 have HO := Lib.hid ((Upd.refl (fun _ => False) w).alloc (.cells #[.int .i64 ((t.seq : Nat) : Int), .string t.key, .bool t.del, .int .i64 ((t.slot : Nat) : Int), .int .i64 ((t.off : Nat) : Int), .int .i64 ((t.size : Nat) : Int)] 47))
 generalize hW : World.alloc w _ = W at HT HO ⊢
 clear hW
 have HLEN := Lib.hid (fun i x (hx : es[i]? = some x) => (List.getElem?_eq_some_iff.1 hx).1)
 have HGET := Lib.hid (fun i (hi : i < es.length) => (⟨es[i], List.getElem?_eq_getElem hi⟩ : ∃ x, es[i]? = some x))
 generalize hN : es.length = n at *
 go_loopw [9, 10] (fun l h wr => ∃ lo hi : Nat, lo ≤ hi ∧ hi ≤ n ∧ (∀ i x, es[i]? = some x → i < lo → x.before t = true) ∧ (∀ i x, es[i]? = some x → hi ≤ i → ¬ x.before t = true) ∧ l = .int .i64 lo ∧ h = .int .i64 hi ∧ Old W wr) (fun l h _ => (intOf h).toNat - (intOf l).toNat)
 case atStart => exact ⟨0, n, Nat.zero_le _, Nat.le_refl _, fun i x _ h => by omega, fun i x hx h => by have := HLEN.out i x hx; omega, rfl, rfl, Upd.refl _ W⟩
 case round =>
  obtain ⟨lo, hi, hlh, hhn, hA, hB, rfl, rfl, hO⟩ := hrel
  have t0 : wr.cell? ⟨w.heap.size, 0, none⟩ = some (.int .i64 ((t.seq : Nat) : Int)) := Old.cellOf' hO (HT.out.cell 0)
  have t1 : wr.cell? ⟨w.heap.size, 1, none⟩ = some (.string t.key) := Old.cellOf' hO (HT.out.cell 1)
  have t2 : wr.cell? ⟨w.heap.size, 2, none⟩ = some (.bool t.del) := Old.cellOf' hO (HT.out.cell 2)
  have t3 : wr.cell? ⟨w.heap.size, 3, none⟩ = some (.int .i64 ((t.slot : Nat) : Int)) := Old.cellOf' hO (HT.out.cell 3)
  have t4 : wr.cell? ⟨w.heap.size, 4, none⟩ = some (.int .i64 ((t.off : Nat) : Int)) := Old.cellOf' hO (HT.out.cell 4)
  have t5 : wr.cell? ⟨w.heap.size, 5, none⟩ = some (.int .i64 ((t.size : Nat) : Int)) := Old.cellOf' hO (HT.out.cell 5)
  have HA := Lib.hid hA
  have HB := Lib.hid hB
  clear hA hB
  by_cases hlt : lo < hi
  ·have g1 : IntKind.i64.wrap ((lo : Int) + (hi : Int)) = ((lo + hi : Nat) : Int) := IntWalk.i64_in _ (by omega)
   have hm1 : lo ≤ (lo + hi) / 2 := by omega
   have hm2 : (lo + hi) / 2 < hi := by omega
   have g2 : ((lo : Int) + (hi : Int)) / 2 = (((lo + hi) / 2 : Nat) : Int) := by omega
   generalize (lo + hi) / 2 = m at *
   have g4 : (m : Int) < (n : Int) := by omega
   obtain ⟨x, hx⟩ := HGET.out m (by omega)
   obtain ⟨z, hz, HNW⟩ : ∃ z : Int, ((z = -1 ∧ x.before t = true) ∨ (z = 1 ∧ ¬ x.before t = true)) ∧ Hid (∀ w', Calls Tryz.prog 138 #[x.val, t.val] w' fun e w2 => e = .returned (.int .i64 z) ∧ Old w' w2) := by
    refine ⟨_, ?_, Lib.hid (fun w' => newer_any (w := w') (HL.out x (List.mem_of_getElem? hx)))⟩
    by_cases hb : x.before t = true
    ·exact .inl ⟨if_pos hb, hb⟩
    ·exact .inr ⟨if_neg hb, hb⟩
   unfold Ent.val at HNW
   have c0 : wr.cell? ⟨g, m * 6, none⟩ = some (.int .i64 ((x.seq : Nat) : Int)) := Old.cellOf' hO (Old.cellOf' HO.out (HE.out m x hx 0 _ rfl))
   have c1 := Old.cellOf' hO (Old.cellOf' HO.out (HE.out m x hx 1 _ rfl))
   have c2 := Old.cellOf' hO (Old.cellOf' HO.out (HE.out m x hx 2 _ rfl))
   have c3 := Old.cellOf' hO (Old.cellOf' HO.out (HE.out m x hx 3 _ rfl))
   have c4 := Old.cellOf' hO (Old.cellOf' HO.out (HE.out m x hx 4 _ rfl))
   have c5 := Old.cellOf' hO (Old.cellOf' HO.out (HE.out m x hx 5 _ rfl))
   have HR := Lib.hid hO
   clear hO
   rcases hz with ⟨rfl, hb⟩ | ⟨rfl, hb⟩
   ·go_wp2
    go_still_tail 6, (by kernel_rfl)
    change wpList _ _ _ _ _ wr.drew
    go_wp2_with (first | (go_at_call 138; refine (HNW.out _).mono ?_; rintro e w1 ⟨rfl, hO1⟩))
    refine ⟨⟨m + 1, hi, by omega, hhn, fun i y hy hi => ?_, HB.out, by go_num, rfl, HR.out.drew.trans hO1⟩, by simp [intOf]; omega⟩
    by_cases him : i = m
    ·subst him
     rw [hx] at hy
     cases hy
     exact hb
    ·exact HP.out i m y x (by omega) hy hx hb
   ·go_wp2
    go_still_tail 6, (by kernel_rfl)
    change wpList _ _ _ _ _ wr.drew
    go_wp2_with (first | (go_at_call 138; refine (HNW.out _).mono ?_; rintro e w1 ⟨rfl, hO1⟩))
    refine ⟨⟨lo, m, by omega, by omega, HA.out, fun i y hy hi hby => ?_, rfl, rfl, HR.out.drew.trans hO1⟩, by simp [intOf]; omega⟩
    by_cases him : i = m
    ·subst him
     rw [hx] at hy
     cases hy
     exact hb hby
    ·exact hb (HP.out m i x y (by omega) hx hy hby)
  ·obtain rfl : lo = hi := by omega
   have hres : ∀ i x, es[i]? = some x → (x.before t = true ↔ i < lo) := fun i x hx => ⟨fun h => Nat.lt_of_not_le (fun h2 => HB.out i x hx h2 h), fun h => HA.out i x hx h⟩
   by_cases hn0 : lo < n
   ·obtain ⟨x, hx⟩ := HGET.out lo hn0
    have hb : ¬ x.before t = true := HB.out lo x hx (Nat.le_refl _)
    have HNW := Lib.hid (fun w' : World => newer_any (w := w') (HL.out x (List.mem_of_getElem? hx)))
    rw [if_neg hb] at HNW
    unfold Ent.val at HNW
    have g4 : (lo : Int) < (n : Int) := by omega
    have c0 : wr.cell? ⟨g, lo * 6, none⟩ = some (.int .i64 ((x.seq : Nat) : Int)) := Old.cellOf' hO (Old.cellOf' HO.out (HE.out lo x hx 0 _ rfl))
    have c1 : wr.cell? ⟨g, lo * 6 + 1, none⟩ = some (.string x.key) := Old.cellOf' hO (Old.cellOf' HO.out (HE.out lo x hx 1 _ rfl))
    have c2 : wr.cell? ⟨g, lo * 6 + 2, none⟩ = some (.bool x.del) := Old.cellOf' hO (Old.cellOf' HO.out (HE.out lo x hx 2 _ rfl))
    have c3 : wr.cell? ⟨g, lo * 6 + 3, none⟩ = some (.int .i64 ((x.slot : Nat) : Int)) := Old.cellOf' hO (Old.cellOf' HO.out (HE.out lo x hx 3 _ rfl))
    have c4 : wr.cell? ⟨g, lo * 6 + 4, none⟩ = some (.int .i64 ((x.off : Nat) : Int)) := Old.cellOf' hO (Old.cellOf' HO.out (HE.out lo x hx 4 _ rfl))
    have c5 : wr.cell? ⟨g, lo * 6 + 5, none⟩ = some (.int .i64 ((x.size : Nat) : Int)) := Old.cellOf' hO (Old.cellOf' HO.out (HE.out lo x hx 5 _ rfl))
    have HR := Lib.hid hO
    clear hO
    go_wp2
    go_region_held3 (fun x' => x'.cell? ⟨g, lo * 6, none⟩ = some (.int .i64 ((x.seq : Nat) : Int)) ∧ x'.cell? ⟨g, lo * 6 + 1, none⟩ = some (.string x.key) ∧ x'.cell? ⟨g, lo * 6 + 2, none⟩ = some (.bool x.del) ∧ x'.cell? ⟨g, lo * 6 + 3, none⟩ = some (.int .i64 ((x.slot : Nat) : Int)) ∧ x'.cell? ⟨g, lo * 6 + 4, none⟩ = some (.int .i64 ((x.off : Nat) : Int)) ∧ x'.cell? ⟨g, lo * 6 + 5, none⟩ = some (.int .i64 ((x.size : Nat) : Int)) ∧ x'.cell? ⟨w.heap.size, 0, none⟩ = some (.int .i64 ((t.seq : Nat) : Int)) ∧ x'.cell? ⟨w.heap.size, 1, none⟩ = some (.string t.key) ∧ x'.cell? ⟨w.heap.size, 2, none⟩ = some (.bool t.del) ∧ x'.cell? ⟨w.heap.size, 3, none⟩ = some (.int .i64 ((t.slot : Nat) : Int)) ∧ x'.cell? ⟨w.heap.size, 4, none⟩ = some (.int .i64 ((t.off : Nat) : Int)) ∧ x'.cell? ⟨w.heap.size, 5, none⟩ = some (.int .i64 ((t.size : Nat) : Int)))
     (first | go_keep | (exact ⟨Old.cellOf' hO1 c0, Old.cellOf' hO1 c1, Old.cellOf' hO1 c2, Old.cellOf' hO1 c3, Old.cellOf' hO1 c4, Old.cellOf' hO1 c5, Old.cellOf' hO1 t0, Old.cellOf' hO1 t1, Old.cellOf' hO1 t2, Old.cellOf' hO1 t3, Old.cellOf' hO1 t4, Old.cellOf' hO1 t5⟩))
     (first | (go_at_call 138; refine (HNW.out _).mono ?_; rintro e w1 ⟨rfl, hO1⟩))
    all_goals
     go_wp2
     go_ret2
     exact ⟨lo, by omega, hres, rfl, (HO.out.trans HR.out).drew.trans hO1⟩
   ·obtain rfl : lo = n := by omega
    have HR := Lib.hid hO
    clear hO
    go_wp2
    go_quiet (fail)
    go_wp2
    go_ret2
    exact ⟨lo, by omega, hres, rfl, (HO.out.trans HR.out).drewN _⟩
theorem bs_ins {w : World} {v : Value} {t : Ent} {es : List Ent} (h : EntsAt w v es) (hn : es.length ≤ 1000) (hne : ∀ e ∈ es, e.seq = t.seq → e.slot ≠ t.slot) (hs : es.Pairwise (fun a b => b.before t = true → a.before t = true)) :
 Calls Tryz.prog 137 #[v, t.val, .func (.func 138) #[] #[]] w fun e w' => ∃ r, r ≤ es.length ∧ (∀ i x, es[i]? = some x → (x.before t = true ↔ i < r)) ∧ e = .returned (.tuple #[.int .i64 ((r : Nat) : Int), .bool false]) ∧ Old w w' := by
 rcases h with ⟨rfl, rfl⟩ | ⟨g, c, rfl, h⟩
 ·exact bs_new_nil.mono fun e w' ⟨h1, h2⟩ => ⟨0, Nat.le_refl _, (fun i x hx => by simp at hx), h1, h2⟩
 ·exact bs_ins_some h hn hne hs
theorem eclone_nil {w : World} :
 Calls Tryz.prog 83 #[.slice none 0 0] w (NewRow w 47 6 0 []) := by
 have hq : ∀ w : World, (binOp .eql 142 (.slice none 0 0) (.slice none 0 0)).run Tryz.prog w = .ok (.bool true) w := fun w => Lib.run_eql_slice_nil w _ _ _ _ _ _ _ Tryz.underlying142
 go_enter Tryz.func83, Tryz.ntmps83
 go_wp2
 go_ret
 exact ⟨_, rfl, World.ownsRow_nil _ _ _ _, Upd.refl _ _, fun b hb => by cases hb⟩
theorem eclone_some {w : World} {ad : Addr} {n c : Nat} {xs : List Value} (hl : xs.length = n * 6) (he : ∀ j u, xs[j]? = some u → w.cell? (ad.add j) = some u) (h1 : ∀ u ∈ xs, u.oneCell' = true) (hn : n ≤ 1000) :
 Calls Tryz.prog 83 #[.slice (some ad) n c] w (NewRow w 47 6 n xs) := by
 obtain ⟨i0, hi0, hz0, hz1, hz2⟩ := info_parts info_ent
 have hq : ∀ w : World, (binOp .eql 142 (.slice (some ad) n c) (.slice none 0 0)).run Tryz.prog w = .ok (.bool false) w := fun w => Lib.run_eql_slice_nil w _ _ _ _ _ _ _ Tryz.underlying142
 have HE := Lib.hid he
 have HW : ∀ o : Obj, Hid (∀ j u, xs[j]? = some u → (w.alloc o).cell? (ad.add j) = some u) := fun o j u hj => Old.cellOf' ((Upd.refl _ w).alloc o) (he j u hj)
 have HL := Lib.hid hl
 clear he hl
 go_enter Tryz.func83, Tryz.ntmps83
 go_wp2_with (first | (at_builtin; refine wpList_append_mk rfl (.tmp 5) (.tmp 6) 142 rfl 47 i0 (.agg #[.int .i64 0, .string ⟨#[]⟩, .bool false, .int .i64 0, .int .i64 0, .int .i64 0]) 6 56 Tryz.underlying142 hi0 hz0 hz1 hz2 rfl (by decide) (.slice (some ⟨w.heap.size, 0, none⟩) 0 0) 0 [] rfl ?c0 ad n c xs rfl (by rw [HL.out]) (by exact (HW _).out) h1 (by unfold maxLen; omega) (by omega) ?_))
 case c0 => exact ⟨rfl, .inr ⟨w.heap.size, 0, #[], rfl, Nat.zero_le _, heap_alloc_new _ _, Nat.le_refl _, Nat.zero_le _, rfl, rfl⟩⟩
 intro v' w1 hown' hgrow hnil hfresh
 go_wp2
 go_ret
 refine ⟨_, rfl, by simpa using hown', ((Upd.refl _ w).alloc _).grown hgrow (fun k hk => .inr ?_), fun b hb => ?_⟩
 ·simp [Value.ownBlock] at hk; omega
 ·rcases hfresh b hb with h | h
  ·have : w.heap.size = b := by simpa [Value.ownBlock] using h
   omega
  ·exact Nat.le_trans (by simp) h
end Go.M
