/- Walks 47. -/
import Derived.Test.YtjadmbkmlehfdaaGreatDoorProg
import Derived.Test.YtjadmbkmlehfdaaGreatDoorK46
import Derived.Test.YtjadmbkmlehfdaaGreatDoorK24
set_option linter.unusedVariables false
set_option linter.unusedSimpArgs false
set_option maxRecDepth 100000
namespace Go.M
open Go.Proofs Go.RowKit
set_option linter.unusedSimpArgs false
theorem setCell_comm {w : World} {a b : Addr} {u v : Value} (h : a.block ≠ b.block) : (w.setCell a u).setCell b v = (w.setCell b v).setCell a u := by
 unfold World.setCell
 simp only
 congr 1
 apply Array.ext_getElem?
 intro i
 simp only [Array.getElem?_modify]
 by_cases h1 : b.block = i
 ·subst h1
  simp [h]
 ·simp [h1]
structure PlA (w : World) (col : Col) (PL kb kc a x : Nat) (dn : Bool) : Prop where
 pl : Has w PL 50 #[.int .i64 ((a : Nat) : Int), .bool dn, .slice (some ⟨kb, 0, none⟩) 1 kc]
 kp : One w kb x
 cP : (col PL).1 = 5
 cB : (col kb).1 = 5
 nB : PL ≠ kb
theorem PlA.upd {w w' : World} {col col' : Col} {PL kb kc a x : Nat} {dn : Bool} (h : PlA w col PL kb kc a x dn) {F : Nat → Prop} (U : Upd F w w') (hF : ∀ b, F b → (col b).1 ≠ 5) (hk : Kept w col col') : PlA w' col' PL kb kc a x dn :=
 ⟨U.has h.pl (fun hb => hF _ hb h.cP), U.cellOf h.kp (fun hb => hF _ hb h.cB), by rw [hk _ h.pl.lt]; exact h.cP, by rw [hk _ (World.block_lt_of_cell? w _ h.kp)]; exact h.cB, h.nB⟩
section
variable {w : World} {col : Col} {D : Nat} {s : DevS} {K S cap T : Nat} {M : Nat → Nat} {V : Nat → Value} {PL kb kc a x : Nat} {dn : Bool}
theorem PlA.t (h : DevT w col 1 D s K S cap T M V (.pointer (some ⟨PL, 0, none⟩))) (p : PlA w col PL kb kc a x dn) {i : Nat} (hi : i < s.n + 2) : PlT w D K S T (M i) PL kb kc a x dn := by
 have n : ∀ b k, col b = (1, k) → PL ≠ b := fun b k hb e => by have := p.cP; rw [e, hb] at this; cases this
 exact ⟨p.pl, p.kp, n _ _ h.cD, n _ _ h.cK, n _ _ h.cS, n _ _ h.cT, n _ _ (h.cM i hi)⟩
def AF (col : Col) (b : Nat) : Prop := (col b).1 = 1 ∨ (col b).1 = 5
theorem dev_sync_go (h : DevT w col 1 D s K S cap T M V (.pointer (some ⟨PL, 0, none⟩))) (p : PlA w col PL kb kc a x dn) (hup : s.down = false) (i : Nat) (hi : i < s.n + 2) (ho : s.ops < 1000000000) (ha : a ≤ 1000000) (ha2 : 2 ≤ a) :
 Calls Tryz.prog 108 #[.pointer (some ⟨D, 0, none⟩), .int .i64 ((i : Nat) : Int)] w fun e w' => e = .returned (.int .i64 0) ∧
  (∃ V', DevT w' col 1 D (s.put i { s.img i with dur := (s.img i).bs.length }) K S cap T M V' (.pointer (some ⟨PL, 0, none⟩))) ∧ PlA w' col PL kb kc (a - 1) x dn ∧ Upd (AF col) w w' := by
 obtain ⟨va, vc, hv, c⟩ := h.cells i hi
 rw [hup] at c
 have pt := p.t h hi
 refine (sync_go c pt h.ops0 h.ops1 ha ha2).mono ?_
 rintro e w' ⟨rfl, hO⟩
 rw [setCell_comm (a := ⟨D, 3, none⟩) (b := ⟨PL, 0, none⟩) (Ne.symm pt.nD)] at hO
 have UP : Upd (fun b => b = PL) w (w.setCell ⟨PL, 0, none⟩ (.int .i64 ((a : Int) - 1))) := (Upd.refl _ w).setCell _ _ (.inl rfl)
 have h2 := h.other UP (fun b hb => by rw [hb, p.cP]; decide) (Kept.refl _ _)
 have p2 : PlA (w.setCell ⟨PL, 0, none⟩ (.int .i64 ((a : Int) - 1))) col PL kb kc (a - 1) x dn := by
  refine ⟨?_, UP.cellOf p.kp (Ne.symm p.nB), p.cP, p.cB, p.nB⟩
  have := p.pl.set 0 (.int .i64 ((a : Int) - 1))
  rw [show ((a - 1 : Nat) : Int) = (a : Int) - 1 by omega]
  simpa using this
 generalize w.setCell ⟨PL, 0, none⟩ (.int .i64 ((a : Int) - 1)) = w1 at *
 obtain ⟨va2, vc2, hv2, c2⟩ := h2.cells i hi
 have U : Upd (fun b => b = D ∨ b = M i) w1 w' := (((Upd.refl _ _).setCell ⟨D, 3, none⟩ (.int .i64 (s.ops + 1)) (.inl (.inl rfl))).setCell ⟨M i, 2, none⟩ (.int .i64 (((s.img i).bs.length : Nat) : Int)) (.inl (.inr rfl))).trans (hO.mono (fun _ _ h => h.elim))
 have hcD : ∀ b, b = D ∨ b = M i → (col b).1 = 1 := fun b hb => by
  rcases hb with rfl | rfl
  ·rw [h.cD]
  ·rw [h.cM i hi]
 refine ⟨rfl, ⟨fun k => if k = i then V i else V k, ?_⟩, p2.upd U (fun b hb => by rw [hcD b hb]; decide) (Kept.refl _ _), (UP.mono (fun b _ hb => .inr (by rw [hb]; exact p.cP))).trans (U.mono fun b _ hb => .inl (hcD b hb))⟩
 obtain ⟨td, d⟩ := h2.fd
 obtain ⟨⟨tm, m⟩, own, f1, f2, p1, p2⟩ := h2.fm i hi
 refine h2.upd (m := { s.img i with dur := (s.img i).bs.length }) (v := V i) (ops := s.ops + 1) hi U (fun b hb => hb.imp_right .inl) ⟨td, hO.has ?_⟩ ⟨⟨tm, hO.has ?_⟩, U.own own ?_, f1, Nat.le_refl _, p1, p2⟩ (Kept.refl _ _) (h.cV i hi) (by have := h.ops0; omega) (by omega)
 ·have := (d.set 3 (.int .i64 (s.ops + 1))).setOther (a := ⟨M i, 2, none⟩) (Ne.symm c.DM) (.int .i64 (((s.img i).bs.length : Nat) : Int))
  simpa using this
 ·have := (m.setOther (a := ⟨D, 3, none⟩) c.DM (.int .i64 (s.ops + 1))).set 2 (.int .i64 (((s.img i).bs.length : Nat) : Int))
  simpa using this
 ·intro b hb hf
  have hc := h.cV i hi b hb
  rcases hf with rfl | rfl
  ·rw [h.cD] at hc; simp at hc; omega
  ·rw [h.cM i hi] at hc; simp at hc <;> omega
theorem dev_erase_go (h : DevT w col 1 D s K S cap T M V (.pointer (some ⟨PL, 0, none⟩))) (p : PlA w col PL kb kc a x dn) (hup : s.down = false) (i : Nat) (hi : i < s.n + 2) (ho : s.ops < 1000000000) (ha : a ≤ 1000000) (ha2 : 2 ≤ a) :
 Calls Tryz.prog 59 #[.pointer (some ⟨D, 0, none⟩), .int .i64 ((i : Nat) : Int)] w fun e w' => e = .returned (.int .i64 0) ∧
  (∃ V', DevT w' col 1 D (s.put i { s.img i with bs := [], dur := 0 }) K S cap T M V' (.pointer (some ⟨PL, 0, none⟩))) ∧ PlA w' col PL kb kc (a - 1) x dn ∧ Upd (AF col) w w' := by
 obtain ⟨va, vc, hv, c⟩ := h.cells i hi
 rw [hup] at c
 have pt := p.t h hi
 refine (erase_go c pt h.ops0 h.ops1 ha ha2).mono ?_
 rintro e w' ⟨rfl, hO⟩
 rw [setCell_comm (a := ⟨D, 3, none⟩) (b := ⟨PL, 0, none⟩) (Ne.symm pt.nD)] at hO
 have UP : Upd (fun b => b = PL) w (w.setCell ⟨PL, 0, none⟩ (.int .i64 ((a : Int) - 1))) := (Upd.refl _ w).setCell _ _ (.inl rfl)
 have h2 := h.other UP (fun b hb => by rw [hb, p.cP]; decide) (Kept.refl _ _)
 have p2 : PlA (w.setCell ⟨PL, 0, none⟩ (.int .i64 ((a : Int) - 1))) col PL kb kc (a - 1) x dn := by
  refine ⟨?_, UP.cellOf p.kp (Ne.symm p.nB), p.cP, p.cB, p.nB⟩
  have := p.pl.set 0 (.int .i64 ((a : Int) - 1))
  rw [show ((a - 1 : Nat) : Int) = (a : Int) - 1 by omega]
  simpa using this
 generalize w.setCell ⟨PL, 0, none⟩ (.int .i64 ((a : Int) - 1)) = w1 at *
 obtain ⟨va2, vc2, hv2, c2⟩ := h2.cells i hi
 have U : Upd (fun b => b = D ∨ b = M i) w1 w' := ((((Upd.refl _ _).setCell ⟨D, 3, none⟩ (.int .i64 (s.ops + 1)) (.inl (.inl rfl))).setCell ⟨M i, 0, none⟩ (.slice none 0 0) (.inl (.inr rfl))).setCell ⟨M i, 2, none⟩ (.int .i64 0) (.inl (.inr rfl))).trans (hO.mono (fun _ _ h => h.elim))
 have hcD : ∀ b, b = D ∨ b = M i → (col b).1 = 1 := fun b hb => by
  rcases hb with rfl | rfl
  ·rw [h.cD]
  ·rw [h.cM i hi]
 refine ⟨rfl, ⟨fun k => if k = i then .slice none 0 0 else V k, ?_⟩, p2.upd U (fun b hb => by rw [hcD b hb]; decide) (Kept.refl _ _), (UP.mono (fun b _ hb => .inr (by rw [hb]; exact p.cP))).trans (U.mono fun b _ hb => .inl (hcD b hb))⟩
 obtain ⟨td, d⟩ := h2.fd
 obtain ⟨⟨tm, m⟩, own, f1, f2, p1, p2⟩ := h2.fm i hi
 refine h2.upd (m := { s.img i with bs := [], dur := 0 }) (v := .slice none 0 0) (ops := s.ops + 1) hi U (fun b hb => hb.imp_right .inl) ⟨td, hO.has ?_⟩ ⟨⟨tm, hO.has ?_⟩, World.ownsRow_nil _ _ _ _, Nat.zero_le _, Nat.le_refl _, p1, p2⟩ (Kept.refl _ _) (fun b hb => by cases hb) (by have := h.ops0; omega) (by omega)
 ·have := ((d.set 3 (.int .i64 (s.ops + 1))).setOther (a := ⟨M i, 0, none⟩) (Ne.symm c.DM) (.slice none 0 0)).setOther (a := ⟨M i, 2, none⟩) (Ne.symm c.DM) (.int .i64 0)
  simpa using this
 ·have := ((m.setOther (a := ⟨D, 3, none⟩) c.DM (.int .i64 (s.ops + 1))).set 0 (.slice none 0 0)).set 2 (.int .i64 0)
  simpa using this
structure Crashed (s s' : DevS) : Prop where
 n : s'.n = s.n
 ops : s'.ops = s.ops
 down : s'.down = true
 img : ∀ i, i < s.n + 2 → ∃ k d, (s.img i).dur ≤ d ∧ d ≤ k ∧ k ≤ (s.img i).bs.length ∧ s'.img i = { bs := (s.img i).bs.take k, dur := d, sz := (s.img i).sz }
theorem own_take {w : World} {e : TypeId} {a : Option Addr} {n c k : Nat} {xs : List Value} (own : w.ownsRow 0 e 1 (.slice a n c) n xs) (hk : k ≤ n) : w.ownsRow 0 e 1 (.slice a k c) k (xs.take k) := by
 obtain ⟨hl, h⟩ := own
 refine ⟨by rw [List.length_take]; omega, ?_⟩
 rcases h with ⟨h1, h2⟩ | ⟨g, cap, cur, h1, h2, h3, h4, h5, h6, h7⟩
 ·injection h1 with a1 a2 a3
  subst a1 a3
  obtain rfl : k = 0 := by omega
  exact .inl ⟨rfl, rfl⟩
 ·injection h1 with a1 a2 a3
  subst a1 a3
  refine .inr ⟨g, c, cur, rfl, h2, h3, by omega, h5, h6, ?_⟩
  rw [← h7, List.take_take]
  congr 1
  omega
def sliA : Value → Option Addr
 | .slice a _ _ => a
 | _ => none
def sliC : Value → Nat
 | .slice _ _ c => c
 | _ => 0
theorem dev_crash {w : World} {tv : Value} (h : DevT w col 1 D s K S cap T M V tv) (hup : s.down = false) {g gc at1 : Nat} (hx : x ≤ 8192) (c : One w g x) (hg : (col g).1 ≠ 1) :
 Calls Tryz.prog 56 #[.pointer (some ⟨D, 0, none⟩), .agg #[.int .i64 ((at1 : Nat) : Int), .bool dn, .slice (some ⟨g, 0, none⟩) 1 gc]] w fun e w' => e = .returned (.tuple #[]) ∧ Upd (fun b => (col b).1 = 1) w w' ∧ ∃ s' V', Crashed s s' ∧ DevT w' col 1 D s' K S cap T M V' tv := by
 have hall := h
 obtain ⟨⟨tD, d⟩, ⟨tK, k⟩, ⟨tT, t⟩, hs, hm, lo, hi2, cD, cK, cS, cT, cM, cV, o0, o1⟩ := h
 rw [hup] at d
 have hV : ∀ i, i < s.n + 2 → V i = .slice (sliA (V i)) (s.img i).bs.length (sliC (V i)) := fun i hi => by
  obtain ⟨va, vc, hv, -⟩ := hall.cells i hi
  rw [hv]; rfl
 have hI : ∀ i, i < s.n + 2 → ImgX w (M i) (sliA (V i)) (sliC (V i)) (s.img i).bs.length (s.img i).dur (s.img i).sz := fun i hi => by
  obtain ⟨⟨tm, m⟩, own, f1, f2, p1, p2⟩ := hm i hi
  have m' := m
  rw [hV i hi] at m'
  refine ⟨tm, _, _, m', Nat.le_refl _, f2, Nat.le_refl _, ?_, f1, p1, p2, ?_⟩
  ·rcases own.2 with ⟨h1, h2⟩ | ⟨g, c, cur, h1, h2, h3, h4, -⟩
   ·rw [h2]; exact Nat.zero_le _
   ·rw [h1]; exact h4
  ·rcases own.2 with ⟨h1, h2⟩ | ⟨g, c, cur, h1, -⟩
   ·exact .inl ⟨by rw [h1]; rfl, h2, by rw [h1]; rfl⟩
   ·exact .inr ⟨g, by rw [h1]; rfl⟩
 refine (dcrash2x (A := fun i => sliA (V i)) (C := fun i => sliC (V i)) (L := fun i => (s.img i).bs.length) (E := fun i => (s.img i).dur) (Z := fun i => (s.img i).sz) (kb := g) (kc := gc) (n := s.n) (S := S) (K := K) (M := M) (cap := cap) hi2 hx (d.cell 0) (d.cell 4) (d.frozen 4) (k.cell 0) hs hI c (fun i hi => ⟨col_ne (cM i hi) cK (by simp; omega), col_ne (cM i hi) cS (by simp; omega), fun e => hg (by rw [← e, cM i hi])⟩) (fun i hi => col_ne (cM i hi) cD (by simp)) (fun i j hi hj e => by
  have h1 := cM i hi
  rw [e, cM j hj] at h1
  simp at h1
  omega)).mono ?_
 rintro e w' ⟨rfl, w1, hU, hX, hO⟩
 have UU : Upd (fun b => b = D ∨ ∃ i, i < s.n + 2 ∧ b = M i) w w' := ((hU.mono (fun b _ h => .inr h)).setCell ⟨D, 4, none⟩ (.bool true) (.inl (.inl rfl))).trans (hO.mono (fun _ _ h => h.elim))
 have hq : ∀ b, (b = D ∨ ∃ i, i < s.n + 2 ∧ b = M i) → (col b).1 = 1 := fun b hb => by
  rcases hb with rfl | ⟨i, hi, rfl⟩
  ·rw [cD]
  ·rw [cM i hi]
 have nF : ∀ b r, col b = (1, r) → r ≠ 0 → (∀ i, i < s.n + 2 → r ≠ 4 + 2 * i) → ¬ (b = D ∨ ∃ i, i < s.n + 2 ∧ b = M i) := fun b r hb h0 h4 hf => by
  rcases hf with rfl | ⟨i, hi, rfl⟩
  ·rw [cD] at hb; simp at hb; omega
  ·rw [cM i hi] at hb
   have := h4 i hi
   simp at hb
   omega
 have hc : ∀ i, ∃ p : Nat × Nat, i < s.n + 2 → (s.img i).dur ≤ p.2 ∧ p.2 ≤ p.1 ∧ p.1 ≤ (s.img i).bs.length ∧ p.1 ≤ (s.img i).sz ∧ ∃ t, Has w' (M i) t #[.slice (sliA (V i)) p.1 (sliC (V i)), .int .i64 (((s.img i).sz : Nat) : Int), .int .i64 ((p.2 : Nat) : Int)] := fun i => by
  by_cases hi : i < s.n + 2
  ·obtain ⟨t, len, dur, hh, a0, a1, a2, a3, a4, -⟩ := hX i hi
   exact ⟨(len, dur), fun _ => ⟨a0, a1, a2, a4, t, hO.has (hh.setOther (a := ⟨D, 4, none⟩) (col_ne cD (cM i hi) (by simp; omega)) (.bool true))⟩⟩
  ·exact ⟨(0, 0), fun h => absurd h hi⟩
 have hf := fun i => Classical.choose_spec (hc i)
 generalize hfe : (fun i => Classical.choose (hc i)) = f
 have hf : ∀ i, i < s.n + 2 → (s.img i).dur ≤ (f i).2 ∧ (f i).2 ≤ (f i).1 ∧ (f i).1 ≤ (s.img i).bs.length ∧ (f i).1 ≤ (s.img i).sz ∧ ∃ t, Has w' (M i) t #[.slice (sliA (V i)) (f i).1 (sliC (V i)), .int .i64 (((s.img i).sz : Nat) : Int), .int .i64 (((f i).2 : Nat) : Int)] := fun i hi => by rw [← hfe]; exact hf i hi
 refine ⟨rfl, UU.mono (fun b _ h => hq b h), { n := s.n, ops := s.ops, down := true, img := fun i => { bs := (s.img i).bs.take (f i).1, dur := (f i).2, sz := (s.img i).sz } }, fun i => .slice (sliA (V i)) (f i).1 (sliC (V i)), ⟨rfl, rfl, rfl, fun i hi => ⟨(f i).1, (f i).2, (hf i hi).1, (hf i hi).2.1, (hf i hi).2.2.1, rfl⟩⟩, ?_⟩
 refine ⟨⟨tD, hO.has ((hU.has d (fun ⟨i, hi, e⟩ => col_ne (cM i hi) cD (by simp; try omega) e.symm)).set 4 (.bool true))⟩, ⟨tK, UU.has k (nF K 1 cK (by omega) (fun i _ => by omega))⟩, ⟨tT, UU.has t (nF T 3 cT (by omega) (fun i _ => by omega))⟩, fun i hi => UU.cellOf (hs i hi) (nF S 2 cS (by omega) (fun i _ => by omega)), fun i hi => ?_, lo, hi2, cD, cK, cS, cT, cM, fun i hi b hb => cV i hi b ?_, o0, o1⟩
 ·obtain ⟨-, own, f1, f2, p1, p2⟩ := hm i hi
  obtain ⟨b1, b2, b3, b4, tt, hh⟩ := hf i hi
  have hl : ((s.img i).bs.take (f i).1).length = (f i).1 := by rw [List.length_take]; omega
  refine ⟨⟨tt, hh⟩, ?_, Nat.le_trans (Nat.le_of_eq hl) b4, Nat.le_trans b2 (Nat.le_of_eq hl.symm), p1, p2⟩
  show w'.ownsRow 0 5 1 _ ((s.img i).bs.take (f i).1).length (((s.img i).bs.take (f i).1).map bcell)
  rw [hl, List.map_take]
  have own2 := UU.own own (fun b hb => nF b _ (cV i hi b hb) (by omega) (fun j _ => by omega))
  rw [hV i hi] at own2
  exact own_take own2 b3
 ·have e : (Value.slice (sliA (V i)) (s.img i).bs.length (sliC (V i))).ownBlock = (Value.slice (sliA (V i)) (f i).1 (sliC (V i))).ownBlock := by cases sliA (V i) <;> rfl
  rw [hV i hi, e]
  exact hb
theorem DevT.disarm (h : DevT w col 1 D s K S cap T M V (.pointer (some ⟨PL, 0, none⟩))) (hP : (col PL).1 = 5) (ho : s.ops < 1000000000) :
 DevT (((w.setCell ⟨D, 3, none⟩ (.int .i64 (s.ops + 1))).setCell ⟨PL, 0, none⟩ (.int .i64 0)).setCell ⟨T, 1, none⟩ (.pointer none)) col 1 D { s with ops := s.ops + 1 } K S cap T M V (.pointer none) := by
 obtain ⟨⟨tD, d⟩, ⟨tK, k⟩, ⟨tT, t⟩, hs, hm, lo, hi2, cD, cK, cS, cT, cM, cV, o0, o1⟩ := h
 have nP : ∀ b r, col b = (1, r) → PL ≠ b := fun b r hb e => by rw [e, hb] at hP; cases hP
 have nTD : T ≠ D := col_ne cT cD (by simp)
 have UU : Upd (fun b => b = D ∨ b = PL ∨ b = T) w (((w.setCell ⟨D, 3, none⟩ (.int .i64 (s.ops + 1))).setCell ⟨PL, 0, none⟩ (.int .i64 0)).setCell ⟨T, 1, none⟩ (.pointer none)) := (((Upd.refl _ w).setCell _ _ (.inl (.inl rfl))).setCell _ _ (.inl (.inr (.inl rfl)))).setCell _ _ (.inl (.inr (.inr rfl)))
 have nF : ∀ b r, col b = (1, r) → r ≠ 0 → r ≠ 3 → ¬ (b = D ∨ b = PL ∨ b = T) := fun b r hb h0 h3 hf => by
  rcases hf with rfl | rfl | rfl
  ·rw [cD] at hb; simp at hb; omega
  ·exact nP _ _ hb rfl
  ·rw [cT] at hb; simp at hb; omega
 refine ⟨⟨tD, ?_⟩, ⟨tK, UU.has k (nF K 1 cK (by omega) (by omega))⟩, ⟨tT, ?_⟩, fun i hi => UU.cellOf (hs i hi) (nF S 2 cS (by omega) (by omega)), fun i hi => ?_, lo, hi2, cD, cK, cS, cT, cM, cV, by show 0 ≤ s.ops + 1; omega, by show s.ops + 1 ≤ _; omega⟩
 ·have := ((d.set 3 (.int .i64 (s.ops + 1))).setOther (a := ⟨PL, 0, none⟩) (nP _ _ cD) (.int .i64 0)).setOther (a := ⟨T, 1, none⟩) nTD (.pointer none)
  simpa using this
 ·have := ((t.setOther (a := ⟨D, 3, none⟩) (Ne.symm nTD) (.int .i64 (s.ops + 1))).setOther (a := ⟨PL, 0, none⟩) (nP _ _ cT) (.int .i64 0)).set 1 (.pointer none)
  simpa using this
 ·obtain ⟨⟨tm, m⟩, own, f1, f2, p1, p2⟩ := hm i hi
  exact ⟨⟨tm, UU.has m (nF _ _ (cM i hi) (by omega) (by omega))⟩, UU.own own (fun b hb => nF _ _ (cV i hi b hb) (by omega) (by omega)), f1, f2, p1, p2⟩
def CrD (w : World) (col : Col) (D : Nat) (s : DevS) (w' : World) : Prop := Upd (AF col) w w' ∧ ∃ s' K S cap T M V, Crashed s s' ∧ DevT w' col 1 D s' K S cap T M V (.pointer none)
theorem CrD.old {w1 w2 : World} {s0 : DevS} (h : CrD w col D s0 w1) (U : Old w1 w2) : CrD w col D s0 w2 := by
 obtain ⟨h1, s', K, S, cap, T, M, V, h2, h3⟩ := h
 exact ⟨h1.trans (U.mono fun _ _ f => f.elim), s', K, S, cap, T, M, V, h2, h3.other U (fun _ f => f.elim) (Kept.refl _ _)⟩
theorem chain_af (h : DevT w col 1 D s K S cap T M V (.pointer (some ⟨PL, 0, none⟩))) (hP : (col PL).1 = 5) (o : Int) : Upd (AF col) w (((w.setCell ⟨D, 3, none⟩ (.int .i64 o)).setCell ⟨PL, 0, none⟩ (.int .i64 0)).setCell ⟨T, 1, none⟩ (.pointer none)) :=
 (((Upd.refl _ w).setCell _ _ (.inl (.inl (by rw [h.cD])))).setCell _ _ (.inl (.inr hP))).setCell _ _ (.inl (.inl (by rw [h.cT])))
theorem dev_sync_end (h : DevT w col 1 D s K S cap T M V (.pointer (some ⟨PL, 0, none⟩))) (p : PlA w col PL kb kc 1 x dn) (hup : s.down = false) (i : Nat) (hi : i < s.n + 2) (ho : s.ops < 1000000000) (hx : x ≤ 8192) (hn : ∀ b, w.heap.size ≤ b → (col b).1 = 0) :
 Calls Tryz.prog 108 #[.pointer (some ⟨D, 0, none⟩), .int .i64 ((i : Nat) : Int)] w fun e w' => e = .returned (.int .i64 13) ∧ CrD w col D { s with ops := s.ops + 1 } w' := by
 obtain ⟨va, vc, hv, c⟩ := h.cells i hi
 rw [hup] at c
 obtain ⟨tT, t⟩ := h.ft
 refine sync_end c (p.t h hi) h.ops0 h.ops1 (P := CrD w col D { s with ops := s.ops + 1 }) (fun W W' hp U => hp.old U) c.hD c.hT p.pl.lt (fun W g gc hO hg1 hg => ?_) (t.frozen 1)
 refine (dev_crash (at1 := 1) ((h.disarm p.cP ho).other hO (fun _ f => f.elim) (Kept.refl _ _)) hup hx hg1 (by rw [hn g hg]; decide)).mono ?_
 rintro e w' ⟨rfl, U, s', V', hc, hd⟩
 exact ⟨rfl, ((chain_af h p.cP _).trans (hO.mono fun _ _ f => f.elim)).trans (U.mono fun b _ hb => .inl hb), s', _, _, _, _, _, V', hc, hd⟩
theorem dev_erase_end0 (h : DevT w col 1 D s K S cap T M V (.pointer (some ⟨PL, 0, none⟩))) (p : PlA w col PL kb kc 1 x false) (hup : s.down = false) (i : Nat) (hi : i < s.n + 2) (ho : s.ops < 1000000000) (hx : x ≤ 8192) (hn : ∀ b, w.heap.size ≤ b → (col b).1 = 0) :
 Calls Tryz.prog 59 #[.pointer (some ⟨D, 0, none⟩), .int .i64 ((i : Nat) : Int)] w fun e w' => e = .returned (.int .i64 13) ∧ CrD w col D { s with ops := s.ops + 1 } w' := by
 obtain ⟨va, vc, hv, c⟩ := h.cells i hi
 rw [hup] at c
 obtain ⟨tT, t⟩ := h.ft
 refine erase_end0 c (p.t h hi) h.ops0 h.ops1 (P := CrD w col D { s with ops := s.ops + 1 }) (fun W W' hp U => hp.old U) c.hD c.hT p.pl.lt (fun W g gc hO hg1 hg => ?_) (t.frozen 1)
 refine (dev_crash (at1 := 1) ((h.disarm p.cP ho).other hO (fun _ f => f.elim) (Kept.refl _ _)) hup hx hg1 (by rw [hn g hg]; decide)).mono ?_
 rintro e w' ⟨rfl, U, s', V', hc, hd⟩
 exact ⟨rfl, ((chain_af h p.cP _).trans (hO.mono fun _ _ f => f.elim)).trans (U.mono fun b _ hb => .inl hb), s', _, _, _, _, _, V', hc, hd⟩
theorem dev_erase_end1 (h : DevT w col 1 D s K S cap T M V (.pointer (some ⟨PL, 0, none⟩))) (p : PlA w col PL kb kc 1 x true) (hup : s.down = false) (i : Nat) (hi : i < s.n + 2) (ho : s.ops < 1000000000) (hx : x ≤ 8192) (hn : ∀ b, w.heap.size ≤ b → (col b).1 = 0) :
 Calls Tryz.prog 59 #[.pointer (some ⟨D, 0, none⟩), .int .i64 ((i : Nat) : Int)] w fun e w' => e = .returned (.int .i64 13) ∧ CrD w col D (s.put i { s.img i with bs := [], dur := 0 }) w' := by
 obtain ⟨va, vc, hv, c⟩ := h.cells i hi
 rw [hup] at c
 obtain ⟨tT, t⟩ := h.ft
 refine erase_end1 c (p.t h hi) h.ops0 h.ops1 (P := CrD w col D (s.put i { s.img i with bs := [], dur := 0 })) (fun W W' hp U => hp.old U) (col_ne h.cT h.cK (by simp)) (col_ne h.cT h.cS (by simp)) c.hD c.hT p.pl.lt (fun W g gc hO hg1 hg => ?_) (t.frozen 1)
 have h2 := h.disarm p.cP ho
 have hch := chain_af h p.cP (s.ops + 1)
 generalize ((w.setCell ⟨D, 3, none⟩ (.int .i64 (s.ops + 1))).setCell ⟨PL, 0, none⟩ (.int .i64 0)).setCell ⟨T, 1, none⟩ (.pointer none) = w1 at *
 obtain ⟨va2, vc2, hv2, c2⟩ := h2.cells i hi
 have UM : Upd (fun b => b = M i) w1 ((w1.setCell ⟨M i, 0, none⟩ (.slice none 0 0)).setCell ⟨M i, 2, none⟩ (.int .i64 0)) := ((Upd.refl (fun b => b = M i) w1).setCell ⟨M i, 0, none⟩ _ (.inl rfl)).setCell ⟨M i, 2, none⟩ _ (.inl rfl)
 obtain ⟨td, d⟩ := h2.fd
 obtain ⟨⟨tm, m⟩, own, f1, f2, q1, q2⟩ := h2.fm i hi
 have h3 : DevT ((w1.setCell ⟨M i, 0, none⟩ (.slice none 0 0)).setCell ⟨M i, 2, none⟩ (.int .i64 0)) col 1 D (s.put i { s.img i with bs := [], dur := 0 }) K S cap T M (fun k => if k = i then .slice none 0 0 else V k) (.pointer none) := by
  refine h2.upd (m := { s.img i with bs := [], dur := 0 }) (v := .slice none 0 0) (ops := s.ops + 1) hi UM (fun b hb => .inr (.inl hb)) ⟨td, UM.has d (Ne.symm (fun e => c2.DM e.symm))⟩ ⟨⟨tm, ?_⟩, World.ownsRow_nil _ _ _ _, Nat.zero_le _, Nat.le_refl _, q1, q2⟩ (Kept.refl _ _) (fun b hb => by cases hb) (by have := h.ops0; omega) (by omega)
  have := (m.set 0 (.slice none 0 0)).set 2 (.int .i64 0)
  simpa using this
 refine (dev_crash (at1 := 1) (h3.other hO (fun _ f => f.elim) (Kept.refl _ _)) hup hx hg1 (by rw [hn g hg]; decide)).mono ?_
 rintro e w' ⟨rfl, U, s', V', hc, hd⟩
 exact ⟨rfl, ((hch.trans (UM.mono fun b _ hb => .inl (by rw [hb, h.cM i hi]))).trans (hO.mono fun _ _ f => f.elim)).trans (U.mono fun b _ hb => .inl hb), s', _, _, _, _, _, V', hc, hd⟩
end
end Go.M
namespace Go.M
open Go.Proofs Go.RowKit Go.Shelf
set_option linter.unusedSimpArgs false
attribute [local go_sem] Oper.semAt_some
def ArmD (w : World) (col : Col) (D : Nat) (s : DevS) (a x : Nat) (dn : Bool) : Prop := ∃ K S cap T M V PL kb kc, DevT w col 1 D s K S cap T M V (.pointer (some ⟨PL, 0, none⟩)) ∧ PlA w col PL kb kc a x dn
theorem ArmD.upd {w w' : World} {col col' : Col} {D : Nat} {s : DevS} {a x : Nat} {dn : Bool} (h : ArmD w col D s a x dn) {F : Nat → Prop} (U : Upd F w w') (hF : ∀ b, F b → (col b).1 ≠ 1 ∧ (col b).1 ≠ 5) (hk : Kept w col col') : ArmD w' col' D s a x dn := by
 obtain ⟨K, S, cap, T, M, V, PL, kb, kc, h1, h2⟩ := h
 exact ⟨K, S, cap, T, M, V, PL, kb, kc, h1.other U (fun b hb => (hF b hb).1) hk, h2.upd U (fun b hb => (hF b hb).2) hk⟩
theorem ArmD.dsl {w : World} {col : Col} {D : Nat} {s : DevS} {a x : Nat} {dn : Bool} (h : ArmD w col D s a x dn) (hup : s.down = false) : DSl w (.pointer (some ⟨D, 0, none⟩)) s.n := by
 obtain ⟨K, S, cap, T, M, V, PL, kb, kc, h1, h2⟩ := h
 obtain ⟨t, hd⟩ := h1.fd
 have h4 := hd.cell 4
 rw [hup] at h4
 exact .inr ⟨D, rfl, hd.cell 2, h4⟩
theorem ArmD.uns {w : World} {col : Col} {D : Nat} {s : DevS} {a x : Nat} {dn : Bool} (h : ArmD w col D s a x dn) (hup : s.down = false) {i : Nat} (hi : i < s.n) : (s.img i).dur ≤ (s.img i).bs.length ∧
 Calls Tryz.prog 11 #[.pointer (some ⟨D, 0, none⟩), .int .i64 ((i : Nat) : Int)] w fun e w' => e = .returned (.tuple #[.int .i64 (((s.img i).bs.length : Int) - ((s.img i).dur : Int)), .int .i64 0]) ∧ Old w w' := by
 obtain ⟨K, S, cap, T, M, V, PL, kb, kc, h1, h2⟩ := h
 obtain ⟨va, vc, hv, c⟩ := h1.cells i (by omega)
 rw [hup] at c
 exact ⟨(h1.fm i (by omega)).durs, uns_cellsT c⟩
theorem ArmD.grown {X Y : World} {B : Nat} {col : Col} {D : Nat} {s : DevS} {a x : Nat} {dn : Bool} {row : Option Nat} (h : ArmD X col D s a x dn) (hg : X.grownBy Y row) (hc : ∀ b, B ≤ b → (col b).1 = 0) (hr : ∀ r, row = some r → B ≤ r) : ArmD Y col D s a x dn :=
 h.upd (F := fun b => row = some b) ((Upd.refl _ X).grown hg (fun k e => .inl e)) (fun b e => by have := hc b (hr b e); omega) (Kept.refl _ _)
def SynX (w : World) (col : Col) (D : Nat) (s : DevS) (w' : World) : Prop := ∃ pre, (∀ i ∈ pre, i < s.n) ∧ CrD w col D { s.syns pre with ops := (s.syns pre).ops + 1 } w'
theorem CrD.upd {w w1 w2 : World} {col : Col} {D : Nat} {s0 : DevS} {F : Nat → Prop} (h : CrD w col D s0 w1) (U : Upd F w1 w2) (hF : ∀ b, F b → (col b).1 ≠ 1) (hw : ∀ b, F b → w.heap.size ≤ b := by exact fun b hb => by omega) : CrD w col D s0 w2 := by
 obtain ⟨h1, s', K, S, cap, T, M, V, h2, h3⟩ := h
 exact ⟨h1.after U (fun b hb hf => absurd (hw b hf) (by omega)), s', K, S, cap, T, M, V, h2, h3.other U hF (Kept.refl _ _)⟩
theorem CrD.from {w0 w w1 : World} {col : Col} {D : Nat} {s0 : DevS} (h : CrD w col D s0 w1) (U : Upd (AF col) w0 w) : CrD w0 col D s0 w1 := ⟨U.trans h.1, h.2⟩
theorem SynX.grown {w X Y : World} {col : Col} {D : Nat} {s : DevS} {row : Option Nat} (h : SynX w col D s X) (hg : X.grownBy Y row) (hc : ∀ b, w.heap.size ≤ b → (col b).1 = 0) (hr : ∀ r, row = some r → w.heap.size ≤ r) : SynX w col D s Y := by
 obtain ⟨pre, hp, h⟩ := h
 exact ⟨pre, hp, h.upd (F := fun b => row = some b) ((Upd.refl _ X).grown hg (fun k e => .inl e)) (fun b e => by rw [hc b (hr b e)]; decide) (fun b e => hr b e)⟩
set_option maxHeartbeats 1600000 in
theorem r_sync_arm {w : World} {col : Col} {D B : Nat} {s : DevS} {a x : Nat} {dn : Bool} (h : ArmD w col D s a x dn) (hup : s.down = false) (ht : TSl w (.pointer (some ⟨B, 0, none⟩)) s.n) (hc : ∀ b, w.heap.size ≤ b → (col b).1 = 0) (ho : s.ops ≤ 900000000) (ha : a ≤ 1000000) (ha1 : 1 ≤ a) (hx : x ≤ 8192) :
 Calls Tryz.prog 47 #[.pointer (some ⟨D, 0, none⟩), .pointer (some ⟨B, 0, none⟩)] w fun e w' =>
  (e = .returned (.int .i64 0) ∧ ((List.range s.n).filter (unsOf s)).length < a ∧ ArmD w' col D (s.syns ((List.range s.n).filter (unsOf s))) (a - ((List.range s.n).filter (unsOf s)).length) x dn ∧ Upd (AF col) w w') ∨
  (e = .returned (.int .i64 13) ∧ a ≤ ((List.range s.n).filter (unsOf s)).length ∧ SynX w col D s w') := by
 have hds := h.dsl hup
 have hlh : 2 ≤ s.n ∧ s.n ≤ 32 := by obtain ⟨K, S, cap, T, M, V, PL, kb, kc, h1, h2⟩ := h; exact ⟨h1.lo, h1.hi⟩
 obtain ⟨hlo, hhi⟩ := hlh
 have HC := Lib.hid (fun (W : World) (U : Old w W) => r_check_ok (hds.old U) (ht.old U) (by omega) (by omega))
 have HH := Lib.hid h
 have HCO := Lib.hid hc
 clear hds ht h hc
 refine (callsIn_wide (n := 8)).1 ?_
 refine callsIn_of_wp_marks Tryz.func47 rfl trivial ?_ rfl
 simp only [Tryz.ntmps47, List.size_toArray, List.length_cons, List.length_nil, Nat.reduceAdd, Nat.reduceSub, Array.replicate_succ, Array.replicate_zero, List.push_toArray, List.append_toArray, List.nil_append, List.cons_append]
 refine wpIn_wide.2 ?_
 go_wp2_with (first | (go_at_call 115; refine (HC.out _ ?_).mono ?_; (exact (((Upd.refl _ w).alloc _).alloc _)); rintro e w1 ⟨rfl, hO⟩; have p0 : w1.cell? ⟨w.heap.size, 0, none⟩ = some (.pointer (some ⟨D, 0, none⟩)) := Old.cellOf' hO (by go_simp); have p1 : w1.cell? ⟨w.heap.size + 1, 0, none⟩ = some (.int .i64 0) := Old.cellOf' hO (by go_simp); have f1 : w1.frozen? ⟨w.heap.size + 1, 0, none⟩ = false := hO.frz (by go_simp) (by go_simp); have l1 := World.block_lt_of_cell? w1 _ p1; have l0 := World.block_lt_of_cell? w1 _ p0; have H1 := Lib.hid ((((Upd.refl _ w).alloc _).alloc _).trans hO); clear hO) | (go_at_call 115; refine Hid.out ?_) | go_in)
 obtain ⟨W0, hW0⟩ : ∃ W0, w1.alloc (.cells #[.pointer (some ⟨D, 0, none⟩)] 37) = W0 := ⟨_, rfl⟩
 obtain ⟨PD, hPD⟩ : ∃ PD, w1.heap.size = PD := ⟨_, rfl⟩
 have U0 : Old w W0 := by rw [← hW0]; exact H1.out.alloc _
 have P0 : W0.cell? ⟨PD, 0, none⟩ = some (.pointer (some ⟨D, 0, none⟩)) := by rw [← hW0, ← hPD]; exact (Has.new w1 _ _).cell 0
 have q0 : W0.cell? ⟨w.heap.size, 0, none⟩ = some (.pointer (some ⟨D, 0, none⟩)) := by rw [← hW0]; exact Old.cellOf' ((Upd.refl _ w1).alloc _) p0
 have q1 : W0.cell? ⟨w.heap.size + 1, 0, none⟩ = some (.int .i64 0) := by rw [← hW0]; exact Old.cellOf' ((Upd.refl _ w1).alloc _) p1
 have q2 : W0.frozen? ⟨w.heap.size + 1, 0, none⟩ = false := by rw [← hW0]; exact Old.frz ((Upd.refl (fun _ => False) w1).alloc _) l1 f1
 have hP : w.heap.size ≤ PD := by rw [← hPD]; exact H1.out.size
 have hPl : w.heap.size + 1 < W0.heap.size := World.block_lt_of_cell? W0 _ q1
 rw [hW0, hPD]
 have HU0 := Lib.hid U0
 clear hW0 hPD p0 p1 f1 l1 l0 H1 U0
 have hz := HU0.out.size
 have hF5 : ∀ b, AF col b → b < w.heap.size := fun b hb => Nat.lt_of_not_le fun hl => by have := HCO.out b hl; unfold AF at hb; omega
 have HF5 := Lib.hid hF5
 clear hF5
 refine (wpIn_wide (n := 8)).1 ?_
 refine range_told rfl (by omega) (gf := 191) (lb := #[.pointer (some ⟨PD, 0, none⟩)]) rfl trivial (enters_of Tryz.func191 (by kernel_rfl) rfl) (encs := fun i : Nat => #[.int .i64 ((i : Nat) : Int)]) (fun _ => rfl)
  (uns_iter_g 7 (by omega) (PD := PD) (D := D) (s0 := s) (G := fun pre V => V.cell? ⟨PD, 0, none⟩ = some (.pointer (some ⟨D, 0, none⟩)) ∧ ∃ a', ArmD V col D (s.syns pre) a' x dn) (by omega) (fun pre V hg => by
    obtain ⟨h1, h2, h3, h4, h5⟩ := syns_n pre s
    obtain ⟨g1, a', g2⟩ := hg
    refine ⟨g1, by have := g2.dsl (h2.trans hup); rwa [h1] at this, fun k hk hn => ?_⟩
    have := g2.uns (h2.trans hup) (i := k) (by omega)
    rwa [h4 k hn] at this))
  (fun pre V => (pre.length < a ∧ ArmD V col D (s.syns pre) (a - pre.length) x dn) ∧ V.cell? ⟨PD, 0, none⟩ = some (.pointer (some ⟨D, 0, none⟩)) ∧ Upd (AF col) w V ∧ V.cell? ⟨w.heap.size, 0, none⟩ = some (.pointer (some ⟨D, 0, none⟩)) ∧ V.cell? ⟨w.heap.size + 1, 0, none⟩ = some (.int .i64 0) ∧ V.frozen? ⟨w.heap.size + 1, 0, none⟩ = false)
  (fun c V => c = .ret ∧ a ≤ ((List.range s.n).filter (unsOf s)).length ∧ SynX w col D s V ∧ V.cell? ⟨w.heap.size + 1, 0, none⟩ = some (.int .i64 13)) ?own ?own2 ?start (fun pre V h => ⟨h.2.1, _, h.1.2⟩)
  (fun i => { tmps := #[.pointer (some ⟨D, 0, none⟩), .pointer (some ⟨B, 0, none⟩), .pointer (some ⟨w.heap.size, 0, none⟩), undef, .pointer (some ⟨w.heap.size + 1, 0, none⟩), .int .i64 0, .int .i64 ((i : Nat) : Int), undef, .pointer (some ⟨D, 0, none⟩), .pointer (some ⟨B, 0, none⟩), .int .i64 0, .int .i64 0, .bool false, undef, .pointer (some ⟨D, 0, none⟩), .func (.func 191) #[] #[.pointer (some ⟨PD, 0, none⟩)], .int .i64 ((i : Nat) : Int), undef, undef, undef, undef, undef, undef], defers := [] })
  ?assign ?body ?done ?stop
 case own =>
  rintro pre X Y row ⟨⟨h0, h1⟩, hpd, h2, h3, h4, h5⟩ hg hr
  have hn : ∀ r, row = some r → w.heap.size ≤ r := fun r e => by have := (hr r e).1; omega
  refine ⟨⟨h0, h1.grown hg HCO.out hn⟩, cell_kept hpd hg (fun r e => (hr r e).2), h2.grown hg (fun k e => .inr (hn k e)), cell_kept h3 hg (fun r e => (hr r e).2), cell_kept h4 hg (fun r e => (hr r e).2), ?_⟩
  have hb := hg.block (w.heap.size + 1) (World.block_lt_of_cell? X _ h4) (fun e => by have := (hr _ e.symm).1; omega)
  rw [World.frozen?_of_block hb]; exact h5
 case own2 =>
  rintro c u X Y row ⟨h0, h1, h2, h3⟩ hg hr
  have hn : ∀ r, row = some r → w.heap.size ≤ r := fun r e => by have := (hr r e).1; omega
  exact ⟨h0, h1, h2.grown hg HCO.out hn, cell_kept h3 hg (fun r e => (hr r e).2)⟩
 case start =>
  exact ⟨⟨show 0 < a by omega, HH.out.upd HU0.out (fun _ f => f.elim) (Kept.refl _ _)⟩, P0, HU0.out.mono (fun _ _ x => x.elim), q0, q1, q2⟩
 case assign =>
  intro l x V K hK
  gi_wp2
  exact hK
 case body =>
  rintro l pre x' V1 hl ⟨⟨hpa, hd⟩, hpd, hU, c0, c1, c2⟩ ⟨hx', hin, hu⟩
  obtain ⟨h1, h2, h3, h4, h5⟩ := syns_n pre s
  have hpl : pre.length ≤ x' := by
   have := List.length_filter_le (unsOf s) (List.range x')
   rw [← hin, List.length_range] at this
   exact this
  have hpi : ∀ i ∈ pre, i < s.n := fun i hi => by rw [hin, List.mem_filter, List.mem_range] at hi; omega
  have hlen : pre.length + 1 ≤ ((List.range s.n).filter (unsOf s)).length := by
   have hs : (List.range (x' + 1)).Sublist (List.range s.n) := List.range_sublist.2 (by omega)
   have := (hs.filter (unsOf s)).length_le
   rw [List.range_succ, List.filter_append, ← hin, List.length_append] at this
   simpa [List.filter, hu] using this
  have hnew : ∀ b, V1.heap.size ≤ b → (col b).1 = 0 := fun b hb => HCO.out b (Nat.le_trans hU.size hb)
  have hs1 := hU.size
  have e : s.syns (pre ++ [x']) = (s.syns pre).syn x' := by simp [DevS.syns, List.foldl_append]
  obtain ⟨K, S, cap, T, M, V, PL, kb, kc, hdv, hpl2⟩ := hd
  by_cases h2a : 2 ≤ a - pre.length
  ·have HS := Lib.hid (dev_sync_go hdv hpl2 (h2.trans hup) x' (by omega) (by omega) (by omega) h2a)
   clear hdv hpl2
   gi_wp2_with (first | (refine ⟨trivial, ?_⟩; gi_at_call 108; refine (callsIn_wide.2 HS.out).mono ?_; rintro e w2 ⟨rfl, ⟨V', hd2⟩, hp2, hU2⟩))
   have nF : ∀ b, w.heap.size ≤ b → ¬ AF col b := fun b hb e => by have := HF5.out b e; omega
   refine ⟨keepsFrom_upd hU2 (fun b hb => by have := HF5.out b hb; omega), trivial, ⟨by rw [List.length_append]; simp; omega, K, S, cap, T, M, V', PL, kb, kc, ?_, ?_⟩, hU2.cellOf hpd (nF _ hP), hU.trans hU2, hU2.cellOf c0 (nF _ (Nat.le_refl _)), hU2.cellOf c1 (nF _ (by omega)), ?_⟩
   ·rw [e]; exact hd2
   ·rw [List.length_append, show a - (pre.length + [x'].length) = a - pre.length - 1 by simp; omega]; exact hp2
   ·rw [World.frozen?_of_block (hU2.keep (w.heap.size + 1) (World.block_lt_of_cell? V1 _ c1) (nF _ (by omega)))]
    exact c2
  ·have ha' : a - pre.length = 1 := by omega
   rw [ha'] at hpl2
   have HS := Lib.hid (dev_sync_end hdv hpl2 (h2.trans hup) x' (by omega) (by omega) hx hnew)
   clear hdv hpl2
   have b4 := World.block_lt_of_cell? V1 _ c1
   gi_wp2_with (first | (refine ⟨trivial, ?_⟩; gi_at_call 108; refine (callsIn_wide.2 HS.out).mono ?_; rintro e w2 ⟨rfl, hcr⟩; have y1 : w2.cell? ⟨w.heap.size + 1, 0, none⟩ = some (.int .i64 0) := hcr.1.cellOf c1 (fun hb => by have := HF5.out _ hb; omega); have y2 : w2.frozen? ⟨w.heap.size + 1, 0, none⟩ = false := (by rw [World.frozen?_of_block (hcr.1.keep (w.heap.size + 1) b4 (fun hb => by have := HF5.out _ hb; omega))]; exact c2); have y4 := World.block_lt_of_cell? w2 _ y1; have HCR := Lib.hid hcr; clear hcr))
   have U2 : Upd (fun b => b = w.heap.size + 1) w2 (w2.setCell ⟨w.heap.size + 1, 0, none⟩ (.int .i64 13)) := (Upd.refl _ w2).setCell _ _ (.inl rfl)
   have hcr := HCR.out
   have hF6 : ∀ b, (AF col b ∨ b = w.heap.size + 1) → b < W0.heap.size := fun b hb => by
    rcases hb with hb | hb
    ·have := HF5.out b hb; omega
    ·omega
   have kk : KeepsFrom W0.heap.size V1 (w2.setCell ⟨w.heap.size + 1, 0, none⟩ (.int .i64 13)) := keepsFrom_upd (F := fun b => AF col b ∨ b = w.heap.size + 1) ((hcr.1.mono fun b _ hb => .inl hb).trans (U2.mono fun b _ hb => .inr hb)) hF6
   exact ⟨kk, rfl, by omega, ⟨pre, hpi, (hcr.from hU).upd U2 (fun b hb => by rw [hb, HCO.out _ (by omega)]; decide) (fun b hb => by omega)⟩, World.cell?_setCell_same' _ _ _ (by rw [y1]; rfl)⟩
 case done =>
  rintro D1 xs V1 hD rfl ⟨⟨hla, hd⟩, hpd, hU, c0, c1, c2⟩ hKD
  go_wp2
  have hKD' : (V1.setCell ⟨w.heap.size + 1, 0, none⟩ (.int .i64 0)).heap[D1]? = some (.deferred (some [])) := (Below.heap_setCell V1 ⟨w.heap.size + 1, 0, none⟩ _ D1 (by show D1 ≠ w.heap.size + 1; omega)).trans hKD
  refine ⟨by simp, .inl ⟨_, _, rfl, run_takeDeferred hKD', ?_⟩⟩
  obtain ⟨V3, hV3⟩ : ∃ V3, (V1.setCell ⟨w.heap.size + 1, 0, none⟩ (.int .i64 0)).putObj D1 (.deferred none) = V3 := ⟨_, rfl⟩
  have k1 : V3.cell? ⟨w.heap.size + 1, 0, none⟩ = some (.int .i64 0) := by
   rw [← hV3, World.cell?_of_block (World.putObj_heap_other (by show w.heap.size + 1 ≠ D1; omega))]
   exact World.cell?_setCell_same' _ _ _ (by rw [c1]; rfl)
  have k2 : ArmD V3 col D (s.syns ((List.range s.n).filter (unsOf s))) (a - ((List.range s.n).filter (unsOf s)).length) x dn ∧ Upd (AF col) w V3 := by
   have U : Upd (fun b => b = w.heap.size + 1 ∨ b = D1) V1 V3 := by
    rw [← hV3]
    exact ((Upd.refl _ V1).setCell _ _ (.inl (.inl rfl))).grown (grownBy_putObj' _ D1 _) (fun k e => by cases e; exact .inl (.inr rfl))
   exact ⟨hd.upd U (fun b hb => by rw [HCO.out b (by omega)]; decide) (Kept.refl _ _), hU.after U (fun b hb h => by omega)⟩
  rw [hV3]
  refine ⟨_, res_cell rfl rfl ?_, .inl ⟨rfl, hla, k2.1, k2.2⟩⟩
  go_simp
 case stop =>
  rintro D1 c V1 hD ⟨rfl, h1, h2, h3⟩ hKD
  have hq : (V1.putObj D1 (.deferred none)).cell? ⟨w.heap.size + 1, 0, none⟩ = some (.int .i64 13) := by
   rw [World.cell?_of_block (World.putObj_heap_other (by show w.heap.size + 1 ≠ D1; omega))]; exact h3
  have hcr := h2.grown (grownBy_putObj' V1 D1 (.deferred none)) HCO.out (fun r e => by cases e; omega)
  gi_wp2
  refine ⟨by simp, .inl ⟨_, _, rfl, run_takeDeferred hKD, ?_⟩⟩
  refine ⟨_, res_cell (v := .int .i64 13) rfl rfl ?_, .inr ⟨rfl, h1, hcr⟩⟩
  go_simp
end Go.M
