/- Walks 21. -/
import Derived.Test.YtfkpfgnigiijnaaGreatDoorProg
import Derived.Test.YtfkpfgnigiijnaaGreatDoorK18
import Derived.Test.YtfkpfgnigiijnaaGreatDoorK20
set_option linter.unusedVariables false
set_option linter.unusedSimpArgs false
set_option maxRecDepth 100000
namespace Go.M
open Go.Proofs Go.RowKit
def DSt (w : World) (D n : Nat) (ops : Int) (down : Bool) : Prop := w.cell? ⟨D, 2, none⟩ = some (.int .i64 ((n : Nat) : Int)) ∧ w.cell? ⟨D, 3, none⟩ = some (.int .i64 ops) ∧ w.cell? ⟨D, 4, none⟩ = some (.bool down)
theorem DSt.old {w w' : World} {D n : Nat} {ops : Int} {down : Bool} (h : DSt w D n ops down) (U : Old w w') : DSt w' D n ops down := ⟨Old.cellOf' U h.1, Old.cellOf' U h.2.1, Old.cellOf' U h.2.2⟩
theorem d_slots2 {w : World} {D n : Nat} {ops : Int} {down : Bool} (h : DSt w D n ops down) (hp : 0 < n) :
 Calls Tryz.prog 95 #[.pointer (some ⟨D, 0, none⟩)] w fun e w' => e = .returned (.int .i64 ((n : Nat) : Int)) ∧ w = w' := by
 obtain ⟨h2, h3, h4⟩ := h
 have g1 : (0 : Int) < (n : Int) := by omega
 go_enter Tryz.func95, Tryz.ntmps95
 go_wp2
 go_ret
 exact ⟨rfl, rfl⟩
theorem d_ops2 {w : World} {D n : Nat} {ops : Int} {down : Bool} (h : DSt w D n ops down) (hp : 0 < n) :
 Calls Tryz.prog 14 #[.pointer (some ⟨D, 0, none⟩)] w fun e w' => e = .returned (.int .i64 ops) ∧ w = w' := by
 obtain ⟨h2, h3, h4⟩ := h
 have g1 : (0 : Int) < (n : Int) := by omega
 go_enter Tryz.func14, Tryz.ntmps14
 go_wp2
 go_ret
 exact ⟨rfl, rfl⟩
theorem d_down2 {w : World} {D n : Nat} {ops : Int} {down : Bool} (h : DSt w D n ops down) (hp : 0 < n) :
 Calls Tryz.prog 100 #[.pointer (some ⟨D, 0, none⟩)] w fun e w' => e = .returned (.bool down) ∧ w = w' := by
 obtain ⟨h2, h3, h4⟩ := h
 have g1 : (0 : Int) < (n : Int) := by omega
 go_enter Tryz.func100, Tryz.ntmps100
 go_wp2
 go_ret
 exact ⟨rfl, rfl⟩
theorem t_state_out {w : World} {t : Value} {n : Nat} {sl : Int} (h : TSl w t n) (hp : 0 < n) (ho : sl < 0 ∨ (n : Int) ≤ sl) :
 Calls Tryz.prog 96 #[t, .int .i64 sl] w fun e w' => e = .returned (.tuple #[.int .i64 0, .int .i64 3]) ∧ Old w w' := by
 rcases h with ⟨rfl, rfl⟩ | ⟨B, r, rfl, h2, h3⟩
 ·omega
 ·have g1 : (0 : Int) < (n : Int) := by omega
  rcases ho with g2 | g2
  ·go_enter Tryz.func96, Tryz.ntmps96
   go_wp2
   go_ret2
   exact ⟨rfl, Upd.refl _ _⟩
  ·have g3 : ¬ (sl < 0) := by omega
   go_enter Tryz.func96, Tryz.ntmps96
   go_wp2
   go_ret2
   exact ⟨rfl, Upd.refl _ _⟩
theorem r_check2 {w : World} {D n : Nat} {ops : Int} {down : Bool} {t : Value} (hd : DSt w D n ops down) (ht : TSl w t n) (hp : 0 < n) (h1 : n ≤ 100) :
 Calls Tryz.prog 37 #[.pointer (some ⟨D, 0, none⟩), t] w fun e w' => e = .returned (.int .i64 (if down then 13 else 0)) ∧ Old w w' := by
 have HD := Lib.hid (fun (w' : World) (U : Old w w') => d_slots2 (hd.old U) hp)
 have HO := Lib.hid (fun (w' : World) (U : Old w w') => d_down2 (hd.old U) hp)
 have HT := Lib.hid (t_sizes ht h1)
 have g1 : ((n : Int) == 0) = false := by rw [beq_eq_false_iff_ne]; omega
 clear hd ht h1 hp
 cases down with
 | false =>
  go_enter Tryz.func37, Tryz.ntmps37
  go_wp2_with (first | (go_at_call 77; refine HT.out.mono ?_; rintro e w1 ⟨r, rfl, hU⟩; have HU := Lib.hid hU; clear hU) | (go_at_call 95; refine (HD.out _ HU.out).mono ?_; rintro e w2 ⟨rfl, rfl⟩) | (go_at_call 100; refine (HO.out _ HU.out).mono ?_; rintro e w3 ⟨rfl, rfl⟩))
  all_goals
   go_ret
   exact ⟨rfl, HU.out⟩
 | true =>
  go_enter Tryz.func37, Tryz.ntmps37
  go_wp2_with (first | (go_at_call 77; refine HT.out.mono ?_; rintro e w1 ⟨r, rfl, hU⟩; have HU := Lib.hid hU; clear hU) | (go_at_call 95; refine (HD.out _ HU.out).mono ?_; rintro e w2 ⟨rfl, rfl⟩) | (go_at_call 100; refine (HO.out _ HU.out).mono ?_; rintro e w3 ⟨rfl, rfl⟩))
  all_goals
   go_ret
   exact ⟨rfl, HU.out⟩
theorem r_state2 {w : World} {D n : Nat} {ops sl : Int} {down : Bool} {t x : Value} (hd : DSt w D n ops down) (ht : TSl w t n) (hx : XSl w x n) (hp : 0 < n) (h1 : n ≤ 100) (ho : sl < 0 ∨ (n : Int) ≤ sl) :
 Calls Tryz.prog 34 #[.pointer (some ⟨D, 0, none⟩), t, x, .int .i64 sl] w fun e w' => e = .returned (.tuple #[.int .i64 0, .int .i64 (if down then 13 else 3)]) ∧ Old w w' := by
 have HD := Lib.hid (fun (w' : World) (U : Old w w') => d_slots2 (hd.old U) hp)
 have HX := Lib.hid (fun (w' : World) (U : Old w w') => x_slots (hx.old U) h1)
 have HS := Lib.hid (fun (w' : World) (U : Old w w') => t_state_out (ht.old U) hp ho)
 have HC := Lib.hid (r_check2 hd ht hp h1)
 have g1 : ((n : Int) == 0) = false := by rw [beq_eq_false_iff_ne]; omega
 clear hd ht hx hp h1 ho
 cases down with
 | false =>
  simp only [Bool.false_eq_true, if_false] at HC ⊢
  go_enter Tryz.func34, Tryz.ntmps34
  go_wp2_with (first | (go_at_call 37; refine HC.out.mono ?_; rintro e w1 ⟨rfl, hU⟩; have HU := Lib.hid hU; clear hU) | (go_at_call 94; refine (HX.out _ HU.out).mono ?_; rintro e w2 ⟨rfl, rfl⟩) | (go_at_call 95; refine (HD.out _ HU.out).mono ?_; rintro e w2 ⟨rfl, rfl⟩) | (go_at_call 96; refine (HS.out _ HU.out).mono ?_; rintro e w3 ⟨rfl, hU3⟩; have HU3 := Lib.hid hU3; clear hU3))
  all_goals
   go_ret2
   exact ⟨rfl, HU.out.trans HU3.out⟩
 | true =>
  simp only [if_true] at HC ⊢
  go_enter Tryz.func34, Tryz.ntmps34
  go_wp2_with (first | (go_at_call 37; refine HC.out.mono ?_; rintro e w1 ⟨rfl, hU⟩; have HU := Lib.hid hU; clear hU) | (go_at_call 94; refine (HX.out _ HU.out).mono ?_; rintro e w2 ⟨rfl, rfl⟩) | (go_at_call 95; refine (HD.out _ HU.out).mono ?_; rintro e w2 ⟨rfl, rfl⟩))
  all_goals
   go_ret2
   exact ⟨rfl, HU.out⟩
def dnz (down : Bool) : Int := if down then 13 else 3
theorem dnz_ne (down : Bool) : (dnz down == 0) = false := by cases down <;> rfl
theorem r_safe2 {w : World} {D n : Nat} {ops sl : Int} {down : Bool} {t x : Value} (hd : DSt w D n ops down) (ht : TSl w t n) (hx : XSl w x n) (hp : 0 < n) (h1 : n ≤ 100) (ho : sl < 0 ∨ (n : Int) ≤ sl) :
 Calls Tryz.prog 10 #[.pointer (some ⟨D, 0, none⟩), t, x, .int .i64 sl] w fun e w' => e = .returned (.tuple #[.bool false, .int .i64 (dnz down)]) ∧ Old w w' :=
 safe_of (dnz_ne down) (Lib.hid (fun (w' : World) (U : Old w w') => r_state2 (hd.old U) (ht.old U) (hx.old U) hp h1 ho))
theorem r_erase2 {w : World} {D n : Nat} {ops sl : Int} {down : Bool} {t x : Value} (hd : DSt w D n ops down) (ht : TSl w t n) (hx : XSl w x n) (hp : 0 < n) (h1 : n ≤ 100) (ho : sl < 0 ∨ (n : Int) ≤ sl) :
 Calls Tryz.prog 12 #[.pointer (some ⟨D, 0, none⟩), t, x, .int .i64 sl] w fun e w' => e = .returned (.int .i64 (dnz down)) ∧ Old w w' := by
 obtain ⟨pt, rfl⟩ := ht.ptr
 obtain ⟨px, rfl⟩ := hx.ptr
 exact erase_of (dnz_ne down) (Lib.hid (fun (w' : World) (U : Old w w') => r_state2 (hd.old U) (ht.old U) (hx.old U) hp h1 ho))
theorem r_sync2 {w : World} {D n : Nat} {ops : Int} {t : Value} (hd : DSt w D n ops true) (ht : TSl w t n) (hp : 0 < n) (h1 : n ≤ 100) :
 Calls Tryz.prog 11 #[.pointer (some ⟨D, 0, none⟩), t] w fun e w' => e = .returned (.int .i64 13) ∧ Old w w' :=
 sync_of (z := 13) (by decide) (Lib.hid (fun (w' : World) (U : Old w w') => r_check2 (hd.old U) (ht.old U) hp h1))
structure RfSt (w : World) (col : Col) (PP D B X n : Nat) (ops : Int) : Prop where
 n1 : 4 ≤ n
 n9 : n ≤ 9
 c0 : w.cell? ⟨PP, 0, none⟩ = some (.int .i64 ((n : Nat) : Int))
 c7 : w.cell? ⟨PP, 7, none⟩ = some (.pointer (some ⟨D, 0, none⟩))
 c8 : w.cell? ⟨PP, 8, none⟩ = some (.pointer (some ⟨B, 0, none⟩))
 c9 : w.cell? ⟨PP, 9, none⟩ = some (.pointer (some ⟨X, 0, none⟩))
 dev : ∃ s K S cap T M V, DevAt w col 1 D s K S cap T M V ∧ s.n = n ∧ s.ops = ops ∧ s.down = false
 t : TSl w (.pointer (some ⟨B, 0, none⟩)) n
 x : XSl w (.pointer (some ⟨X, 0, none⟩)) n
 rP : (col PP).1 ≠ 1
 rB : (col B).1 ≠ 1
 rX : (col X).1 ≠ 1
theorem RfSt.old {w w' : World} {col : Col} {PP D B X n : Nat} {ops : Int} (h : RfSt w col PP D B X n ops) (U : Old w w') : RfSt w' col PP D B X n ops := by
 obtain ⟨s, K, S, cap, T, M, V, hd, e⟩ := h.dev
 exact ⟨h.n1, h.n9, Old.cellOf' U h.c0, Old.cellOf' U h.c7, Old.cellOf' U h.c8, Old.cellOf' U h.c9, ⟨s, K, S, cap, T, M, V, hd.other U (fun b h => h.elim) (Kept.refl _ _), e⟩, h.t.old U, h.x.old U, h.rP, h.rB, h.rX⟩
theorem RfSt.st {w : World} {col : Col} {PP D B X n : Nat} {ops : Int} (h : RfSt w col PP D B X n ops) : DSt w D n ops false := by
 obtain ⟨s, K, S, cap, T, M, V, hd, rfl, rfl, e⟩ := h.dev
 obtain ⟨t, d⟩ := hd.fd
 rw [e] at d
 exact ⟨d.cell 2, d.cell 3, d.cell 4⟩
theorem rf_of {w wr : World} {k : Cf} {PP D B X it : Nat} (h : MadeRel w k PP D B X it wr) : ∃ col ops, RfSt wr col PP D B X k.n ops ∧ (∀ b, b < w.heap.size → col b = (0, 0)) ∧ (∀ b, wr.heap.size ≤ b → col b = (0, 0)) ∧ Old w wr := by
 obtain ⟨col, next, used, act, lens, ops, hp, h1, h2, h3, h4⟩ := h
 obtain ⟨t, p⟩ := hp.p
 have hk : Kept wr col (fun b => if b < wr.heap.size then col b else (0, 0)) := fun b hb => by simp only; rw [if_pos hb]
 obtain ⟨s, K, S, cap, T, M, V, hd, e1, e2, e3, e4⟩ := hp.dev
 obtain ⟨ts, Z, ht, a1, a2, a3⟩ := hp.tab
 obtain ⟨tb, fb⟩ := ht.fB
 obtain ⟨si, hi⟩ := hp.idx
 obtain ⟨tx, fx⟩ := hi.fX
 have s4 := h4.size
 rw [a1] at fb
 have hd2 := hd.other (Upd.refl (fun _ => False) wr) (fun b h => h.elim) hk
 refine ⟨_, _, ⟨hp.n4, hp.n9, p.cell 0, p.cell 7, p.cell 8, p.cell 9, ⟨s, K, S, cap, T, M, V, hd2, e1, rfl, e2⟩, .inr ⟨B, _, rfl, fb.cell 0, fb.cell 1⟩, .inr ⟨X, _, _, rfl, fx.cell 1⟩, ?_, ?_, ?_⟩, fun b hb => (by (try simp only); rw [if_pos (by omega), h3 b hb]), fun b hb => (by (try simp only); rw [if_neg (by omega)]), h4⟩
 ·(try simp only); rw [if_pos p.lt, hp.cP]; simp
 ·(try simp only); rw [if_pos fb.lt, ht.cB]; simp
 ·(try simp only); rw [if_pos fx.lt, hi.cX]; simp
theorem TSl.upd {F : Nat → Prop} {w w' : World} {B n : Nat} (h : TSl w (.pointer (some ⟨B, 0, none⟩)) n) (U : Upd F w w') (hF : ¬ F B) : TSl w' (.pointer (some ⟨B, 0, none⟩)) n := by
 rcases h with ⟨h, _⟩ | ⟨B', r, h1, h2, h3⟩
 ·cases h
 ·cases h1
  exact .inr ⟨B, r, rfl, U.cellOf h2 hF, U.cellOf h3 hF⟩
theorem XSl.upd {F : Nat → Prop} {w w' : World} {B n : Nat} (h : XSl w (.pointer (some ⟨B, 0, none⟩)) n) (U : Upd F w w') (hF : ¬ F B) : XSl w' (.pointer (some ⟨B, 0, none⟩)) n := by
 rcases h with ⟨h, _⟩ | ⟨B', a, c, h1, h2⟩
 ·cases h
 ·cases h1
  exact .inr ⟨B, a, c, rfl, U.cellOf h2 hF⟩
structure DnSt (w : World) (PP D B X n : Nat) (ops : Int) : Prop where
 c7 : w.cell? ⟨PP, 7, none⟩ = some (.pointer (some ⟨D, 0, none⟩))
 c8 : w.cell? ⟨PP, 8, none⟩ = some (.pointer (some ⟨B, 0, none⟩))
 c9 : w.cell? ⟨PP, 9, none⟩ = some (.pointer (some ⟨X, 0, none⟩))
 st : DSt w D n ops true
 t : TSl w (.pointer (some ⟨B, 0, none⟩)) n
 x : XSl w (.pointer (some ⟨X, 0, none⟩)) n
theorem DnSt.old {w w' : World} {PP D B X n : Nat} {ops : Int} (h : DnSt w PP D B X n ops) (U : Old w w') : DnSt w' PP D B X n ops :=
 ⟨Old.cellOf' U h.c7, Old.cellOf' U h.c8, Old.cellOf' U h.c9, h.st.old U, h.t.old U, h.x.old U⟩
theorem rf_arm {w : World} {col : Col} {PP D B X n kb x : Nat} {ops : Int} (h : RfSt w col PP D B X n ops) (hx : x ≤ 8192) (c : w.cell? ⟨kb, 0, none⟩ = some (.int .i64 ((x : Nat) : Int))) (hk : (col kb).1 ≠ 1) :
 Calls Tryz.prog 15 #[.pointer (some ⟨D, 0, none⟩), .agg #[.int .i64 0, .bool false, .slice (some ⟨kb, 0, none⟩) 1 1]] w fun e w' => e = .returned (.int .i64 0) ∧ Upd (fun b => (col b).1 = 1) w w' ∧ DnSt w' PP D B X n ops := by
 obtain ⟨s, K, S, cap, T, M, V, hd, rfl, rfl, e⟩ := h.dev
 refine (d_arm hd e hx c hk).mono ?_
 rintro en w' ⟨rfl, hU, hdn⟩
 exact ⟨rfl, hU, hU.cellOf h.c7 h.rP, hU.cellOf h.c8 h.rP, hU.cellOf h.c9 h.rP, hdn, h.t.upd hU h.rB, h.x.upd hU h.rX⟩
set_option maxHeartbeats 2000000 in
theorem reclaimRefuses_walk {w : World} {n0 n1 n2 n3 n4 n5 n6 ll lc far : Nat} {al : Option Addr} (hf : far < 65536) (h0 : n0 < 256) (h1 : n1 < 256) (h2 : n2 < 256) (h3 : n3 < 256) (h4 : n4 < 256) (h5 : n5 < 256) (h6 : n6 < 256) (hdb : DbAt w) (hse : SealAt w) (hll : ll ≤ lc) (hlc : lc ≤ 9223372036854775807) (hal : ll = 0 ∨ al.isSome = true) (hL : ∀ j, j < ll → j < 60 → ∃ lb lo, al = some ⟨lb, lo, none⟩ ∧ MoveAt w lb lo j)
 (hW : ∀ w' : World, Old w w' → Calls Tryz.prog 13 #[] w' fun e w'' => e = .returned (.bool true) ∧ Kpt w' w'') :
 Calls Tryz.prog 4 #[.agg #[.int .u8 ((n0 : Nat) : Int), .int .u8 ((n1 : Nat) : Int), .int .u8 ((n2 : Nat) : Int), .int .u8 ((n3 : Nat) : Int), .int .u8 ((n4 : Nat) : Int), .int .u8 ((n5 : Nat) : Int), .int .u8 ((n6 : Nat) : Int), .slice al ll lc], .int .u16 ((far : Nat) : Int)] w fun e w' => e = .returned (.bool true) ∧ Kpt w w' := by
 have HMD : Hid (∀ W : World, Old w W → Calls Tryz.prog 7 #[.agg #[.int .u8 ((n0 : Nat) : Int), .int .u8 ((n1 : Nat) : Int), .int .u8 ((n2 : Nat) : Int), .int .u8 ((n3 : Nat) : Int), .int .u8 ((n4 : Nat) : Int), .int .u8 ((n5 : Nat) : Int), .int .u8 ((n6 : Nat) : Int), .slice al ll lc]] W fun e w1 => ∃ PP D B X n ops col, e = .returned (.tuple #[.pointer (some ⟨PP, 0, none⟩), .bool true]) ∧ RfSt w1 col PP D B X n ops ∧ (∀ b, b < w.heap.size → col b = (0, 0)) ∧ (∀ b, w1.heap.size ≤ b → col b = (0, 0)) ∧ Old w w1) := fun W U => by
  refine (made h0 h1 h2 h3 h4 h5 h6 (hdb.upd U (fun x => x)) (hse.upd U (fun x => x)) hll hlc hal (fun j a b => by obtain ⟨lb, lo, ha, kd, ky, sz, q1, q2, q3, m0, m1, m2⟩ := hL j a b; exact ⟨lb, lo, ha, kd, ky, sz, q1, q2, q3, Old.cellOf' U m0, Old.cellOf' U m1, Old.cellOf' U m2⟩)).mono ?_
  rintro e w1 ⟨PP, D, B, X, it, rfl, _, hm⟩
  obtain ⟨col, ops, r1, r2, r3, r4⟩ := rf_of hm
  have s := U.size
  exact ⟨PP, D, B, X, _, ops, col, rfl, r1, fun b hb => r2 b (by omega), r3, U.trans r4⟩
 have HWK := Lib.hid hW
 have g1 : IntKind.i64.wrap (far : Int) = ((far : Nat) : Int) := IntWalk.i64_in _ (by omega)
 clear hdb hse hL hW
 go_enter Tryz.func4, Tryz.ntmps4
 go_wp2_with (first | (go_at_call 7; refine (HMD.out _ ?_).mono ?_; (first | with_reducible exact (Upd.refl _ w) | exact ((Upd.refl _ w).alloc _) | exact (((Upd.refl _ w).alloc _).alloc _)); rintro e w1 ⟨PP, D, B, X, n, ops, col, rfl, hr1, hc1, hc2, hU1⟩; have HR1 := Lib.hid hr1; have HC1 := Lib.hid hc1; have HC2 := Lib.hid hc2; have HU1 := Lib.hid hU1; clear hr1 hc1 hc2 hU1; refine Hid.out ?_))
 have hn1 := HR1.out.n1
 have hn9 := HR1.out.n9
 have c0 := HR1.out.c0
 have c7 := HR1.out.c7
 have HOP := Lib.hid (d_ops2 HR1.out.st (by omega))
 refine Lib.hid ?_
 go_wp2_with (first | (go_at_call 14; refine HOP.out.mono ?_; rintro e w2 ⟨rfl, rfl⟩))
 obtain ⟨W2, hW2⟩ : ∃ W2, w1.alloc (.cells #[.int .i64 (-1 - (far : Int)), .int .i64 ((n : Int) + (far : Int))] 3) = W2 := ⟨_, rfl⟩
 have hO2 : Old w1 W2 := by rw [← hW2]; exact (Upd.refl _ _).alloc _
 have hY : Hid (∀ k : Nat, k < 2 → ∃ sl : Int, W2.cell? ⟨w1.heap.size, k, none⟩ = some (.int .i64 sl) ∧ (sl < 0 ∨ (n : Int) ≤ sl)) := fun k hk => by
  have hb : Has W2 w1.heap.size 3 #[.int .i64 (-1 - (far : Int)), .int .i64 ((n : Int) + (far : Int))] := by rw [← hW2]; exact Has.new w1 _ _
  rcases k with _ | _ | k
  ·exact ⟨_, hb.cell 0, .inl (by omega)⟩
  ·exact ⟨_, hb.cell 1, .inr (by omega)⟩
  ·omega
 rw [hW2]
 have hz2 : W2.heap.size = w1.heap.size + 1 := by rw [← hW2]; simp
 clear hW2 c0 c7 HOP
 have HR2 := Lib.hid (HR1.out.old hO2)
 have hn0 : 0 < n := by omega
 have hn100 : n ≤ 100 := by omega
 have HSF : Hid (∀ (W : World), Old W2 W → ∀ sl : Int, (sl < 0 ∨ (n : Int) ≤ sl) → Calls Tryz.prog 10 #[.pointer (some ⟨D, 0, none⟩), .pointer (some ⟨B, 0, none⟩), .pointer (some ⟨X, 0, none⟩), .int .i64 sl] W fun e w' => e = .returned (.tuple #[.bool false, .int .i64 3]) ∧ Old W w') := fun W U sl ho =>
  r_safe2 (HR2.out.old U).st (HR2.out.old U).t (HR2.out.old U).x hn0 hn100 ho
 have HER : Hid (∀ (W : World), Old W2 W → ∀ sl : Int, (sl < 0 ∨ (n : Int) ≤ sl) → Calls Tryz.prog 12 #[.pointer (some ⟨D, 0, none⟩), .pointer (some ⟨B, 0, none⟩), .pointer (some ⟨X, 0, none⟩), .int .i64 sl] W fun e w' => e = .returned (.int .i64 3) ∧ Old W w') := fun W U sl ho =>
  r_erase2 (HR2.out.old U).st (HR2.out.old U).t (HR2.out.old U).x hn0 hn100 ho
 have P3 : Hid (∀ W : World, Old W2 W → W.cell? ⟨PP, 7, none⟩ = some (.pointer (some ⟨D, 0, none⟩)) ∧ W.cell? ⟨PP, 8, none⟩ = some (.pointer (some ⟨B, 0, none⟩)) ∧ W.cell? ⟨PP, 9, none⟩ = some (.pointer (some ⟨X, 0, none⟩))) := fun W U => ⟨(HR2.out.old U).c7, (HR2.out.old U).c8, (HR2.out.old U).c9⟩
 go_loopw [40] (fun i wr => ∃ k : Nat, k ≤ 2 ∧ i = .int .i64 k ∧ Old W2 wr) (fun i _ => 2 - (intOf i).toNat)
 case atStart => exact ⟨0, by omega, rfl, Upd.refl _ _⟩
 case round =>
  obtain ⟨k, hk, rfl, hU⟩ := hrel
  by_cases hk2 : k < 2
  ·obtain ⟨sl, hsl, ho⟩ := hY.out k hk2
   have y := Old.cellOf' hU hsl
   obtain ⟨e7, e8, e9⟩ := P3.out _ hU
   have g2 : ((k : Nat) : Int) < 2 := by omega
   have HU := Lib.hid hU
   have HO := Lib.hid ho
   clear hsl hU ho
   go_wp2
   go_region_held3 (fun x => x.cell? ⟨PP, 7, none⟩ = some (.pointer (some ⟨D, 0, none⟩)) ∧ x.cell? ⟨PP, 8, none⟩ = some (.pointer (some ⟨B, 0, none⟩)) ∧ x.cell? ⟨PP, 9, none⟩ = some (.pointer (some ⟨X, 0, none⟩)))
    (first | go_keep | (exact QQ))
    (first | (go_at_call 10; refine (HSF.out _ ?_ sl HO.out).mono ?_; (exact HU.out.drew); rintro e w3 ⟨rfl, hU3⟩; have hO3 := HU.out.drew.trans hU3; have QQ := P3.out _ hO3; clear hU3))
   have HU3 := Lib.hid hO3
   clear hO3 HU
   go_wp2
   go_region_held3 (fun x => x.cell? ⟨PP, 7, none⟩ = some (.pointer (some ⟨D, 0, none⟩)) ∧ x.cell? ⟨PP, 8, none⟩ = some (.pointer (some ⟨B, 0, none⟩)) ∧ x.cell? ⟨PP, 9, none⟩ = some (.pointer (some ⟨X, 0, none⟩)))
    (first | go_keep | (exact QQ2) | (exact QQ))
    (first | (go_at_call 12; refine (HER.out _ ?_ sl HO.out).mono ?_; (exact HU3.out.drew); rintro e w4 ⟨rfl, hU4⟩; have hO4 := HU3.out.drew.trans hU4; have QQ2 := P3.out _ hO4; clear hU4))
   go_wp2
   go_roundw
   case rel => exact ⟨k + 1, by omega, by simp, hO4⟩
   case measure => simp [intOf]; omega
  ·obtain rfl : k = 2 := by omega
   have HU := Lib.hid hU
   have hst := (HR2.out.old hU).st
   obtain ⟨e7, e8, e9⟩ := P3.out _ hU
   have HOP := Lib.hid (fun (W : World) (U : Old wr W) => d_ops2 (hst.old U) hn0)
   have HARM : Hid (Calls Tryz.prog 15 #[.pointer (some ⟨D, 0, none⟩), .agg #[.int .i64 0, .bool false, .slice (some ⟨wr.heap.size, 0, none⟩) 1 1]] (wr.alloc (.cells #[.int .i64 ((far : Int) % 100)] 3)) fun e w' => e = .returned (.int .i64 0) ∧ Old w w' ∧ DnSt w' PP D B X n ops) := by
    have s1 := hO2.size
    have s2 := hU.size
    have s0 := HU1.out.size
    have O5 : Old wr (wr.alloc (.cells #[.int .i64 ((far : Int) % 100)] 3)) := (Upd.refl _ wr).alloc _
    refine (rf_arm (x := far % 100) ((HR2.out.old hU).old O5) (by omega) ?_ ?_).mono ?_
    ·rw [(Has.new wr 3 #[.int .i64 ((far : Int) % 100)]).cell 0]; simp
    ·rw [HC2.out _ (by omega)]; simp
    ·rintro e w' ⟨rfl, hU6, hdn⟩
     exact ⟨rfl, (((HU1.out.trans hO2).trans hU).trans O5).after hU6 (fun b hb e => by rw [HC1.out b hb] at e; simp at e), hdn⟩
   clear hU hst
   go_wp2_with (first | (go_at_call 14; refine (HOP.out _ ?_).mono ?_; (first | exact (Upd.refl _ _) | exact (Upd.refl _ _).drew); rintro e w5 ⟨rfl, rfl⟩) | (go_at_call 15; refine HARM.out.mono ?_; rintro e w6 ⟨rfl, hU6, hdn⟩; have HU6 := Lib.hid hU6; have HDN := Lib.hid hdn; have c7 := hdn.c7; have c8 := hdn.c8; have c9 := hdn.c9; clear hU6 hdn HARM HOP e7 e8 e9))
   have HS6 : Hid (∀ W : World, Old w6 W → Calls Tryz.prog 10 #[.pointer (some ⟨D, 0, none⟩), .pointer (some ⟨B, 0, none⟩), .pointer (some ⟨X, 0, none⟩), .int .i64 (-1 - (far : Int))] W fun e w' => e = .returned (.tuple #[.bool false, .int .i64 13]) ∧ Old W w') := fun W U =>
    r_safe2 (HDN.out.old U).st (HDN.out.old U).t (HDN.out.old U).x hn0 hn100 (.inl (by omega))
   have HE6 : Hid (∀ W : World, Old w6 W → Calls Tryz.prog 12 #[.pointer (some ⟨D, 0, none⟩), .pointer (some ⟨B, 0, none⟩), .pointer (some ⟨X, 0, none⟩), .int .i64 (-1 - (far : Int))] W fun e w' => e = .returned (.int .i64 13) ∧ Old w6 w') := fun W U =>
    (r_erase2 (HDN.out.old U).st (HDN.out.old U).t (HDN.out.old U).x hn0 hn100 (.inl (by omega))).mono fun e w' ⟨h1, h2⟩ => ⟨h1, U.trans h2⟩
   have HY6 : Hid (∀ W : World, Old w6 W → Calls Tryz.prog 11 #[.pointer (some ⟨D, 0, none⟩), .pointer (some ⟨B, 0, none⟩)] W fun e w' => e = .returned (.int .i64 13) ∧ Old w6 w') := fun W U =>
    (r_sync2 (HDN.out.old U).st (HDN.out.old U).t hn0 hn100).mono fun e w' ⟨h1, h2⟩ => ⟨h1, U.trans h2⟩
   have HP6 : Hid (∀ W : World, Old w6 W → Calls Tryz.prog 14 #[.pointer (some ⟨D, 0, none⟩)] W fun e w' => e = .returned (.int .i64 ops) ∧ W = w') := fun W U => d_ops2 (HDN.out.old U).st hn0
   have P6 : Hid (∀ W : World, Old w6 W → W.cell? ⟨PP, 7, none⟩ = some (.pointer (some ⟨D, 0, none⟩)) ∧ W.cell? ⟨PP, 8, none⟩ = some (.pointer (some ⟨B, 0, none⟩)) ∧ W.cell? ⟨PP, 9, none⟩ = some (.pointer (some ⟨X, 0, none⟩))) := fun W U => ⟨(HDN.out.old U).c7, (HDN.out.old U).c8, (HDN.out.old U).c9⟩
   have hw1 : IntKind.i64.wrap (-1 - (far : Int)) = -1 - (far : Int) := IntWalk.i64_in _ (by omega)
   clear HSF HER P3
   go_region_held3 (fun x => x.cell? ⟨PP, 7, none⟩ = some (.pointer (some ⟨D, 0, none⟩)) ∧ x.cell? ⟨PP, 8, none⟩ = some (.pointer (some ⟨B, 0, none⟩)) ∧ x.cell? ⟨PP, 9, none⟩ = some (.pointer (some ⟨X, 0, none⟩)))
    (first | go_keep | (exact QQ))
    (first | (go_at_call 10; refine (HS6.out _ ?_).mono ?_; (exact (Upd.refl _ _).drew); rintro e w7 ⟨rfl, hU7⟩; have hO7 := ((Upd.refl _ w6).drew).trans hU7; have QQ := P6.out _ hO7; clear hU7))
   have HOc := Lib.hid hO7
   clear HS6 hO7
   go_wp2
   go_region_held3 (fun x => x.cell? ⟨PP, 7, none⟩ = some (.pointer (some ⟨D, 0, none⟩)) ∧ x.cell? ⟨PP, 8, none⟩ = some (.pointer (some ⟨B, 0, none⟩)) ∧ x.cell? ⟨PP, 9, none⟩ = some (.pointer (some ⟨X, 0, none⟩)))
    (first | (with_reducible exact QW) | (with_reducible exact QQ) | go_keep)
    (first | (go_at_call 11; (with_reducible refine (HY6.out _ ?_).mono ?_); (first | with_reducible exact HOc.out | exact HOc.out.drew); rintro eA wA ⟨rfl, hU⟩; clear HY6; clear HOc; have HOc := Lib.hid hU; clear QQ; have QQ := P6.out _ hU; clear hU) | (go_at_call 12; (with_reducible refine (HE6.out _ ?_).mono ?_); (first | with_reducible exact HOc.out | exact HOc.out.drew); rintro eB wB ⟨rfl, hU⟩; clear HE6; clear HOc; have HOc := Lib.hid hU; clear QQ; have QQ := P6.out _ hU; clear hU) | (go_at_call 14; (with_reducible refine (HP6.out _ ?_).mono ?_); (first | with_reducible exact HOc.out | exact HOc.out.drew); rintro eC wC ⟨rfl, rfl⟩; clear HP6) | (go_at_call 13; refine (HWK.out _ ?_).mono ?_; (exact HU6.out.trans HOc.out); rintro eW wW ⟨rfl, hU⟩; have QW := And.intro (Kpt.cell hU QQ.1) (And.intro (Kpt.cell hU QQ.2.1) (Kpt.cell hU QQ.2.2)); have HOw := Lib.hid hU; clear hU))
   all_goals
    go_wp2
    go_ret
    exact ⟨rfl, (HU6.out.trans HOc.out).kpt HOw.out⟩
end Go.M
