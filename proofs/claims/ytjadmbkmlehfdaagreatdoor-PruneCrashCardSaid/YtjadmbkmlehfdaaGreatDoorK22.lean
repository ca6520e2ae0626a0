/- Walks 22. -/
import Derived.Test.YtjadmbkmlehfdaaGreatDoorProg
import Derived.Test.YtjadmbkmlehfdaaGreatDoorK2
import Derived.Test.YtjadmbkmlehfdaaGreatDoorK11
set_option linter.unusedVariables false
set_option linter.unusedSimpArgs false
set_option maxRecDepth 100000
namespace Go.M
open Go.Proofs Go.RowKit
def DSl (w : World) (v : Value) (n : Nat) : Prop := (v = .pointer none ∧ n = 0) ∨ ∃ D, v = .pointer (some ⟨D, 0, none⟩) ∧ w.cell? ⟨D, 2, none⟩ = some (.int .i64 ((n : Nat) : Int)) ∧ w.cell? ⟨D, 4, none⟩ = some (.bool false)
def TSl (w : World) (v : Value) (n : Nat) : Prop := (v = .pointer none ∧ n = 0) ∨ ∃ B r, v = .pointer (some ⟨B, 0, none⟩) ∧ w.cell? ⟨B, 0, none⟩ = some (.int .i64 ((n : Nat) : Int)) ∧ w.cell? ⟨B, 1, none⟩ = some (.int .i64 r)
def XSl (w : World) (v : Value) (n : Nat) : Prop := (v = .pointer none ∧ n = 0) ∨ ∃ X a c, v = .pointer (some ⟨X, 0, none⟩) ∧ w.cell? ⟨X, 1, none⟩ = some (.slice a n c)
theorem DSl.old {w w' : World} {v : Value} {n : Nat} (h : DSl w v n) (U : Old w w') : DSl w' v n := by
 rcases h with h | ⟨D, h1, h2, h3⟩
 ·exact .inl h
 ·exact .inr ⟨D, h1, Old.cellOf' U h2, Old.cellOf' U h3⟩
theorem TSl.old {w w' : World} {v : Value} {n : Nat} (h : TSl w v n) (U : Old w w') : TSl w' v n := by
 rcases h with h | ⟨D, r, h1, h2, h3⟩
 ·exact .inl h
 ·exact .inr ⟨D, r, h1, Old.cellOf' U h2, Old.cellOf' U h3⟩
theorem XSl.old {w w' : World} {v : Value} {n : Nat} (h : XSl w v n) (U : Old w w') : XSl w' v n := by
 rcases h with h | ⟨D, a, c, h1, h2⟩
 ·exact .inl h
 ·exact .inr ⟨D, a, c, h1, Old.cellOf' U h2⟩
theorem d_slots {w : World} {v : Value} {n : Nat} (h : DSl w v n) (hn : n ≤ 100) :
 Calls Tryz.prog 76 #[v] w fun e w' => e = .returned (.int .i64 ((n : Nat) : Int)) ∧ w = w' := by
 rcases h with ⟨rfl, rfl⟩ | ⟨D, rfl, h2, h3⟩
 ·go_enter Tryz.func76, Tryz.ntmps76
  go_wp2
  go_ret
  exact ⟨rfl, rfl⟩
 ·rcases Nat.eq_zero_or_pos n with rfl | hp
  ·go_enter Tryz.func76, Tryz.ntmps76
   go_wp2
   go_ret
   exact ⟨rfl, rfl⟩
  ·have g1 : (0 : Int) < (n : Int) := by omega
   go_enter Tryz.func76, Tryz.ntmps76
   go_wp2
   go_ret
   exact ⟨rfl, rfl⟩
theorem t_sizes {w : World} {v : Value} {n : Nat} (h : TSl w v n) (hn : n ≤ 100) :
 Calls Tryz.prog 156 #[v] w fun e w' => ∃ r, e = .returned (.tuple #[.int .i64 ((n : Nat) : Int), .int .i64 r]) ∧ Old w w' := by
 rcases h with ⟨rfl, rfl⟩ | ⟨D, r, rfl, h2, h3⟩
 ·go_enter Tryz.func156, Tryz.ntmps156
  go_wp2
  go_ret2
  exact ⟨0, rfl, Upd.refl _ _⟩
 ·rcases Nat.eq_zero_or_pos n with rfl | hp
  ·go_enter Tryz.func156, Tryz.ntmps156
   go_wp2
   go_ret2
   exact ⟨0, rfl, Upd.refl _ _⟩
  ·have g1 : (0 : Int) < (n : Int) := by omega
   go_enter Tryz.func156, Tryz.ntmps156
   go_wp2
   go_quiet (fail)
   go_wp2
   go_ret2
   exact ⟨r, rfl, (Upd.refl _ _).drewN _⟩
theorem x_slots {w : World} {v : Value} {n : Nat} (h : XSl w v n) (hn : n ≤ 100) :
 Calls Tryz.prog 77 #[v] w fun e w' => e = .returned (.int .i64 ((n : Nat) : Int)) ∧ w = w' := by
 rcases h with ⟨rfl, rfl⟩ | ⟨D, a, c, rfl, h2⟩
 ·go_enter Tryz.func77, Tryz.ntmps77
  go_wp2
  go_ret
  exact ⟨rfl, rfl⟩
 ·rcases Nat.eq_zero_or_pos n with rfl | hp
  ·go_enter Tryz.func77, Tryz.ntmps77
   go_wp2
   go_ret
   exact ⟨rfl, rfl⟩
  ·have g1 : (0 : Int) < (n : Int) := by omega
   go_enter Tryz.func77, Tryz.ntmps77
   go_wp2
   go_ret
   exact ⟨rfl, rfl⟩
theorem d_down {w : World} {v : Value} {n : Nat} (h : DSl w v n) (hn : n ≤ 100) (hp : 0 < n) :
 Calls Tryz.prog 16 #[v] w fun e w' => e = .returned (.bool false) ∧ Old w w' := by
 rcases h with ⟨rfl, rfl⟩ | ⟨D, rfl, h2, h3⟩
 ·omega
 ·have g1 : (0 : Int) < (n : Int) := by omega
  go_enter Tryz.func16, Tryz.ntmps16
  go_wp2
  go_ret
  exact ⟨rfl, Upd.refl _ _⟩
theorem r_check_ok {w : World} {d t : Value} {dn : Nat} (hd : DSl w d dn) (ht : TSl w t dn) (h1 : dn ≤ 100) (hp : 0 < dn) :
 Calls Tryz.prog 115 #[d, t] w fun e w' => e = .returned (.int .i64 0) ∧ Old w w' := by
 have HD := Lib.hid (fun (w' : World) (U : Old w w') => d_slots (hd.old U) h1)
 have HO := Lib.hid (fun (w' : World) (U : Old w w') => d_down (hd.old U) h1 hp)
 have HT := Lib.hid (t_sizes ht h1)
 have g1 : ((dn : Int) == 0) = false := by rw [beq_eq_false_iff_ne]; omega
 clear hd ht h1 hp
 go_enter Tryz.func115, Tryz.ntmps115
 go_wp2_with (first | (go_at_call 156; refine HT.out.mono ?_; rintro e w1 ⟨r, rfl, hU⟩; have HU := Lib.hid hU; clear hU) | (go_at_call 76; refine (HD.out _ HU.out).mono ?_; rintro e w2 ⟨rfl, rfl⟩) | (go_at_call 16; refine (HO.out _ HU.out).mono ?_; rintro e w3 ⟨rfl, hU3⟩; have HU3 := Lib.hid hU3; clear hU3))
 all_goals
  go_ret
  exact ⟨rfl, HU.out.trans HU3.out⟩
def DSt (w : World) (D n : Nat) (ops : Int) (down : Bool) : Prop := w.cell? ⟨D, 2, none⟩ = some (.int .i64 ((n : Nat) : Int)) ∧ w.cell? ⟨D, 3, none⟩ = some (.int .i64 ops) ∧ w.cell? ⟨D, 4, none⟩ = some (.bool down)
theorem DSt.old {w w' : World} {D n : Nat} {ops : Int} {down : Bool} (h : DSt w D n ops down) (U : Old w w') : DSt w' D n ops down := ⟨Old.cellOf' U h.1, Old.cellOf' U h.2.1, Old.cellOf' U h.2.2⟩
theorem d_ops2 {w : World} {D n : Nat} {ops : Int} {down : Bool} (h : DSt w D n ops down) (hp : 0 < n) :
 Calls Tryz.prog 34 #[.pointer (some ⟨D, 0, none⟩)] w fun e w' => e = .returned (.int .i64 ops) ∧ w = w' := by
 obtain ⟨h2, h3, h4⟩ := h
 have g1 : (0 : Int) < (n : Int) := by omega
 go_enter Tryz.func34, Tryz.ntmps34
 go_wp2
 go_ret
 exact ⟨rfl, rfl⟩
set_option linter.unusedSimpArgs false
structure ErB (H SB D B X : Nat) (W : World) : Prop where
 b0 : W.cell? ⟨H, 0, none⟩ = some (.pointer (some ⟨D, 0, none⟩))
 b1 : W.cell? ⟨H + 1, 0, none⟩ = some (.pointer (some ⟨B, 0, none⟩))
 b2 : W.cell? ⟨H + 1 + 1, 0, none⟩ = some (.pointer (some ⟨X, 0, none⟩))
 s0 : W.cell? ⟨SB, 0, none⟩ = some (.func (.func 58) #[] #[.pointer (some ⟨H, 0, none⟩), .pointer (some ⟨H + 1, 0, none⟩)])
 s1 : W.cell? ⟨SB, 1, none⟩ = some (.func (.func 59) #[.pointer (some ⟨D, 0, none⟩)] #[])
 s2 : W.cell? ⟨SB, 2, none⟩ = some (.func (.func 60) #[] #[.pointer (some ⟨H + 1 + 1, 0, none⟩)])
 s3 : W.cell? ⟨SB, 3, none⟩ = some (.func (.func 61) #[.pointer (some ⟨B, 0, none⟩)] #[])
theorem ErB.upd {H SB D B X : Nat} {W W' : World} {F : Nat → Prop} (h : ErB H SB D B X W) (U : Upd F W W') (hF : ∀ b, F b → b < H) (hS : H ≤ SB) : ErB H SB D B X W' := by
 have n : ∀ b, H ≤ b → ¬ F b := fun b hb h => by have := hF b h; omega
 exact ⟨U.cellOf h.b0 (n _ (Nat.le_refl _)), U.cellOf h.b1 (n _ (by omega)), U.cellOf h.b2 (n _ (by omega)), U.cellOf h.s0 (n _ hS), U.cellOf h.s1 (n _ hS), U.cellOf h.s2 (n _ hS), U.cellOf h.s3 (n _ hS)⟩
theorem r_erase_ok {w : World} {D B X i : Nat} {F : Nat → Prop} {P0 P1 P2 P3 P4 : World → Prop} (hF : ∀ b, F b → b < w.heap.size) (old : ∀ W W', P0 W → Old W W' → P0 W') (old2 : ∀ W W', P2 W → Old W W' → P2 W') (h0 : P0 w)
 (hst : ∀ W, P0 W → Calls Tryz.prog 57 #[.pointer (some ⟨D, 0, none⟩), .pointer (some ⟨B, 0, none⟩), .pointer (some ⟨X, 0, none⟩), .int .i64 ((i : Nat) : Int)] W fun e w' => e = .returned (.tuple #[.int .i64 2, .int .i64 0]) ∧ Old W w')
 (hre : ∀ W, P0 W → Calls Tryz.prog 30 #[.pointer (some ⟨X, 0, none⟩), .int .i64 ((i : Nat) : Int)] W fun e w' => e = .returned (.tuple #[.bool true, .int .i64 0]) ∧ Old W w')
 (h1 : ∀ W, P0 W → Calls Tryz.prog 47 #[.pointer (some ⟨D, 0, none⟩), .pointer (some ⟨B, 0, none⟩)] W fun e w' => e = .returned (.int .i64 0) ∧ Upd F W w' ∧ P1 w')
 (h2 : ∀ W, P1 W → Calls Tryz.prog 59 #[.pointer (some ⟨D, 0, none⟩), .int .i64 ((i : Nat) : Int)] W fun e w' => e = .returned (.int .i64 0) ∧ Upd F W w' ∧ P2 w')
 (h3 : ∀ W, P2 W → Calls Tryz.prog 31 #[.pointer (some ⟨X, 0, none⟩), .int .i64 ((i : Nat) : Int)] W fun e w' => (∃ n : Int, e = .returned (.tuple #[.int .i64 n, .int .i64 0])) ∧ Upd F W w' ∧ P3 w')
 (h4 : ∀ W, P3 W → Calls Tryz.prog 61 #[.pointer (some ⟨B, 0, none⟩), .int .i64 ((i : Nat) : Int)] W fun e w' => e = .returned (.int .i64 0) ∧ Upd F W w' ∧ P4 w') :
 Calls Tryz.prog 14 #[.pointer (some ⟨D, 0, none⟩), .pointer (some ⟨B, 0, none⟩), .pointer (some ⟨X, 0, none⟩), .int .i64 ((i : Nat) : Int)] w fun e w' => e = .returned (.int .i64 0) ∧ P4 w' ∧ Upd F w w' := by
 have HFF := Lib.hid hF
 have HO := Lib.hid old
 have HO2 := Lib.hid old2
 have HS := Lib.hid hst
 have HR := Lib.hid hre
 have H0 := Lib.hid h0
 have C1 := Lib.hid h1
 have C2 := Lib.hid h2
 have C3 := Lib.hid h3
 have C4 := Lib.hid h4
 clear old old2 hst hre h0 h1 h2 h3 h4 hF
 go_enter Tryz.func14, Tryz.ntmps14
 go_wp2_with (first | (go_at_call 57; refine (HS.out _ (HO.out _ _ H0.out ?_)).mono ?_; (exact ((((Upd.refl _ w).alloc _).alloc _).alloc _)); rintro e w1 ⟨rfl, hU⟩; have p0 : w1.cell? ⟨w.heap.size, 0, none⟩ = some (.pointer (some ⟨D, 0, none⟩)) := Old.cellOf' hU (by go_simp); have p1 : w1.cell? ⟨w.heap.size + 1, 0, none⟩ = some (.pointer (some ⟨B, 0, none⟩)) := Old.cellOf' hU (by go_simp); have p2 : w1.cell? ⟨w.heap.size + 1 + 1, 0, none⟩ = some (.pointer (some ⟨X, 0, none⟩)) := Old.cellOf' hU (by go_simp); have H1 := Lib.hid (show Old w w1 from Upd.trans ((((Upd.refl _ w).alloc _).alloc _).alloc _) hU); clear hU) | (go_at_call 30; refine (HR.out _ (HO.out _ _ H0.out H1.out)).mono ?_; rintro e w2 ⟨rfl, hU⟩; have q0 := Old.cellOf' hU p0; have q1 := Old.cellOf' hU p1; have q2 := Old.cellOf' hU p2; have H2 := Lib.hid (show Old w w2 from Upd.trans H1.out hU); have l2 := World.block_lt_of_cell? w2 _ q2; clear hU p0 p1 p2))
 have hz : w.heap.size ≤ w2.heap.size := H2.out.size
 generalize hWA : World.alloc w2 _ = WA
 have HB : Hid (ErB w.heap.size w2.heap.size D B X WA) := by
  have U : Old w2 WA := by rw [← hWA]; exact (Upd.refl _ w2).alloc _
  refine ⟨Old.cellOf' U q0, Old.cellOf' U q1, Old.cellOf' U q2, ?_, ?_, ?_, ?_⟩
  ·subst hWA; exact (Has.new w2 _ _).cell 0
  ·subst hWA; exact (Has.new w2 _ _).cell 1
  ·subst hWA; exact (Has.new w2 _ _).cell 2
  ·subst hWA; exact (Has.new w2 _ _).cell 3
 have HUA : Hid (Old w WA) := H2.out.trans (by rw [← hWA]; exact (Upd.refl _ w2).alloc _)
 clear hWA q0 q1 q2 l2 H1
 generalize w2.heap.size = SB at HB hz ⊢
 obtain ⟨b0, b1, b2, s0, s1, s2, s3⟩ := HB.out
 refine wp_loop_rounds 5 ?_
 rw [rounds_succ]
 go_wp2_with (first | (go_at_call 47; refine (C1.out _ (HO.out _ _ H0.out ?_)).mono ?_; (first | exact HUA.out | exact HUA.out.alloc _); rintro e v1 ⟨rfl, hU, hP⟩; have V1 := Lib.hid (And.intro hU hP); clear hU hP; refine Hid.out ?_) | go_in)
 have HB1 := Lib.hid (HB.out.upd V1.out.1 HFF.out hz)
 have U1 : Hid (Upd F w v1) := (HUA.out.mono (fun _ _ x => x.elim)).trans V1.out.1
 clear b0 b1 b2 s0 s1 s2 s3
 obtain ⟨b0, b1, b2, s0, s1, s2, s3⟩ := HB1.out
 refine Lib.hid ?_
 go_wp2
 rw [rounds_succ]
 go_wp2_with (first | (go_at_call 59; refine (C2.out _ V1.out.2).mono ?_; rintro e v2 ⟨rfl, hU, hP⟩; have V2 := Lib.hid (And.intro hU hP); clear hU hP; refine Hid.out ?_) | go_in)
 have HB2 := Lib.hid (HB1.out.upd V2.out.1 HFF.out hz)
 have U2 : Hid (Upd F w v2) := U1.out.trans V2.out.1
 clear b0 b1 b2 s0 s1 s2 s3
 obtain ⟨b0, b1, b2, s0, s1, s2, s3⟩ := HB2.out
 refine Lib.hid ?_
 go_wp2
 rw [rounds_succ]
 go_wp2_with (first | (go_at_call 31; refine (C3.out _ (HO2.out _ _ V2.out.2 ?_)).mono ?_; (first | exact Upd.refl _ _ | exact (Upd.refl _ _).alloc _); rintro e v3 ⟨⟨nn, rfl⟩, hU, hP⟩; have V3 := Lib.hid (And.intro hU hP); clear hU hP; refine Hid.out ?_) | go_in)
 have HB3 := Lib.hid (HB2.out.upd V3.out.1 HFF.out hz)
 have U3 : Hid (Upd F w v3) := U2.out.trans V3.out.1
 clear b0 b1 b2 s0 s1 s2 s3
 obtain ⟨b0, b1, b2, s0, s1, s2, s3⟩ := HB3.out
 refine Lib.hid ?_
 go_wp2
 rw [rounds_succ]
 go_wp2_with (first | (go_at_call 61; refine (C4.out _ V3.out.2).mono ?_; rintro e v4 ⟨rfl, hU, hP⟩; have V4 := Lib.hid (And.intro hU hP); clear hU hP; refine Hid.out ?_) | go_in)
 have U4 : Hid (Upd F w v4) := U3.out.trans V4.out.1
 clear b0 b1 b2 s0 s1 s2 s3
 refine Lib.hid ?_
 go_wp2
 rw [rounds_succ]
 go_wp2
 go_ret
 exact ⟨rfl, V4.out.2, U4.out⟩
end Go.M
namespace Go.M
open Go.Proofs Go.RowKit
theorem ierase_walk {w : World} {Mi : Nat} {len sz dur : Nat} {va : Option Addr} {vc : Nat} (m0 : w.cell? ⟨Mi, 0, none⟩ = some (.slice va len vc)) (m1 : w.cell? ⟨Mi, 1, none⟩ = some (.int .i64 ((sz : Nat) : Int)))
 (fM : ∀ j, w.frozen? ⟨Mi, j, none⟩ = false) (m2 : w.cell? ⟨Mi, 2, none⟩ = some (.int .i64 ((dur : Nat) : Int))) (p2 : 0 < sz) :
 Calls Tryz.prog 208 #[.pointer (some ⟨Mi, 0, none⟩)] w fun e w' => e = .returned (.tuple #[]) ∧ (w.setCell ⟨Mi, 0, none⟩ (.slice none 0 0)).setCell ⟨Mi, 2, none⟩ (.int .i64 0) = w' := by
 have f0 := fM 0
 have f2 := fM 2
 go_enter Tryz.func208, Tryz.ntmps208
 go_wp2
 go_end0
 exact ⟨rfl, rfl⟩
theorem erase1 {w : World} {A B D K S Mi : Nat} {n i len cap sz dur : Nat} {va : Option Addr} {vc : Nat}
 (ca : w.cell? ⟨A, 0, none⟩ = some (.pointer (some ⟨D, 0, none⟩))) (cb : w.cell? ⟨B, 0, none⟩ = some (.int .i64 ((i : Nat) : Int)))
 (d0 : w.cell? ⟨D, 0, none⟩ = some (.pointer (some ⟨K, 0, none⟩))) (k0 : w.cell? ⟨K, 0, none⟩ = some (.slice (some ⟨S, 0, none⟩) (n + 2) cap))
 (s0 : w.cell? ⟨S, i, none⟩ = some (.pointer (some ⟨Mi, 0, none⟩))) (m0 : w.cell? ⟨Mi, 0, none⟩ = some (.slice va len vc)) (m1 : w.cell? ⟨Mi, 1, none⟩ = some (.int .i64 ((sz : Nat) : Int)))
 (fM : ∀ j, w.frozen? ⟨Mi, j, none⟩ = false) (m2 : w.cell? ⟨Mi, 2, none⟩ = some (.int .i64 ((dur : Nat) : Int))) (p1 : (0 : Int) < (n : Int) + 2) (p2 : 0 < sz) (p3 : n ≤ 32) (p4 : i < n + 2) (b0 : (decide ((i : Int) < 0) || decide ((n : Int) + 2 ≤ (i : Int))) = false) :
 Calls Tryz.prog 123 #[.pointer (some ⟨A, 0, none⟩), .pointer (some ⟨B, 0, none⟩)] w fun e w' => e = .returned (.tuple #[]) ∧ ((w.setCell ⟨Mi, 0, none⟩ (.slice none 0 0)).setCell ⟨Mi, 2, none⟩ (.int .i64 0)).drew = w' := by
 go_enter Tryz.func123, Tryz.ntmps123
 go_wp2
 go_still_tail 6, (by kernel_rfl)
 change wpList _ _ _ _ _ w.drew
 have hK := block_lt_of_cell k0
 have hS := block_lt_of_cell s0
 have hM := block_lt_of_cell m0
 simp only at hK hS hM
 go_wp2_with (first | (go_at_call 208; refine (ierase_walk (by exact m0) (by exact m1) (by exact fM) (by exact m2) p2).mono ?_; rintro e w1 ⟨rfl, rfl⟩) | go_in)
 go_end0
 exact ⟨rfl, rfl⟩
theorem erase_cells {w : World} {D K S T Mi : Nat} {n i len sz dur cap : Nat} {ops : Int} {va : Option Addr} {vc : Nat} (h : DevCells w D K S T Mi n i len sz dur cap ops false va vc) (o0 : 0 ≤ ops) (o1 : ops ≤ 1000000000) :
 Calls Tryz.prog 59 #[.pointer (some ⟨D, 0, none⟩), .int .i64 ((i : Nat) : Int)] w fun e w' => e = .returned (.int .i64 0) ∧ Old (((w.setCell ⟨D, 3, none⟩ (.int .i64 (ops + 1))).setCell ⟨Mi, 0, none⟩ (.slice none 0 0)).setCell ⟨Mi, 2, none⟩ (.int .i64 0)) w' := by
 obtain ⟨d0, d1, d2, d3, d4, k0, t0, t1, s0, m0, m1, m2, fD, fM, hD, hK, hS, hT, hM, b0, p0, p1, p2, p3, p4, p5, p6, p7, DK, DS, DT, DM, KM, SM, TM⟩ := h
 go_enter Tryz.func59, Tryz.ntmps59
 have kD : ∀ k, D < w.heap.size + k := fun k => by omega
 have kK : ∀ k, K < w.heap.size + k := fun k => by omega
 have kS : ∀ k, S < w.heap.size + k := fun k => by omega
 have kT : ∀ k, T < w.heap.size + k := fun k => by omega
 have kM : ∀ k, Mi < w.heap.size + k := fun k => by omega
 go_wp2_with (first | (go_at_call 123; refine (erase1 (D := D) (K := K) (S := S) (Mi := Mi) (n := n) (i := i) (len := len) (cap := cap) (sz := sz) (dur := dur) (va := va) (vc := vc) (by go_simp) (by go_simp) (by go_simp) (by go_simp) (by go_simp) (by go_simp) (by go_simp) (fun j => by have := fM j; go_simp) (by go_simp) p1 p2 p3 p4 b0).mono ?_; rintro e w1 ⟨rfl, rfl⟩) | (go_at_call 194; refine (plan_none (by go_simp)).mono ?_; rintro e w1 ⟨rfl, rfl⟩) | go_in)
 go_ret
 exact ⟨rfl, (((((Upd.refl _ _).alloc _).alloc _).alloc _).alloc _).drew⟩
theorem dev_erase {w : World} {col : Col} {q D : Nat} {s : DevS} {K S cap T : Nat} {M : Nat → Nat} {V : Nat → Value} (h : DevAt w col q D s K S cap T M V) (hup : s.down = false) (i : Nat) (hi : i < s.n + 2) (ho : s.ops < 1000000000) :
 Calls Tryz.prog 59 #[.pointer (some ⟨D, 0, none⟩), .int .i64 ((i : Nat) : Int)] w fun e w' => e = .returned (.int .i64 0) ∧
  DevAt w' col q D (s.put i { s.img i with bs := [], dur := 0 }) K S cap T M (fun k => if k = i then .slice none 0 0 else V k) ∧ Upd (fun b => b = D ∨ b = M i) w w' := by
 obtain ⟨va, vc, hv, c⟩ := h.cells i hi
 rw [hup] at c
 refine (erase_cells c h.ops0 h.ops1).mono ?_
 rintro e w' ⟨rfl, hO⟩
 have U : Upd (fun b => b = D ∨ b = M i) w w' := ((((Upd.refl _ _).setCell ⟨D, 3, none⟩ (.int .i64 (s.ops + 1)) (.inl (.inl rfl))).setCell ⟨M i, 0, none⟩ (.slice none 0 0) (.inl (.inr rfl))).setCell ⟨M i, 2, none⟩ (.int .i64 0) (.inl (.inr rfl))).trans (hO.mono (fun _ _ h => h.elim))
 refine ⟨rfl, ?_, U⟩
 obtain ⟨td, d⟩ := h.fd
 obtain ⟨⟨tm, m⟩, own, f1, f2, p1, p2⟩ := h.fm i hi
 refine h.upd (m := { s.img i with bs := [], dur := 0 }) (v := .slice none 0 0) (ops := s.ops + 1) hi U (fun b hb => hb.imp_right .inl) ⟨td, hO.has ?_⟩ ⟨⟨tm, hO.has ?_⟩, World.ownsRow_nil _ _ _ _, Nat.zero_le _, Nat.le_refl _, p1, p2⟩ (Kept.refl _ _) (fun b hb => by cases hb) (by have := h.ops0; omega) (by omega)
 ·have := ((d.set 3 (.int .i64 (s.ops + 1))).setOther (a := ⟨M i, 0, none⟩) (Ne.symm c.DM) (.slice none 0 0)).setOther (a := ⟨M i, 2, none⟩) (Ne.symm c.DM) (.int .i64 0)
  simpa using this
 ·have := ((m.setOther (a := ⟨D, 3, none⟩) c.DM (.int .i64 (s.ops + 1))).set 0 (.slice none 0 0)).set 2 (.int .i64 0)
  simpa using this
set_option linter.unusedSimpArgs false
end Go.M
namespace Go.M
open Go.Proofs Go.RowKit
set_option linter.unusedSimpArgs false
theorem o_check {w : World} {d t x : Value} {n : Nat} (hd : DSl w d n) (ht : TSl w t n) (hx : XSl w x n) (h1 : n ≤ 100) (hp : 0 < n) :
 Calls Tryz.prog 152 #[d, t, x] w fun e w' => e = .returned (.int .i64 0) ∧ Old w w' := by
 have HD := Lib.hid (fun (w' : World) (U : Old w w') => d_slots (hd.old U) h1)
 have HX := Lib.hid (fun (w' : World) (U : Old w w') => x_slots (hx.old U) h1)
 have HO := Lib.hid (fun (w' : World) (U : Old w w') => d_down (hd.old U) h1 hp)
 have HT := Lib.hid (t_sizes ht h1)
 have g1 : ((n : Int) == 0) = false := by rw [beq_eq_false_iff_ne]; omega
 clear hd ht hx h1 hp
 go_enter Tryz.func152, Tryz.ntmps152
 go_wp2_with (first | (go_at_call 156; refine HT.out.mono ?_; rintro e w1 ⟨r, rfl, hU⟩; have HU := Lib.hid hU; clear hU) | (go_at_call 76; refine (HD.out _ HU.out).mono ?_; rintro e w2 ⟨rfl, rfl⟩) | (go_at_call 77; refine (HX.out _ HU.out).mono ?_; rintro e w2 ⟨rfl, rfl⟩) | (go_at_call 16; refine (HO.out _ HU.out).mono ?_; rintro e w3 ⟨rfl, hU3⟩; have HU3 := Lib.hid hU3; clear hU3))
 all_goals
  go_ret
  exact ⟨rfl, HU.out.trans HU3.out⟩
end Go.M
namespace Go.M
open Go.Proofs Go.RowKit
set_option linter.unusedSimpArgs false
theorem steps5 {w : World} {SB : Nat} {a0 a1 a2 a3 a4 : Array Value} {P : Nat → World → Prop} (hs : ∀ k W, k < 5 → P k W → W.cell? ⟨SB, 0, none⟩ = some (.func (.func 146) #[] a0) ∧ W.cell? ⟨SB, 1, none⟩ = some (.func (.func 148) #[] a1) ∧ W.cell? ⟨SB, 2, none⟩ = some (.func (.func 149) #[] a2) ∧ W.cell? ⟨SB, 3, none⟩ = some (.func (.func 150) #[] a3) ∧ W.cell? ⟨SB, 4, none⟩ = some (.func (.func 151) #[] a4)) (h : P 0 w)
 (h0 : ∀ W, P 0 W → Calls Tryz.prog 146 a0 W fun e w' => e = .returned (.int .i64 0) ∧ P 1 w')
 (h1 : ∀ W, P 1 W → Calls Tryz.prog 148 a1 W fun e w' => e = .returned (.int .i64 0) ∧ P 2 w')
 (h2 : ∀ W, P 2 W → Calls Tryz.prog 149 a2 W fun e w' => e = .returned (.int .i64 0) ∧ P 3 w')
 (h3 : ∀ W, P 3 W → Calls Tryz.prog 150 a3 W fun e w' => e = .returned (.int .i64 0) ∧ P 4 w')
 (h4 : ∀ W, P 4 W → Calls Tryz.prog 151 a4 W fun e w' => e = .returned (.int .i64 0) ∧ P 5 w') :
 Calls Tryz.prog 145 #[.slice (some ⟨SB, 0, none⟩) 5 5] w fun e w' => e = .returned (.int .i64 0) ∧ P 5 w' := by
 have HS := Lib.hid hs
 have H := Lib.hid h
 have C0 := Lib.hid h0
 have C1 := Lib.hid h1
 have C2 := Lib.hid h2
 have C3 := Lib.hid h3
 have C4 := Lib.hid h4
 clear hs h h0 h1 h2 h3 h4
 go_enter Tryz.func145, Tryz.ntmps145
 go_wp2
 refine wp_loop_rounds 6 ?_
 obtain ⟨s0, s1, s2, s3, s4⟩ := HS.out 0 _ (by omega) H.out
 rw [rounds_succ]
 go_wp2_with (first | (go_at_call 146; refine (C0.out _ H.out).mono ?_; rintro e w0 ⟨rfl, hP⟩; have V0 := Lib.hid hP; clear hP; refine Hid.out ?_) | go_in)
 clear s0 s1 s2 s3 s4
 refine Lib.hid ?_
 go_wp2
 obtain ⟨s0, s1, s2, s3, s4⟩ := HS.out 1 _ (by omega) V0.out
 rw [rounds_succ]
 go_wp2_with (first | (go_at_call 148; refine (C1.out _ V0.out).mono ?_; rintro e w1 ⟨rfl, hP⟩; have V1 := Lib.hid hP; clear hP; refine Hid.out ?_) | go_in)
 clear s0 s1 s2 s3 s4
 refine Lib.hid ?_
 go_wp2
 obtain ⟨s0, s1, s2, s3, s4⟩ := HS.out 2 _ (by omega) V1.out
 rw [rounds_succ]
 go_wp2_with (first | (go_at_call 149; refine (C2.out _ V1.out).mono ?_; rintro e w2 ⟨rfl, hP⟩; have V2 := Lib.hid hP; clear hP; refine Hid.out ?_) | go_in)
 clear s0 s1 s2 s3 s4
 refine Lib.hid ?_
 go_wp2
 obtain ⟨s0, s1, s2, s3, s4⟩ := HS.out 3 _ (by omega) V2.out
 rw [rounds_succ]
 go_wp2_with (first | (go_at_call 150; refine (C3.out _ V2.out).mono ?_; rintro e w3 ⟨rfl, hP⟩; have V3 := Lib.hid hP; clear hP; refine Hid.out ?_) | go_in)
 clear s0 s1 s2 s3 s4
 refine Lib.hid ?_
 go_wp2
 obtain ⟨s0, s1, s2, s3, s4⟩ := HS.out 4 _ (by omega) V3.out
 rw [rounds_succ]
 go_wp2_with (first | (go_at_call 151; refine (C4.out _ V3.out).mono ?_; rintro e w4 ⟨rfl, hP⟩; have V4 := Lib.hid hP; clear hP; refine Hid.out ?_) | go_in)
 clear s0 s1 s2 s3 s4
 refine Lib.hid ?_
 go_wp2
 rw [rounds_succ]
 go_wp2
 go_ret
 exact ⟨rfl, V4.out⟩
theorem steps3 {w : World} {SB : Nat} {a0 a1 a2 : Array Value} {P : Nat → World → Prop} (hs : ∀ k W, k < 3 → P k W → W.cell? ⟨SB, 0, none⟩ = some (.func (.func 223) #[] a0) ∧ W.cell? ⟨SB, 1, none⟩ = some (.func (.func 224) #[] a1) ∧ W.cell? ⟨SB, 2, none⟩ = some (.func (.func 225) #[] a2)) (h : P 0 w)
 (h0 : ∀ W, P 0 W → Calls Tryz.prog 223 a0 W fun e w' => e = .returned (.int .i64 0) ∧ P 1 w')
 (h1 : ∀ W, P 1 W → Calls Tryz.prog 224 a1 W fun e w' => e = .returned (.int .i64 0) ∧ P 2 w')
 (h2 : ∀ W, P 2 W → Calls Tryz.prog 225 a2 W fun e w' => e = .returned (.int .i64 0) ∧ P 3 w') :
 Calls Tryz.prog 145 #[.slice (some ⟨SB, 0, none⟩) 3 3] w fun e w' => e = .returned (.int .i64 0) ∧ P 3 w' := by
 have HS := Lib.hid hs
 have H := Lib.hid h
 have C0 := Lib.hid h0
 have C1 := Lib.hid h1
 have C2 := Lib.hid h2
 clear hs h h0 h1 h2
 go_enter Tryz.func145, Tryz.ntmps145
 go_wp2
 refine wp_loop_rounds 4 ?_
 obtain ⟨s0, s1, s2⟩ := HS.out 0 _ (by omega) H.out
 rw [rounds_succ]
 go_wp2_with (first | (go_at_call 223; refine (C0.out _ H.out).mono ?_; rintro e w0 ⟨rfl, hP⟩; have V0 := Lib.hid hP; clear hP; refine Hid.out ?_) | go_in)
 clear s0 s1 s2
 refine Lib.hid ?_
 go_wp2
 obtain ⟨s0, s1, s2⟩ := HS.out 1 _ (by omega) V0.out
 rw [rounds_succ]
 go_wp2_with (first | (go_at_call 224; refine (C1.out _ V0.out).mono ?_; rintro e w1 ⟨rfl, hP⟩; have V1 := Lib.hid hP; clear hP; refine Hid.out ?_) | go_in)
 clear s0 s1 s2
 refine Lib.hid ?_
 go_wp2
 obtain ⟨s0, s1, s2⟩ := HS.out 2 _ (by omega) V1.out
 rw [rounds_succ]
 go_wp2_with (first | (go_at_call 225; refine (C2.out _ V1.out).mono ?_; rintro e w2 ⟨rfl, hP⟩; have V2 := Lib.hid hP; clear hP; refine Hid.out ?_) | go_in)
 clear s0 s1 s2
 refine Lib.hid ?_
 go_wp2
 rw [rounds_succ]
 go_wp2
 go_ret
 exact ⟨rfl, V2.out⟩
end Go.M
namespace Go.M
open Go.Proofs Go.RowKit
set_option linter.unusedSimpArgs false
theorem r_erase_any {w : World} {D B X i : Nat} {F : Nat → Prop} {P0 P1 P2 P3 P4 PX : World → Prop} (hF : ∀ b, F b → b < w.heap.size) (old : ∀ W W', P0 W → Old W W' → P0 W') (old2 : ∀ W W', P2 W → Old W W' → P2 W') (oldX : ∀ W W', PX W → Old W W' → PX W') (h0 : P0 w)
 (hst : ∀ W, P0 W → Calls Tryz.prog 57 #[.pointer (some ⟨D, 0, none⟩), .pointer (some ⟨B, 0, none⟩), .pointer (some ⟨X, 0, none⟩), .int .i64 ((i : Nat) : Int)] W fun e w' => e = .returned (.tuple #[.int .i64 2, .int .i64 0]) ∧ Old W w')
 (hre : ∀ W, P0 W → Calls Tryz.prog 30 #[.pointer (some ⟨X, 0, none⟩), .int .i64 ((i : Nat) : Int)] W fun e w' => e = .returned (.tuple #[.bool true, .int .i64 0]) ∧ Old W w')
 (h1 : ∀ W, P0 W → Calls Tryz.prog 47 #[.pointer (some ⟨D, 0, none⟩), .pointer (some ⟨B, 0, none⟩)] W fun e w' => ∃ r : Int, e = .returned (.int .i64 r) ∧ ((r = 0 ∧ Upd F W w' ∧ P1 w') ∨ (r = 13 ∧ PX w')))
 (h2 : ∀ W, P1 W → Calls Tryz.prog 59 #[.pointer (some ⟨D, 0, none⟩), .int .i64 ((i : Nat) : Int)] W fun e w' => ∃ r : Int, e = .returned (.int .i64 r) ∧ ((r = 0 ∧ Upd F W w' ∧ P2 w') ∨ (r = 13 ∧ PX w')))
 (h3 : ∀ W, P2 W → Calls Tryz.prog 31 #[.pointer (some ⟨X, 0, none⟩), .int .i64 ((i : Nat) : Int)] W fun e w' => (∃ n : Int, e = .returned (.tuple #[.int .i64 n, .int .i64 0])) ∧ Upd F W w' ∧ P3 w')
 (h4 : ∀ W, P3 W → Calls Tryz.prog 61 #[.pointer (some ⟨B, 0, none⟩), .int .i64 ((i : Nat) : Int)] W fun e w' => e = .returned (.int .i64 0) ∧ Upd F W w' ∧ P4 w') :
 Calls Tryz.prog 14 #[.pointer (some ⟨D, 0, none⟩), .pointer (some ⟨B, 0, none⟩), .pointer (some ⟨X, 0, none⟩), .int .i64 ((i : Nat) : Int)] w fun e w' => ∃ r : Int, e = .returned (.int .i64 r) ∧ ((r = 0 ∧ P4 w' ∧ Upd F w w') ∨ (r = 13 ∧ PX w')) := by
 have HFF := Lib.hid hF
 have HO := Lib.hid old
 have HO2 := Lib.hid old2
 have HOX := Lib.hid oldX
 have HS := Lib.hid hst
 have HR := Lib.hid hre
 have H0 := Lib.hid h0
 have C1 := Lib.hid h1
 have C2 := Lib.hid h2
 have C3 := Lib.hid h3
 have C4 := Lib.hid h4
 clear old old2 oldX hst hre h0 h1 h2 h3 h4 hF
 go_enter Tryz.func14, Tryz.ntmps14
 go_wp2_with (first | (go_at_call 57; refine (HS.out _ (HO.out _ _ H0.out ?_)).mono ?_; (exact ((((Upd.refl _ w).alloc _).alloc _).alloc _)); rintro e w1 ⟨rfl, hU⟩; have p0 : w1.cell? ⟨w.heap.size, 0, none⟩ = some (.pointer (some ⟨D, 0, none⟩)) := Old.cellOf' hU (by go_simp); have p1 : w1.cell? ⟨w.heap.size + 1, 0, none⟩ = some (.pointer (some ⟨B, 0, none⟩)) := Old.cellOf' hU (by go_simp); have p2 : w1.cell? ⟨w.heap.size + 1 + 1, 0, none⟩ = some (.pointer (some ⟨X, 0, none⟩)) := Old.cellOf' hU (by go_simp); have H1 := Lib.hid (show Old w w1 from Upd.trans ((((Upd.refl _ w).alloc _).alloc _).alloc _) hU); clear hU) | (go_at_call 30; refine (HR.out _ (HO.out _ _ H0.out H1.out)).mono ?_; rintro e w2 ⟨rfl, hU⟩; have q0 := Old.cellOf' hU p0; have q1 := Old.cellOf' hU p1; have q2 := Old.cellOf' hU p2; have H2 := Lib.hid (show Old w w2 from Upd.trans H1.out hU); have l2 := World.block_lt_of_cell? w2 _ q2; clear hU p0 p1 p2))
 have hz : w.heap.size ≤ w2.heap.size := H2.out.size
 generalize hWA : World.alloc w2 _ = WA
 have HB : Hid (ErB w.heap.size w2.heap.size D B X WA) := by
  have U : Old w2 WA := by rw [← hWA]; exact (Upd.refl _ w2).alloc _
  refine ⟨Old.cellOf' U q0, Old.cellOf' U q1, Old.cellOf' U q2, ?_, ?_, ?_, ?_⟩
  ·subst hWA; exact (Has.new w2 _ _).cell 0
  ·subst hWA; exact (Has.new w2 _ _).cell 1
  ·subst hWA; exact (Has.new w2 _ _).cell 2
  ·subst hWA; exact (Has.new w2 _ _).cell 3
 have HUA : Hid (Old w WA) := H2.out.trans (by rw [← hWA]; exact (Upd.refl _ w2).alloc _)
 clear hWA q0 q1 q2 l2 H1
 generalize w2.heap.size = SB at HB hz ⊢
 obtain ⟨b0, b1, b2, s0, s1, s2, s3⟩ := HB.out
 refine wp_loop_rounds 5 ?_
 rw [rounds_succ]
 go_wp2_with (first | (go_at_call 47; refine (C1.out _ (HO.out _ _ H0.out ?_)).mono ?_; (first | exact HUA.out | exact HUA.out.alloc _); rintro e v1 ⟨r1, rfl, hE⟩; have HE1 := Lib.hid hE; clear hE; refine Hid.out ?_) | go_in)
 rcases HE1.out with ⟨rfl, hU, hP⟩ | ⟨rfl, hX⟩
 case inr =>
  have HX := Lib.hid hX
  clear hX HE1
  refine Lib.hid ?_
  go_wp2
  go_ret
  exact ⟨_, rfl, .inr ⟨rfl, HX.out⟩⟩
 have V1 := Lib.hid (And.intro hU hP)
 clear hU hP HE1
 have HB1 := Lib.hid (HB.out.upd V1.out.1 HFF.out hz)
 have U1 : Hid (Upd F w v1) := (HUA.out.mono (fun _ _ x => x.elim)).trans V1.out.1
 clear b0 b1 b2 s0 s1 s2 s3
 obtain ⟨b0, b1, b2, s0, s1, s2, s3⟩ := HB1.out
 refine Lib.hid ?_
 go_wp2
 rw [rounds_succ]
 go_wp2_with (first | (go_at_call 59; refine (C2.out _ V1.out.2).mono ?_; rintro e v2 ⟨r2, rfl, hE⟩; have HE2 := Lib.hid hE; clear hE; refine Hid.out ?_) | go_in)
 rcases HE2.out with ⟨rfl, hU, hP⟩ | ⟨rfl, hX⟩
 case inr =>
  have HX := Lib.hid hX
  clear hX HE2
  refine Lib.hid ?_
  go_wp2
  go_ret
  exact ⟨_, rfl, .inr ⟨rfl, HX.out⟩⟩
 have V2 := Lib.hid (And.intro hU hP)
 clear hU hP HE2
 have HB2 := Lib.hid (HB1.out.upd V2.out.1 HFF.out hz)
 have U2 : Hid (Upd F w v2) := U1.out.trans V2.out.1
 clear b0 b1 b2 s0 s1 s2 s3
 obtain ⟨b0, b1, b2, s0, s1, s2, s3⟩ := HB2.out
 refine Lib.hid ?_
 go_wp2
 rw [rounds_succ]
 go_wp2_with (first | (go_at_call 31; refine (C3.out _ (HO2.out _ _ V2.out.2 ?_)).mono ?_; (first | exact Upd.refl _ _ | exact (Upd.refl _ _).alloc _); rintro e v3 ⟨⟨nn, rfl⟩, hU, hP⟩; have V3 := Lib.hid (And.intro hU hP); clear hU hP; refine Hid.out ?_) | go_in)
 have HB3 := Lib.hid (HB2.out.upd V3.out.1 HFF.out hz)
 have U3 : Hid (Upd F w v3) := U2.out.trans V3.out.1
 clear b0 b1 b2 s0 s1 s2 s3
 obtain ⟨b0, b1, b2, s0, s1, s2, s3⟩ := HB3.out
 refine Lib.hid ?_
 go_wp2
 rw [rounds_succ]
 go_wp2_with (first | (go_at_call 61; refine (C4.out _ V3.out.2).mono ?_; rintro e v4 ⟨rfl, hU, hP⟩; have V4 := Lib.hid (And.intro hU hP); clear hU hP; refine Hid.out ?_) | go_in)
 have U4 : Hid (Upd F w v4) := U3.out.trans V4.out.1
 clear b0 b1 b2 s0 s1 s2 s3
 refine Lib.hid ?_
 go_wp2
 rw [rounds_succ]
 go_wp2
 go_ret
 exact ⟨_, rfl, .inl ⟨rfl, V4.out.2, U4.out⟩⟩
end Go.M
