/- Walks 25. -/
import Derived.Test.YtnmkiflnonafbaaGreatDoorProg
import Derived.Test.YtnmkiflnonafbaaGreatDoorK2
import Derived.Test.YtnmkiflnonafbaaGreatDoorK1
import Derived.Laws.StructEq
import Derived.Deep.QuietTactic
import Derived.BigQuiet
set_option linter.unusedVariables false
set_option linter.unusedSimpArgs false
set_option maxRecDepth 100000
namespace Go.M
open Go.Proofs Go.RowKit
theorem ZiA {w : World} {Mi : Nat} {len sz dur : Nat} {va : Option Addr} {vc : Nat} (m0 : w.cell? ⟨Mi, 0, none⟩ = some (.slice va len vc)) (m1 : w.cell? ⟨Mi, 1, none⟩ = some (.int .i64 ((sz : Nat) : Int)))
 (fM : ∀ j, w.frozen? ⟨Mi, j, none⟩ = false) (m2 : w.cell? ⟨Mi, 2, none⟩ = some (.int .i64 ((dur : Nat) : Int))) (p2 : 0 < sz) :
 Calls Tryz.prog 156 #[.pointer (some ⟨Mi, 0, none⟩)] w fun e w' => e = .returned (.tuple #[]) ∧ (w.setCell ⟨Mi, 0, none⟩ (.slice none 0 0)).setCell ⟨Mi, 2, none⟩ (.int .i64 0) = w' := by
 have f0 := fM 0;have f2 := fM 2
 go_enter Tryz.func156, Tryz.ntmps156
 go_wp2
 go_end0
 exact ⟨rfl, rfl⟩
theorem ZqL {w : World} {A B D K S Mi : Nat} {n i len cap sz dur : Nat} {va : Option Addr} {vc : Nat}
 (ca : w.cell? ⟨A, 0, none⟩ = some (.pointer (some ⟨D, 0, none⟩))) (cb : w.cell? ⟨B, 0, none⟩ = some (.int .i64 ((i : Nat) : Int)))
 (d0 : w.cell? ⟨D, 0, none⟩ = some (.pointer (some ⟨K, 0, none⟩))) (k0 : w.cell? ⟨K, 0, none⟩ = some (.slice (some ⟨S, 0, none⟩) (n + 2) cap))
 (s0 : w.cell? ⟨S, i, none⟩ = some (.pointer (some ⟨Mi, 0, none⟩))) (m0 : w.cell? ⟨Mi, 0, none⟩ = some (.slice va len vc)) (m1 : w.cell? ⟨Mi, 1, none⟩ = some (.int .i64 ((sz : Nat) : Int)))
 (fM : ∀ j, w.frozen? ⟨Mi, j, none⟩ = false) (m2 : w.cell? ⟨Mi, 2, none⟩ = some (.int .i64 ((dur : Nat) : Int))) (p1 : (0 : Int) < (n : Int) + 2) (p2 : 0 < sz) (p3 : n ≤ 32) (p4 : i < n + 2) (b0 : (decide ((i : Int) < 0) || decide ((n : Int) + 2 ≤ (i : Int))) = false) :
 Calls Tryz.prog 95 #[.pointer (some ⟨A, 0, none⟩), .pointer (some ⟨B, 0, none⟩)] w fun e w' => e = .returned (.tuple #[]) ∧ ((w.setCell ⟨Mi, 0, none⟩ (.slice none 0 0)).setCell ⟨Mi, 2, none⟩ (.int .i64 0)).drew = w' := by
 go_enter Tryz.func95, Tryz.ntmps95
 go_wp2
 go_still_tail 6, (by kernel_rfl)
 change wpList _ _ _ _ _ w.drew;have hK := block_lt_of_cell k0;have hS := block_lt_of_cell s0;have hM := block_lt_of_cell m0;simp only at hK hS hM
 go_wp2_with (first | (go_at_call 156; refine (ZiA (by exact m0) (by exact m1) (by exact fM) (by exact m2) p2).mono ?_; rintro e w1 ⟨rfl, rfl⟩) | go_in)
 go_end0
 exact ⟨rfl, rfl⟩
theorem ZiB {w : World} {D K S T Mi : Nat} {n i len sz dur cap : Nat} {ops : Int} {va : Option Addr} {vc : Nat} (h : DevCells w D K S T Mi n i len sz dur cap ops false va vc) (o0 : 0 ≤ ops) (o1 : ops ≤ 1000000000) :
 Calls Tryz.prog 46 #[.pointer (some ⟨D, 0, none⟩), .int .i64 ((i : Nat) : Int)] w fun e w' => e = .returned (.int .i64 0) ∧ Old (((w.setCell ⟨D, 3, none⟩ (.int .i64 (ops + 1))).setCell ⟨Mi, 0, none⟩ (.slice none 0 0)).setCell ⟨Mi, 2, none⟩ (.int .i64 0)) w' := by
 obtain ⟨d0, d1, d2, d3, d4, k0, t0, t1, s0, m0, m1, m2, fD, fM, hD, hK, hS, hT, hM, b0, p0, p1, p2, p3, p4, p5, p6, p7, DK, DS, DT, DM, KM, SM, TM⟩ := h
 go_enter Tryz.func46, Tryz.ntmps46
 have kD : ∀ k, D < w.heap.size + k := fun k => by omega
 have kK : ∀ k, K < w.heap.size + k := fun k => by omega
 have kS : ∀ k, S < w.heap.size + k := fun k => by omega
 have kT : ∀ k, T < w.heap.size + k := fun k => by omega
 have kM : ∀ k, Mi < w.heap.size + k := fun k => by omega
 go_wp2_with (first | (go_at_call 95; refine (ZqL (D := D) (K := K) (S := S) (Mi := Mi) (n := n) (i := i) (len := len) (cap := cap) (sz := sz) (dur := dur) (va := va) (vc := vc) (by go_simp) (by go_simp) (by go_simp) (by go_simp) (by go_simp) (by go_simp) (by go_simp) (fun j => by have := fM j; go_simp) (by go_simp) p1 p2 p3 p4 b0).mono ?_; rintro e w1 ⟨rfl, rfl⟩) | (go_at_call 138; refine (Ze1 (by go_simp)).mono ?_; rintro e w1 ⟨rfl, rfl⟩) | go_in)
 go_ret;exact ⟨rfl, (((((Upd.refl _ _).alloc _).alloc _).alloc _).alloc _).drew⟩
theorem Zma {w : World} {col : Col} {q D : Nat} {s : DevS} {K S cap T : Nat} {M : Nat → Nat} {V : Nat → Value} (h : DevAt w col q D s K S cap T M V) (hup : s.down = false) (i : Nat) (hi : i < s.n + 2) (ho : s.ops < 1000000000) :
 Calls Tryz.prog 46 #[.pointer (some ⟨D, 0, none⟩), .int .i64 ((i : Nat) : Int)] w fun e w' => e = .returned (.int .i64 0) ∧
  DevAt w' col q D (s.put i { s.img i with bs := [], dur := 0 }) K S cap T M (fun k => if k = i then .slice none 0 0 else V k) ∧ Upd (fun b => b = D ∨ b = M i) w w' := by
 obtain ⟨va, vc, hv, c⟩ := h.cells i hi;rw [hup] at c;refine (ZiB c h.ops0 h.ops1).mono ?_;rintro e w' ⟨rfl, hO⟩;have U : Upd (fun b => b = D ∨ b = M i) w w' := ((((Upd.refl _ _).setCell ⟨D, 3, none⟩ (.int .i64 (s.ops + 1)) (.inl (.inl rfl))).setCell ⟨M i, 0, none⟩ (.slice none 0 0) (.inl (.inr rfl))).setCell ⟨M i, 2, none⟩ (.int .i64 0) (.inl (.inr rfl))).trans (hO.mono (fun _ _ h => h.elim))
 refine ⟨rfl, ?_, U⟩;obtain ⟨td, d⟩ := h.fd;obtain ⟨⟨tm, m⟩, own, f1, f2, p1, p2⟩ := h.fm i hi;refine h.upd (m := { s.img i with bs := [], dur := 0 }) (v := .slice none 0 0) (ops := s.ops + 1) hi U (fun b hb => hb.imp_right .inl) ⟨td, hO.has ?_⟩ ⟨⟨tm, hO.has ?_⟩, World.ownsRow_nil _ _ _ _, Nat.zero_le _, Nat.le_refl _, p1, p2⟩ (Kept.refl _ _) (fun b hb => by cases hb) (by have := h.ops0; omega) (by omega)
 ·have := ((d.set 3 (.int .i64 (s.ops + 1))).setOther (a := ⟨M i, 0, none⟩) (Ne.symm c.DM) (.slice none 0 0)).setOther (a := ⟨M i, 2, none⟩) (Ne.symm c.DM) (.int .i64 0);simpa using this
 ·have := ((m.setOther (a := ⟨D, 3, none⟩) c.DM (.int .i64 (s.ops + 1))).set 0 (.slice none 0 0)).set 2 (.int .i64 0);simpa using this
set_option linter.unusedSimpArgs false
structure ErB (H SB D B X : Nat) (W : World) : Prop where
 b0 : W.cell? ⟨H, 0, none⟩ = some (.pointer (some ⟨D, 0, none⟩))
 b1 : W.cell? ⟨H + 1, 0, none⟩ = some (.pointer (some ⟨B, 0, none⟩))
 b2 : W.cell? ⟨H + 1 + 1, 0, none⟩ = some (.pointer (some ⟨X, 0, none⟩))
 s0 : W.cell? ⟨SB, 0, none⟩ = some (.func (.func 45) #[] #[.pointer (some ⟨H, 0, none⟩), .pointer (some ⟨H + 1, 0, none⟩)])
 s1 : W.cell? ⟨SB, 1, none⟩ = some (.func (.func 46) #[.pointer (some ⟨D, 0, none⟩)] #[])
 s2 : W.cell? ⟨SB, 2, none⟩ = some (.func (.func 47) #[] #[.pointer (some ⟨H + 1 + 1, 0, none⟩)])
 s3 : W.cell? ⟨SB, 3, none⟩ = some (.func (.func 49) #[.pointer (some ⟨B, 0, none⟩)] #[])
theorem ErB.upd {H SB D B X : Nat} {W W' : World} {F : Nat → Prop} (h : ErB H SB D B X W) (U : Upd F W W') (hF : ∀ b, F b → b < H) (hS : H ≤ SB) : ErB H SB D B X W' := by
 have n : ∀ b, H ≤ b → ¬ F b := fun b hb h => by have := hF b h; omega
 exact ⟨U.cellOf h.b0 (n _ (Nat.le_refl _)), U.cellOf h.b1 (n _ (by omega)), U.cellOf h.b2 (n _ (by omega)), U.cellOf h.s0 (n _ hS), U.cellOf h.s1 (n _ hS), U.cellOf h.s2 (n _ hS), U.cellOf h.s3 (n _ hS)⟩
theorem Zkv {w : World} {D B X i : Nat} {F : Nat → Prop} {P0 P1 P2 P3 P4 : World → Prop} (hF : ∀ b, F b → b < w.heap.size) (old : ∀ W W', P0 W → Old W W' → P0 W') (old2 : ∀ W W', P2 W → Old W W' → P2 W') (h0 : P0 w)
 (hst : ∀ W, P0 W → Calls Tryz.prog 33 #[.pointer (some ⟨D, 0, none⟩), .pointer (some ⟨B, 0, none⟩), .pointer (some ⟨X, 0, none⟩), .int .i64 ((i : Nat) : Int)] W fun e w' => e = .returned (.tuple #[.int .i64 2, .int .i64 0]) ∧ Old W w')
 (hre : ∀ W, P0 W → Calls Tryz.prog 11 #[.pointer (some ⟨X, 0, none⟩), .int .i64 ((i : Nat) : Int)] W fun e w' => e = .returned (.tuple #[.bool true, .int .i64 0]) ∧ Old W w')
 (h1 : ∀ W, P0 W → Calls Tryz.prog 9 #[.pointer (some ⟨D, 0, none⟩), .pointer (some ⟨B, 0, none⟩)] W fun e w' => e = .returned (.int .i64 0) ∧ Upd F W w' ∧ P1 w')
 (h2 : ∀ W, P1 W → Calls Tryz.prog 46 #[.pointer (some ⟨D, 0, none⟩), .int .i64 ((i : Nat) : Int)] W fun e w' => e = .returned (.int .i64 0) ∧ Upd F W w' ∧ P2 w')
 (h3 : ∀ W, P2 W → Calls Tryz.prog 48 #[.pointer (some ⟨X, 0, none⟩), .int .i64 ((i : Nat) : Int)] W fun e w' => (∃ n : Int, e = .returned (.tuple #[.int .i64 n, .int .i64 0])) ∧ Upd F W w' ∧ P3 w')
 (h4 : ∀ W, P3 W → Calls Tryz.prog 49 #[.pointer (some ⟨B, 0, none⟩), .int .i64 ((i : Nat) : Int)] W fun e w' => e = .returned (.int .i64 0) ∧ Upd F W w' ∧ P4 w') :
 Calls Tryz.prog 15 #[.pointer (some ⟨D, 0, none⟩), .pointer (some ⟨B, 0, none⟩), .pointer (some ⟨X, 0, none⟩), .int .i64 ((i : Nat) : Int)] w fun e w' => e = .returned (.int .i64 0) ∧ P4 w' ∧ Upd F w w' := by
 have HFF := Lib.hid hF;have HO := Lib.hid old;have HO2 := Lib.hid old2;have HS := Lib.hid hst;have HR := Lib.hid hre;have H0 := Lib.hid h0;have C1 := Lib.hid h1;have C2 := Lib.hid h2;have C3 := Lib.hid h3;have C4 := Lib.hid h4;clear old old2 hst hre h0 h1 h2 h3 h4 hF
 go_enter Tryz.func15, Tryz.ntmps15
 go_wp2_with (first | (go_at_call 33; refine (HS.out _ (HO.out _ _ H0.out ?_)).mono ?_; (exact ((((Upd.refl _ w).alloc _).alloc _).alloc _)); rintro e w1 ⟨rfl, hU⟩; have p0 : w1.cell? ⟨w.heap.size, 0, none⟩ = some (.pointer (some ⟨D, 0, none⟩)) := Old.cellOf' hU (by go_simp); have p1 : w1.cell? ⟨w.heap.size + 1, 0, none⟩ = some (.pointer (some ⟨B, 0, none⟩)) := Old.cellOf' hU (by go_simp); have p2 : w1.cell? ⟨w.heap.size + 1 + 1, 0, none⟩ = some (.pointer (some ⟨X, 0, none⟩)) := Old.cellOf' hU (by go_simp); have H1 := Lib.hid (show Old w w1 from Upd.trans ((((Upd.refl _ w).alloc _).alloc _).alloc _) hU); clear hU) | (go_at_call 11; refine (HR.out _ (HO.out _ _ H0.out H1.out)).mono ?_; rintro e w2 ⟨rfl, hU⟩; have q0 := Old.cellOf' hU p0; have q1 := Old.cellOf' hU p1; have q2 := Old.cellOf' hU p2; have H2 := Lib.hid (show Old w w2 from Upd.trans H1.out hU); have l2 := World.block_lt_of_cell? w2 _ q2; clear hU p0 p1 p2))
 have hz : w.heap.size ≤ w2.heap.size := H2.out.size;generalize hWA : World.alloc w2 _ = WA;have HB : Hid (ErB w.heap.size w2.heap.size D B X WA) := by
  have U : Old w2 WA := by rw [← hWA]; exact (Upd.refl _ w2).alloc _
  refine ⟨Old.cellOf' U q0, Old.cellOf' U q1, Old.cellOf' U q2, ?_, ?_, ?_, ?_⟩
  ·subst hWA; exact (Has.new w2 _ _).cell 0
  ·subst hWA; exact (Has.new w2 _ _).cell 1
  ·subst hWA; exact (Has.new w2 _ _).cell 2
  ·subst hWA; exact (Has.new w2 _ _).cell 3
 have HUA : Hid (Old w WA) := H2.out.trans (by rw [← hWA]; exact (Upd.refl _ w2).alloc _)
 clear hWA q0 q1 q2 l2 H1;generalize w2.heap.size = SB at HB hz ⊢;obtain ⟨b0, b1, b2, s0, s1, s2, s3⟩ := HB.out;refine wp_loop_rounds 5 ?_;rw [rounds_succ]
 go_wp2_with (first | (go_at_call 9; refine (C1.out _ (HO.out _ _ H0.out ?_)).mono ?_; (first | exact HUA.out | exact HUA.out.alloc _); rintro e v1 ⟨rfl, hU, hP⟩; have V1 := Lib.hid (And.intro hU hP); clear hU hP; refine Hid.out ?_) | go_in)
 have HB1 := Lib.hid (HB.out.upd V1.out.1 HFF.out hz);have U1 : Hid (Upd F w v1) := (HUA.out.mono (fun _ _ x => x.elim)).trans V1.out.1
 clear b0 b1 b2 s0 s1 s2 s3;obtain ⟨b0, b1, b2, s0, s1, s2, s3⟩ := HB1.out;refine Lib.hid ?_;go_wp2;rw [rounds_succ]
 go_wp2_with (first | (go_at_call 46; refine (C2.out _ V1.out.2).mono ?_; rintro e v2 ⟨rfl, hU, hP⟩; have V2 := Lib.hid (And.intro hU hP); clear hU hP; refine Hid.out ?_) | go_in)
 have HB2 := Lib.hid (HB1.out.upd V2.out.1 HFF.out hz);have U2 : Hid (Upd F w v2) := U1.out.trans V2.out.1;clear b0 b1 b2 s0 s1 s2 s3;obtain ⟨b0, b1, b2, s0, s1, s2, s3⟩ := HB2.out;refine Lib.hid ?_;go_wp2;rw [rounds_succ]
 go_wp2_with (first | (go_at_call 48; refine (C3.out _ (HO2.out _ _ V2.out.2 ?_)).mono ?_; (first | exact Upd.refl _ _ | exact (Upd.refl _ _).alloc _); rintro e v3 ⟨⟨nn, rfl⟩, hU, hP⟩; have V3 := Lib.hid (And.intro hU hP); clear hU hP; refine Hid.out ?_) | go_in)
 have HB3 := Lib.hid (HB2.out.upd V3.out.1 HFF.out hz);have U3 : Hid (Upd F w v3) := U2.out.trans V3.out.1;clear b0 b1 b2 s0 s1 s2 s3;obtain ⟨b0, b1, b2, s0, s1, s2, s3⟩ := HB3.out;refine Lib.hid ?_;go_wp2;rw [rounds_succ]
 go_wp2_with (first | (go_at_call 49; refine (C4.out _ V3.out.2).mono ?_; rintro e v4 ⟨rfl, hU, hP⟩; have V4 := Lib.hid (And.intro hU hP); clear hU hP; refine Hid.out ?_) | go_in)
 have U4 : Hid (Upd F w v4) := U3.out.trans V4.out.1;clear b0 b1 b2 s0 s1 s2 s3;refine Lib.hid ?_;go_wp2;rw [rounds_succ];go_wp2;go_ret;exact ⟨rfl, V4.out.2, U4.out⟩
theorem Zgt {w : World} {D B X i st : Nat} {r : Bool} (hbad : r = false ∨ (st ≠ 2 ∧ st ≠ 3)) (hs5 : st < 5)
 (hst : ∀ W, Old w W → Calls Tryz.prog 33 #[.pointer (some ⟨D, 0, none⟩), .pointer (some ⟨B, 0, none⟩), .pointer (some ⟨X, 0, none⟩), .int .i64 ((i : Nat) : Int)] W fun e w' => e = .returned (.tuple #[.int .i64 ((st : Nat) : Int), .int .i64 0]) ∧ Old W w')
 (hre : ∀ W, Old w W → Calls Tryz.prog 11 #[.pointer (some ⟨X, 0, none⟩), .int .i64 ((i : Nat) : Int)] W fun e w' => e = .returned (.tuple #[.bool r, .int .i64 0]) ∧ Old W w') :
 Calls Tryz.prog 15 #[.pointer (some ⟨D, 0, none⟩), .pointer (some ⟨B, 0, none⟩), .pointer (some ⟨X, 0, none⟩), .int .i64 ((i : Nat) : Int)] w fun e w' => e = .returned (.int .i64 7) ∧ Old w w' := by
 have HS := Lib.hid hst;have HR := Lib.hid hre;clear hst hre
 go_enter Tryz.func15, Tryz.ntmps15
 go_wp2_with (first | (go_at_call 33; refine (HS.out _ ?_).mono ?_; (exact ((((Upd.refl _ w).alloc _).alloc _).alloc _)); rintro e w1 ⟨rfl, hU⟩; have p2 : w1.cell? ⟨w.heap.size + 1 + 1, 0, none⟩ = some (.pointer (some ⟨X, 0, none⟩)) := Old.cellOf' hU (by go_simp); have H1 := Lib.hid (show Old w w1 from Upd.trans ((((Upd.refl _ w).alloc _).alloc _).alloc _) hU); clear hU) | (go_at_call 11; refine (HR.out _ H1.out).mono ?_; rintro e w2 ⟨rfl, hU⟩; have H2 := Lib.hid (show Old w w2 from Upd.trans H1.out hU); clear hU p2; refine Hid.out ?_))
 cases r with
 | false =>
  refine Lib.hid ?_;go_wp2;go_ret;exact ⟨rfl, H2.out⟩
 | true =>
  obtain ⟨n2, n3⟩ := hbad.resolve_left (by decide)
  have e2 : ((st : Int) != 2) = true := by rw [bne_iff_ne]; omega
  have e3 : ((st : Int) != 3) = true := by rw [bne_iff_ne]; omega
  refine Lib.hid ?_;go_wp2
  all_goals
   go_ret;exact ⟨rfl, H2.out⟩
end Go.M
namespace Go.M
open Go.Proofs Go.RowKit
set_option linter.unusedSimpArgs false
def Zmb (n : Nat) (st : Nat → Nat) (rd : Nat → Bool) (w : World) (e : Ending) (w' : World) : Prop :=
 Old w w' ∧ ∃ (s : Nat) (b : Bool), e = .returned (.tuple #[.int .i64 ((s : Nat) : Int), .bool b]) ∧ (b = true → s < n ∧ st s = 2 ∧ rd s = true)
theorem ZiC {w : World} {PP B X n fr : Nat} {st : Nat → Nat} {rd : Nat → Bool} (h0 : 0 < n) (hn : n ≤ 100) (hf : fr < 256) (c0 : w.cell? ⟨PP, 0, none⟩ = some (.int .i64 ((n : Nat) : Int))) (c8 : w.cell? ⟨PP, 8, none⟩ = some (.pointer (some ⟨B, 0, none⟩))) (c9 : w.cell? ⟨PP, 9, none⟩ = some (.pointer (some ⟨X, 0, none⟩)))
 (hst : ∀ W, Old w W → ∀ j, j < n → Calls Tryz.prog 13 #[.pointer (some ⟨B, 0, none⟩), .int .i64 ((j : Nat) : Int)] W fun e w' => e = .returned (.tuple #[.int .i64 ((st j : Nat) : Int), .int .i64 0]) ∧ W = w')
 (hre : ∀ W, Old w W → ∀ j, j < n → Calls Tryz.prog 11 #[.pointer (some ⟨X, 0, none⟩), .int .i64 ((j : Nat) : Int)] W fun e w' => e = .returned (.tuple #[.bool (rd j), .int .i64 0]) ∧ Old W w') :
 Calls Tryz.prog 16 #[.pointer (some ⟨PP, 0, none⟩), .int .u8 ((fr : Nat) : Int)] w (Zmb n st rd w) := by
 have HS := Lib.hid hst;have HR := Lib.hid hre;clear hst hre
 go_enter Tryz.func16, Tryz.ntmps16
 go_wp2
 go_loopw [6, 7, 8, 9, 10, 11] (fun i _ _ _ _ _ wr => ∃ k : Nat, k ≤ n ∧ i = .int .i64 k ∧ Old w wr) (fun i _ _ _ _ _ _ => n - (intOf i).toNat)
 case atStart => exact ⟨0, Nat.zero_le _, rfl, Upd.refl _ _⟩
 case round =>
  obtain ⟨k, hk, rfl, hU⟩ := hrel;have d0 := Old.cellOf' hU c0;have d8 := Old.cellOf' hU c8;have d9 := Old.cellOf' hU c9
  by_cases hkn : k < n
  ·have g0 : (k : Int) < (n : Int) := by omega
   have g1 : IntKind.i64.wrap ((fr : Int) + (k : Int)) = (fr : Int) + (k : Int) := IntWalk.i64_in _ (by omega)
   have g2 : IntKind.i64.wrap (fr : Int) = (fr : Int) := IntWalk.i64_in _ (by omega)
   obtain ⟨s, hs⟩ : ∃ s, (fr + k) % n = s := ⟨_, rfl⟩;have hsn : s < n := by rw [← hs]; exact Nat.mod_lt _ h0
   have g3 : ((fr : Int) + (k : Int)).tmod (n : Int) = ((s : Nat) : Int) := by rw [← hs]; norm_cast
   have g4 : ¬ (n : Int) = 0 := by omega
   have g5 : ((n : Int) == 0) = false := by rw [beq_eq_false_iff_ne]; omega
   have g6 : IntKind.i64.wrap ((s : Nat) : Int) = ((s : Nat) : Int) := IntWalk.i64_in _ (by omega)
   have HU := Lib.hid hU;have HSN := Lib.hid hsn;have HC := Lib.hid (HS.out wr hU s hsn);have HRR := Lib.hid (fun W U => HR.out W U s hsn)
   clear hU hs hsn c0 c8 c9
   go_wp2_with (first | (go_at_call 13; refine HC.out.mono ?_; rintro e w1 ⟨rfl, rfl⟩) | (go_at_call 11; refine (HRR.out _ HU.out).mono ?_; rintro e w2 ⟨rfl, hO⟩; have H2 := Lib.hid (show Old w w2 from Upd.trans HU.out hO); clear hO; refine Hid.out ?_))
   cases hb : rd s with
   | false =>
    refine Lib.hid ?_;go_wp2
    go_roundw
    case rel => exact ⟨k + 1, hkn, by simp, H2.out⟩
    case measure => simp [intOf]; omega
   | true =>
    by_cases hs2 : st s = 2
    ·rw [hs2];refine Lib.hid ?_;go_wp2;go_ret2;exact ⟨H2.out, s, true, rfl, fun _ => ⟨HSN.out, hs2, hb⟩⟩
    ·have e2 : ((st s : Int) == 2) = false := by rw [beq_eq_false_iff_ne]; omega
     have e3 : ¬ (st s : Int) = 2 := by omega
     refine Lib.hid ?_;go_wp2
     go_roundw
     case rel => exact ⟨k + 1, hkn, by simp, H2.out⟩
     case measure => simp [intOf]; omega
  ·obtain rfl : n = k := by omega
   go_wp2;go_ret2;exact ⟨hU, 0, false, rfl, fun h => by cases h⟩
end Go.M
namespace Go.M
open Go.Proofs Go.RowKit
set_option linter.unusedSimpArgs false
def Zcq (l : List (ByteArray × Nat)) : List Value := l.flatMap fun x => [.string x.1, .int .i64 ((x.2 : Nat) : Int)]
theorem ZdT : ∀ (l : List (ByteArray × Nat)) (i : Nat) (x : ByteArray × Nat), l[i]? = some x → (Zcq l)[i * 2]? = some (.string x.1) ∧ (Zcq l)[i * 2 + 1]? = some (.int .i64 ((x.2 : Nat) : Int))
 | [], i, x, h => by simp at h
 | y :: l, 0, x, h => by
  simp at h;subst h;exact ⟨rfl, rfl⟩
 | y :: l, i + 1, x, h => by
  have := ZdT l i x (by simpa using h)
  have e : Zcq (y :: l) = [.string y.1, .int .i64 ((y.2 : Nat) : Int)] ++ Zcq l := rfl;rw [e, List.getElem?_append_right (by simp; omega), List.getElem?_append_right (by simp; omega)]
  simpa [show (i + 1) * 2 - 2 = i * 2 by omega, show (i + 1) * 2 + 1 - 2 = i * 2 + 1 by omega] using this
theorem Zps (k : ByteArray) (q : Int) (w : World) : (binOp .neq 113 (.agg #[.string k, .int .i64 q]) (.agg #[.string k, .int .i64 q])).run Tryz.prog w = .ok (.bool false) w := by
 rw [run_neq_struct, run_equalIn_agg w 9999 113 _ _ (by kernel_rfl) (by kernel_rfl)]
 simp only [Program.fieldsOf, Tryz.underlying113];simp [Op.eqFields, go_sem]
theorem Zmc {w : World} {va vb : Value} {l : List (ByteArray × Nat)} (ha : w.ownsRow 0 113 2 va l.length (Zcq l)) (hb : w.ownsRow 0 113 2 vb l.length (Zcq l)) (hl : l.length ≤ 1000) :
 Calls Tryz.prog 19 #[va, vb] w fun e w' => e = .returned (.bool true) ∧ Old w w' := by
 have gc : ∀ {v : Value}, w.ownsRow 0 113 2 v l.length (Zcq l) → ∃ a c, v = .slice a l.length c ∧ Hid (∀ i x, l[i]? = some x → ∃ g, a = some ⟨g, 0, none⟩ ∧ w.cell? ⟨g, i * 2, none⟩ = some (.string x.1) ∧ w.cell? ⟨g, i * 2 + 1, none⟩ = some (.int .i64 ((x.2 : Nat) : Int))) := fun {v} h => by
  rcases h.2 with ⟨h1, h2⟩ | ⟨g, cap, cur, h1, _⟩
  ·exact ⟨none, 0, by rw [h1, h2], fun i x hi => by have := (List.getElem?_eq_some_iff.1 hi).1; omega⟩
  ·refine ⟨_, _, h1, fun i x hi => ⟨g, rfl, ?_, ?_⟩⟩
   ·have := h.cells (g := g) (by rw [h1]; rfl) _ _ (ZdT l i x hi).1
    rwa [show (⟨g, 0, none⟩ : Addr).add (i * 2) = ⟨g, i * 2, none⟩ from by unfold Addr.add; split <;> simp_all] at this
   ·have := h.cells (g := g) (by rw [h1]; rfl) _ _ (ZdT l i x hi).2
    rwa [show (⟨g, 0, none⟩ : Addr).add (i * 2 + 1) = ⟨g, i * 2 + 1, none⟩ from by unfold Addr.add; split <;> simp_all] at this
 obtain ⟨aa, ac, rfl, HA⟩ := gc ha;obtain ⟨ba, bc, rfl, HB⟩ := gc hb;clear gc ha hb
 go_enter Tryz.func19, Tryz.ntmps19
 go_wp2
 go_loopw [5] (fun i wr => ∃ k : Nat, k ≤ l.length ∧ i = .int .i64 k ∧ Old w wr) (fun i _ => l.length - (intOf i).toNat)
 case atStart => exact ⟨0, Nat.zero_le _, rfl, Upd.refl _ _⟩
 case round =>
  obtain ⟨k, hk, rfl, hU⟩ := hrel
  by_cases hkn : k < l.length
  ·obtain ⟨x, hx⟩ : ∃ x, l[k]? = some x := ⟨l[k], List.getElem?_eq_getElem _⟩;obtain ⟨g1, rfl, a0, a1⟩ := HA.out k x hx;obtain ⟨g2, rfl, b0, b1⟩ := HB.out k x hx;have c0 := Old.cellOf' hU a0;have c1 := Old.cellOf' hU a1;have d0 := Old.cellOf' hU b0;have d1 := Old.cellOf' hU b1;have g0 : (k : Int) < (l.length : Int) := by omega
   have hq := Zps x.1 ((x.2 : Nat) : Int);have HU := Lib.hid hU;clear hU HA HB a0 a1 b0 b1;go_wp2
   go_quiet (fail)
   go_wp2
   go_roundw
   case rel => exact ⟨k + 1, hkn, by simp, HU.out.drewN _⟩
   case measure => simp [intOf]; omega
  ·obtain rfl : k = l.length := by omega
   go_wp2;go_ret;exact ⟨rfl, hU⟩
end Go.M
