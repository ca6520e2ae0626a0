/- Walks 18. -/
import Derived.Test.YtnmkiflnonafbaaGreatDoorProg
import Derived.Test.YtnmkiflnonafbaaGreatDoorK17
import Derived.Test.YtnmkiflnonafbaaGreatDoorK16
import Derived.Test.YtnmkiflnonafbaaGreatDoorK3
import Derived.Test.YtnmkiflnonafbaaGreatDoorK13
set_option linter.unusedVariables false
set_option linter.unusedSimpArgs false
set_option maxRecDepth 100000
namespace Go.M
open Go.Proofs Go.RowKit
def DSt (w : World) (D n : Nat) (ops : Int) (down : Bool) : Prop := w.cell? ⟨D, 2, none⟩ = some (.int .i64 ((n : Nat) : Int)) ∧ w.cell? ⟨D, 3, none⟩ = some (.int .i64 ops) ∧ w.cell? ⟨D, 4, none⟩ = some (.bool down)
theorem DSt.old {w w' : World} {D n : Nat} {ops : Int} {down : Bool} (h : DSt w D n ops down) (U : Old w w') : DSt w' D n ops down := ⟨Old.cellOf' U h.1, Old.cellOf' U h.2.1, Old.cellOf' U h.2.2⟩
theorem d_ops2 {w : World} {D n : Nat} {ops : Int} {down : Bool} (h : DSt w D n ops down) (hp : 0 < n) :
 Calls Tryz.prog 6 #[.pointer (some ⟨D, 0, none⟩)] w fun e w' => e = .returned (.int .i64 ops) ∧ w = w' := by
 obtain ⟨h2, h3, h4⟩ := h
 have g1 : (0 : Int) < (n : Int) := by omega
 go_enter Tryz.func6, Tryz.ntmps6
 go_wp2
 go_ret
 exact ⟨rfl, rfl⟩
structure RfSt (w : World) (col : Col) (PP D B X n : Nat) (ops : Int) : Prop where
 n1 : 4 ≤ n
 n9 : n ≤ 9
 c0 : w.cell? ⟨PP, 0, none⟩ = some (.int .i64 ((n : Nat) : Int))
 c7 : w.cell? ⟨PP, 7, none⟩ = some (.pointer (some ⟨D, 0, none⟩))
 c8 : w.cell? ⟨PP, 8, none⟩ = some (.pointer (some ⟨B, 0, none⟩))
 c9 : w.cell? ⟨PP, 9, none⟩ = some (.pointer (some ⟨X, 0, none⟩))
 dev : ∃ s K S cap T M V, DevAt w col 1 D s K S cap T M V ∧ s.n = n ∧ s.ops = ops ∧ s.down = false
 t : TSl w (.pointer (some ⟨B, 0, none⟩)) n
 x : XSl w (.pointer (some ⟨X, 0, none⟩)) n
 rP : (col PP).1 ≠ 1
 rB : (col B).1 ≠ 1
 rX : (col X).1 ≠ 1
theorem RfSt.old {w w' : World} {col : Col} {PP D B X n : Nat} {ops : Int} (h : RfSt w col PP D B X n ops) (U : Old w w') : RfSt w' col PP D B X n ops := by
 obtain ⟨s, K, S, cap, T, M, V, hd, e⟩ := h.dev
 exact ⟨h.n1, h.n9, Old.cellOf' U h.c0, Old.cellOf' U h.c7, Old.cellOf' U h.c8, Old.cellOf' U h.c9, ⟨s, K, S, cap, T, M, V, hd.other U (fun b h => h.elim) (Kept.refl _ _), e⟩, h.t.old U, h.x.old U, h.rP, h.rB, h.rX⟩
theorem RfSt.st {w : World} {col : Col} {PP D B X n : Nat} {ops : Int} (h : RfSt w col PP D B X n ops) : DSt w D n ops false := by
 obtain ⟨s, K, S, cap, T, M, V, hd, rfl, rfl, e⟩ := h.dev
 obtain ⟨t, d⟩ := hd.fd
 rw [e] at d
 exact ⟨d.cell 2, d.cell 3, d.cell 4⟩
theorem TSl.upd {F : Nat → Prop} {w w' : World} {B n : Nat} (h : TSl w (.pointer (some ⟨B, 0, none⟩)) n) (U : Upd F w w') (hF : ¬ F B) : TSl w' (.pointer (some ⟨B, 0, none⟩)) n := by
 rcases h with ⟨h, _⟩ | ⟨B', r, h1, h2, h3⟩
 ·cases h
 ·cases h1
  exact .inr ⟨B, r, rfl, U.cellOf h2 hF, U.cellOf h3 hF⟩
theorem XSl.upd {F : Nat → Prop} {w w' : World} {B n : Nat} (h : XSl w (.pointer (some ⟨B, 0, none⟩)) n) (U : Upd F w w') (hF : ¬ F B) : XSl w' (.pointer (some ⟨B, 0, none⟩)) n := by
 rcases h with ⟨h, _⟩ | ⟨B', a, c, h1, h2⟩
 ·cases h
 ·cases h1
  exact .inr ⟨B, a, c, rfl, U.cellOf h2 hF⟩
theorem tab_state {w : World} {B n r z0 z1 z2 z3 z4 x0 x1 x2 x3 x4 : Nat} (h : TabCells w B n r z0 z1 z2 z3 z4 x0 x1 x2 x3 x4) (i k : Nat) (hi : i < n) (hk : (k = 0 ∧ x0.testBit i = true) ∨ (k = 1 ∧ x0.testBit i = false ∧ x1.testBit i = true) ∨ (k = 2 ∧ x0.testBit i = false ∧ x1.testBit i = false ∧ x2.testBit i = true)) :
 Calls Tryz.prog 13 #[.pointer (some ⟨B, 0, none⟩), .int .i64 ((i : Nat) : Int)] w fun e w' => e = .returned (.tuple #[.int .i64 ((k : Nat) : Int), .int .i64 0]) ∧ w = w' := by
 have c0 : (decide ((i : Int) < 0) || decide ((n : Int) ≤ (i : Int))) = false := by simp; omega
 have HH := Lib.hid h
 have HK := Lib.hid hk
 obtain ⟨b0, b1, b2, b3, b4, b5, b6, n0, n1, n2, n3, n4, y0, y1, y2, y3, y4, f0, f1, f2, f3, f4, hB, p0, p1, p2, l0, l1, l2, l3, l4, e01, e02, e03, e04, e12, e13, e14, e23, e24, e34⟩ := h
 clear hk
 have k0 : ∀ w : World, (Instr.index 97 (.agg #[.pointer (some ⟨z0, 0, none⟩), .pointer (some ⟨z1, 0, none⟩), .pointer (some ⟨z2, 0, none⟩), .pointer (some ⟨z3, 0, none⟩), .pointer (some ⟨z4, 0, none⟩)]) (.int .i64 0)).run Tryz.prog w = .ok (.pointer (some ⟨z0, 0, none⟩)) w := fun _ => by kernel_rfl
 have k1 : ∀ w : World, (Instr.index 97 (.agg #[.pointer (some ⟨z0, 0, none⟩), .pointer (some ⟨z1, 0, none⟩), .pointer (some ⟨z2, 0, none⟩), .pointer (some ⟨z3, 0, none⟩), .pointer (some ⟨z4, 0, none⟩)]) (.int .i64 1)).run Tryz.prog w = .ok (.pointer (some ⟨z1, 0, none⟩)) w := fun _ => by kernel_rfl
 have k2 : ∀ w : World, (Instr.index 97 (.agg #[.pointer (some ⟨z0, 0, none⟩), .pointer (some ⟨z1, 0, none⟩), .pointer (some ⟨z2, 0, none⟩), .pointer (some ⟨z3, 0, none⟩), .pointer (some ⟨z4, 0, none⟩)]) (.int .i64 2)).run Tryz.prog w = .ok (.pointer (some ⟨z2, 0, none⟩)) w := fun _ => by kernel_rfl
 go_enter Tryz.func13, Tryz.ntmps13
 go_wp2_with (first | (go_at_call 42; refine (tab_valid HH.out).mono ?_; rintro e w1 ⟨rfl, rfl⟩) | (refine wpList_load_part rfl 97 (.tmp 25) rfl ⟨B, 2, none⟩ rfl [.pointer (some ⟨z0, 0, none⟩), .pointer (some ⟨z1, 0, none⟩), .pointer (some ⟨z2, 0, none⟩), .pointer (some ⟨z3, 0, none⟩), .pointer (some ⟨z4, 0, none⟩)] ?c1 _ Tryz.underlying97 rfl (by kernel_rfl) ?_) | go_in)
 case c1 =>
  intro j v hj
  match j with
  | 0 => cases hj; exact b2
  | 1 => cases hj; exact b3
  | 2 => cases hj; exact b4
  | 3 => cases hj; exact b5
  | 4 => cases hj; exact b6
  | j + 5 => simp at hj
 go_wp2
 refine wp_loop_rounds 3 ?_
 rw [rounds_succ]
 rcases HK.out with ⟨rfl, a0⟩ | ⟨rfl, a0, a1⟩ | ⟨rfl, a0, a1, a2⟩
 ·have A0 := Lib.hid a0
  clear a0
  go_wp2_with (first | (go_at_call 43; refine (set_has (B := z0) (n := n) (x := x0) (by exact n0) (by exact y0) p0 (by omega) hi (by omega)).mono ?_; rw [A0.out]; rintro e w1 ⟨rfl, rfl⟩))
  go_ret2
  exact ⟨rfl, rfl⟩
 ·have A0 := Lib.hid a0
  have A1 := Lib.hid a1
  clear a0 a1
  go_wp2_with (first | (go_at_call 43; refine (set_has (B := z0) (n := n) (x := x0) (by exact n0) (by exact y0) p0 (by omega) hi (by omega)).mono ?_; rw [A0.out]; rintro e w1 ⟨rfl, rfl⟩))
  rw [rounds_succ]
  go_wp2_with (first | (go_at_call 43; refine (set_has (B := z1) (n := n) (x := x1) (by exact n1) (by exact y1) p0 (by omega) hi (by omega)).mono ?_; rw [A1.out]; rintro e w1 ⟨rfl, rfl⟩))
  go_ret2
  exact ⟨rfl, rfl⟩
 ·have A0 := Lib.hid a0
  have A1 := Lib.hid a1
  have A2 := Lib.hid a2
  clear a0 a1 a2
  go_wp2_with (first | (go_at_call 43; refine (set_has (B := z0) (n := n) (x := x0) (by exact n0) (by exact y0) p0 (by omega) hi (by omega)).mono ?_; rw [A0.out]; rintro e w1 ⟨rfl, rfl⟩))
  rw [rounds_succ]
  go_wp2_with (first | (go_at_call 43; refine (set_has (B := z1) (n := n) (x := x1) (by exact n1) (by exact y1) p0 (by omega) hi (by omega)).mono ?_; rw [A1.out]; rintro e w1 ⟨rfl, rfl⟩))
  rw [rounds_succ]
  go_wp2_with (first | (go_at_call 43; refine (set_has (B := z2) (n := n) (x := x2) (by exact n2) (by exact y2) p0 (by omega) hi (by omega)).mono ?_; rw [A2.out]; rintro e w1 ⟨rfl, rfl⟩))
  go_ret2
  exact ⟨rfl, rfl⟩
theorem bits_st : ∀ n, n < 10 → ∀ u, u ≤ n → ∀ i, i < n → ((2 ^ n - 2 ^ u).testBit i = decide (u ≤ i)) ∧ ((2 ^ u - 1).testBit i = decide (i < u)) ∧ ((2 ^ u).testBit i = decide (i = u)) := by decide +kernel
theorem TabU.state {w : World} {col : Col} {q B n r used : Nat} {act : Bool} (h : TabU w col q B n r used act) (ha : act = true → 0 < used) {i : Nat} (hi : i < n) : ∃ st : Nat, ∀ (F : Nat → Prop) (W : World), Upd F w W → (∀ b, F b → (col b).1 ≠ q) →
 Calls Tryz.prog 13 #[.pointer (some ⟨B, 0, none⟩), .int .i64 ((i : Nat) : Int)] W fun e w' => e = .returned (.tuple #[.int .i64 ((st : Nat) : Int), .int .i64 0]) ∧ W = w' := by
 obtain ⟨s, Z, h, rfl, rfl, h0, h1, hn, hun, h2⟩ := h
 have hc := fun (F : Nat → Prop) (W : World) (U : Upd F w W) (hF : ∀ b, F b → (col b).1 ≠ q) => (h.other U hF (Kept.refl _ _)).cells
 obtain ⟨b0, -, -⟩ := bits_st s.n hn used hun i hi
 rw [← h0] at b0
 by_cases hu : used ≤ i
 ·exact ⟨0, fun F W U hF => tab_state (hc F W U hF) i 0 hi (.inl ⟨rfl, by rw [b0]; simp [hu]⟩)⟩
 ·have b0' : (s.x 0).testBit i = false := by rw [b0]; simp [hu]
  cases act with
  | true =>
   have hp := ha rfl
   rw [if_pos rfl] at h1 h2
   obtain ⟨-, b2, b1⟩ := bits_st s.n hn (used - 1) (by omega) i hi
   rw [← h2] at b2
   rw [← h1] at b1
   by_cases hl : i = used - 1
   ·exact ⟨1, fun F W U hF => tab_state (hc F W U hF) i 1 hi (.inr (.inl ⟨rfl, b0', by rw [b1]; simp [hl]⟩))⟩
   ·exact ⟨2, fun F W U hF => tab_state (hc F W U hF) i 2 hi (.inr (.inr ⟨rfl, b0', by rw [b1]; simp [hl], by rw [b2]; simp; omega⟩))⟩
  | false =>
   rw [if_neg (by decide)] at h1 h2
   obtain ⟨-, b2, -⟩ := bits_st s.n hn used hun i hi
   rw [← h2] at b2
   exact ⟨2, fun F W U hF => tab_state (hc F W U hF) i 2 hi (.inr (.inr ⟨rfl, b0', by rw [h1]; simp, by rw [b2]; simp; omega⟩))⟩
end Go.M
