/- Walks 16. -/
import Derived.Test.YtnmkiflnonafbaaGreatDoorProg
import Derived.Test.YtnmkiflnonafbaaGreatDoorK1
import Derived.Test.YtnmkiflnonafbaaGreatDoorK3
import Derived.Test.YtnmkiflnonafbaaGreatDoorK15
import Derived.Test.YtnmkiflnonafbaaGreatDoorK12
import Derived.Test.YtnmkiflnonafbaaGreatDoorE13
import Derived.OpenShut
set_option linter.unusedVariables false
set_option linter.unusedSimpArgs false
set_option maxRecDepth 100000
namespace Go.M
open Go.Proofs Go.RowKit
def DSl (w : World) (v : Value) (n : Nat) : Prop := (v = .pointer none ∧ n = 0) ∨ ∃ D, v = .pointer (some ⟨D, 0, none⟩) ∧ w.cell? ⟨D, 2, none⟩ = some (.int .i64 ((n : Nat) : Int)) ∧ w.cell? ⟨D, 4, none⟩ = some (.bool false)
def TSl (w : World) (v : Value) (n : Nat) : Prop := (v = .pointer none ∧ n = 0) ∨ ∃ B r, v = .pointer (some ⟨B, 0, none⟩) ∧ w.cell? ⟨B, 0, none⟩ = some (.int .i64 ((n : Nat) : Int)) ∧ w.cell? ⟨B, 1, none⟩ = some (.int .i64 r)
def XSl (w : World) (v : Value) (n : Nat) : Prop := (v = .pointer none ∧ n = 0) ∨ ∃ X a c, v = .pointer (some ⟨X, 0, none⟩) ∧ w.cell? ⟨X, 1, none⟩ = some (.slice a n c)
theorem DSl.old {w w' : World} {v : Value} {n : Nat} (h : DSl w v n) (U : Old w w') : DSl w' v n := by
 rcases h with h | ⟨D, h1, h2, h3⟩
 ·exact .inl h
 ·exact .inr ⟨D, h1, Old.cellOf' U h2, Old.cellOf' U h3⟩
theorem TSl.old {w w' : World} {v : Value} {n : Nat} (h : TSl w v n) (U : Old w w') : TSl w' v n := by
 rcases h with h | ⟨D, r, h1, h2, h3⟩
 ·exact .inl h
 ·exact .inr ⟨D, r, h1, Old.cellOf' U h2, Old.cellOf' U h3⟩
theorem XSl.old {w w' : World} {v : Value} {n : Nat} (h : XSl w v n) (U : Old w w') : XSl w' v n := by
 rcases h with h | ⟨D, a, c, h1, h2⟩
 ·exact .inl h
 ·exact .inr ⟨D, a, c, h1, Old.cellOf' U h2⟩
theorem Zir {w : World} {v : Value} {n : Nat} (h : DSl w v n) (hn : n ≤ 100) :
 Calls Tryz.prog 75 #[v] w fun e w' => e = .returned (.int .i64 ((n : Nat) : Int)) ∧ w = w' := by
 rcases h with ⟨rfl, rfl⟩ | ⟨D, rfl, h2, h3⟩
 ·go_enter Tryz.func75, Tryz.ntmps75
  go_wp2;go_ret;exact ⟨rfl, rfl⟩
 ·rcases Nat.eq_zero_or_pos n with rfl | hp
  ·go_enter Tryz.func75, Tryz.ntmps75
   go_wp2;go_ret;exact ⟨rfl, rfl⟩
  ·have g1 : (0 : Int) < (n : Int) := by omega
   go_enter Tryz.func75, Tryz.ntmps75
   go_wp2;go_ret;exact ⟨rfl, rfl⟩
theorem Zpl {w : World} {v : Value} {n : Nat} (h : TSl w v n) (hn : n ≤ 100) :
 Calls Tryz.prog 74 #[v] w fun e w' => ∃ r, e = .returned (.tuple #[.int .i64 ((n : Nat) : Int), .int .i64 r]) ∧ Old w w' := by
 rcases h with ⟨rfl, rfl⟩ | ⟨D, r, rfl, h2, h3⟩
 ·go_enter Tryz.func74, Tryz.ntmps74
  go_wp2;go_ret2;exact ⟨0, rfl, Upd.refl _ _⟩
 ·rcases Nat.eq_zero_or_pos n with rfl | hp
  ·go_enter Tryz.func74, Tryz.ntmps74
   go_wp2;go_ret2;exact ⟨0, rfl, Upd.refl _ _⟩
  ·have g1 : (0 : Int) < (n : Int) := by omega
   go_enter Tryz.func74, Tryz.ntmps74
   go_wp2
   go_quiet (fail)
   go_wp2;go_ret2;exact ⟨r, rfl, (Upd.refl _ _).drewN _⟩
theorem Zpm {w : World} {v : Value} {n : Nat} (h : XSl w v n) (hn : n ≤ 100) :
 Calls Tryz.prog 82 #[v] w fun e w' => e = .returned (.int .i64 ((n : Nat) : Int)) ∧ w = w' := by
 rcases h with ⟨rfl, rfl⟩ | ⟨D, a, c, rfl, h2⟩
 ·go_enter Tryz.func82, Tryz.ntmps82
  go_wp2;go_ret;exact ⟨rfl, rfl⟩
 ·rcases Nat.eq_zero_or_pos n with rfl | hp
  ·go_enter Tryz.func82, Tryz.ntmps82
   go_wp2;go_ret;exact ⟨rfl, rfl⟩
  ·have g1 : (0 : Int) < (n : Int) := by omega
   go_enter Tryz.func82, Tryz.ntmps82
   go_wp2;go_ret;exact ⟨rfl, rfl⟩
theorem ZqE {w : World} {v : Value} {n : Nat} (h : DSl w v n) (hn : n ≤ 100) (hp : 0 < n) :
 Calls Tryz.prog 76 #[v] w fun e w' => e = .returned (.bool false) ∧ Old w w' := by
 rcases h with ⟨rfl, rfl⟩ | ⟨D, rfl, h2, h3⟩
 ·omega
 ·have g1 : (0 : Int) < (n : Int) := by omega
  go_enter Tryz.func76, Tryz.ntmps76
  go_wp2;go_ret;exact ⟨rfl, Upd.refl _ _⟩
theorem ZfE {w : World} {d t : Value} {dn : Nat} (hd : DSl w d dn) (ht : TSl w t dn) (h1 : dn ≤ 100) (hp : 0 < dn) :
 Calls Tryz.prog 30 #[d, t] w fun e w' => e = .returned (.int .i64 0) ∧ Old w w' := by
 have HD := Lib.hid (fun (w' : World) (U : Old w w') => Zir (hd.old U) h1)
 have HO := Lib.hid (fun (w' : World) (U : Old w w') => ZqE (hd.old U) h1 hp)
 have HT := Lib.hid (Zpl ht h1);have g1 : ((dn : Int) == 0) = false := by rw [beq_eq_false_iff_ne]; omega
 clear hd ht h1 hp
 go_enter Tryz.func30, Tryz.ntmps30
 go_wp2_with (first | (go_at_call 74; refine HT.out.mono ?_; rintro e w1 ⟨r, rfl, hU⟩; have HU := Lib.hid hU; clear hU) | (go_at_call 75; refine (HD.out _ HU.out).mono ?_; rintro e w2 ⟨rfl, rfl⟩) | (go_at_call 76; refine (HO.out _ HU.out).mono ?_; rintro e w3 ⟨rfl, hU3⟩; have HU3 := Lib.hid hU3; clear hU3))
 all_goals
  go_ret;exact ⟨rfl, HU.out.trans HU3.out⟩
theorem ZlW (w : World) (a : Obj) (t : TypeId) (c : Array Value) : Has ((w.alloc a).alloc (.cells c t)) (w.heap.size + 1) t c := by
 have := Has.new (w.alloc a) t c;rwa [World.size_alloc] at this
theorem ZlX (w : World) (a b : Obj) (t : TypeId) (c : Array Value) : Has (((w.alloc a).alloc b).alloc (.cells c t)) (w.heap.size + 1 + 1) t c := by
 have := Has.new ((w.alloc a).alloc b) t c;rwa [World.size_alloc, World.size_alloc] at this
def DSt (w : World) (D n : Nat) (ops : Int) (down : Bool) : Prop := w.cell? ⟨D, 2, none⟩ = some (.int .i64 ((n : Nat) : Int)) ∧ w.cell? ⟨D, 3, none⟩ = some (.int .i64 ops) ∧ w.cell? ⟨D, 4, none⟩ = some (.bool down)
theorem DSt.old {w w' : World} {D n : Nat} {ops : Int} {down : Bool} (h : DSt w D n ops down) (U : Old w w') : DSt w' D n ops down := ⟨Old.cellOf' U h.1, Old.cellOf' U h.2.1, Old.cellOf' U h.2.2⟩
theorem Zou {w : World} {D n : Nat} {ops : Int} {down : Bool} (h : DSt w D n ops down) (hp : 0 < n) :
 Calls Tryz.prog 6 #[.pointer (some ⟨D, 0, none⟩)] w fun e w' => e = .returned (.int .i64 ops) ∧ w = w' := by
 obtain ⟨h2, h3, h4⟩ := h;have g1 : (0 : Int) < (n : Int) := by omega
 go_enter Tryz.func6, Tryz.ntmps6
 go_wp2;go_ret;exact ⟨rfl, rfl⟩
structure RfSt (w : World) (col : Col) (PP D B X n : Nat) (ops : Int) : Prop where
 n1 : 4 ≤ n
 n9 : n ≤ 9
 c0 : w.cell? ⟨PP, 0, none⟩ = some (.int .i64 ((n : Nat) : Int))
 c7 : w.cell? ⟨PP, 7, none⟩ = some (.pointer (some ⟨D, 0, none⟩))
 c8 : w.cell? ⟨PP, 8, none⟩ = some (.pointer (some ⟨B, 0, none⟩))
 c9 : w.cell? ⟨PP, 9, none⟩ = some (.pointer (some ⟨X, 0, none⟩))
 dev : ∃ s K S cap T M V, DevAt w col 1 D s K S cap T M V ∧ s.n = n ∧ s.ops = ops ∧ s.down = false
 t : TSl w (.pointer (some ⟨B, 0, none⟩)) n
 x : XSl w (.pointer (some ⟨X, 0, none⟩)) n
 rP : (col PP).1 ≠ 1
 rB : (col B).1 ≠ 1
 rX : (col X).1 ≠ 1
theorem RfSt.old {w w' : World} {col : Col} {PP D B X n : Nat} {ops : Int} (h : RfSt w col PP D B X n ops) (U : Old w w') : RfSt w' col PP D B X n ops := by
 obtain ⟨s, K, S, cap, T, M, V, hd, e⟩ := h.dev;exact ⟨h.n1, h.n9, Old.cellOf' U h.c0, Old.cellOf' U h.c7, Old.cellOf' U h.c8, Old.cellOf' U h.c9, ⟨s, K, S, cap, T, M, V, hd.other U (fun b h => h.elim) (Kept.refl _ _), e⟩, h.t.old U, h.x.old U, h.rP, h.rB, h.rX⟩
theorem RfSt.st {w : World} {col : Col} {PP D B X n : Nat} {ops : Int} (h : RfSt w col PP D B X n ops) : DSt w D n ops false := by
 obtain ⟨s, K, S, cap, T, M, V, hd, rfl, rfl, e⟩ := h.dev;obtain ⟨t, d⟩ := hd.fd;rw [e] at d;exact ⟨d.cell 2, d.cell 3, d.cell 4⟩
theorem TSl.upd {F : Nat → Prop} {w w' : World} {B n : Nat} (h : TSl w (.pointer (some ⟨B, 0, none⟩)) n) (U : Upd F w w') (hF : ¬ F B) : TSl w' (.pointer (some ⟨B, 0, none⟩)) n := by
 rcases h with ⟨h, _⟩ | ⟨B', r, h1, h2, h3⟩
 ·cases h
 ·cases h1;exact .inr ⟨B, r, rfl, U.cellOf h2 hF, U.cellOf h3 hF⟩
theorem XSl.upd {F : Nat → Prop} {w w' : World} {B n : Nat} (h : XSl w (.pointer (some ⟨B, 0, none⟩)) n) (U : Upd F w w') (hF : ¬ F B) : XSl w' (.pointer (some ⟨B, 0, none⟩)) n := by
 rcases h with ⟨h, _⟩ | ⟨B', a, c, h1, h2⟩
 ·cases h
 ·cases h1;exact .inr ⟨B, a, c, rfl, U.cellOf h2 hF⟩
theorem Zb2 {w : World} {B n r z0 z1 z2 z3 z4 x0 x1 x2 x3 x4 : Nat} (h : TabCells w B n r z0 z1 z2 z3 z4 x0 x1 x2 x3 x4) (i k : Nat) (hi : i < n) (hk : (k = 0 ∧ x0.testBit i = true) ∨ (k = 1 ∧ x0.testBit i = false ∧ x1.testBit i = true) ∨ (k = 2 ∧ x0.testBit i = false ∧ x1.testBit i = false ∧ x2.testBit i = true)) :
 Calls Tryz.prog 13 #[.pointer (some ⟨B, 0, none⟩), .int .i64 ((i : Nat) : Int)] w fun e w' => e = .returned (.tuple #[.int .i64 ((k : Nat) : Int), .int .i64 0]) ∧ w = w' := by
 have c0 : (decide ((i : Int) < 0) || decide ((n : Int) ≤ (i : Int))) = false := by simp; omega
 have HH := Lib.hid h;have HK := Lib.hid hk;obtain ⟨b0, b1, b2, b3, b4, b5, b6, n0, n1, n2, n3, n4, y0, y1, y2, y3, y4, f0, f1, f2, f3, f4, hB, p0, p1, p2, l0, l1, l2, l3, l4, e01, e02, e03, e04, e12, e13, e14, e23, e24, e34⟩ := h;clear hk;have k0 : ∀ w : World, (Instr.index 97 (.agg #[.pointer (some ⟨z0, 0, none⟩), .pointer (some ⟨z1, 0, none⟩), .pointer (some ⟨z2, 0, none⟩), .pointer (some ⟨z3, 0, none⟩), .pointer (some ⟨z4, 0, none⟩)]) (.int .i64 0)).run Tryz.prog w = .ok (.pointer (some ⟨z0, 0, none⟩)) w := fun _ => by kernel_rfl
 have k1 : ∀ w : World, (Instr.index 97 (.agg #[.pointer (some ⟨z0, 0, none⟩), .pointer (some ⟨z1, 0, none⟩), .pointer (some ⟨z2, 0, none⟩), .pointer (some ⟨z3, 0, none⟩), .pointer (some ⟨z4, 0, none⟩)]) (.int .i64 1)).run Tryz.prog w = .ok (.pointer (some ⟨z1, 0, none⟩)) w := fun _ => by kernel_rfl
 have k2 : ∀ w : World, (Instr.index 97 (.agg #[.pointer (some ⟨z0, 0, none⟩), .pointer (some ⟨z1, 0, none⟩), .pointer (some ⟨z2, 0, none⟩), .pointer (some ⟨z3, 0, none⟩), .pointer (some ⟨z4, 0, none⟩)]) (.int .i64 2)).run Tryz.prog w = .ok (.pointer (some ⟨z2, 0, none⟩)) w := fun _ => by kernel_rfl
 go_enter Tryz.func13, Tryz.ntmps13
 go_wp2_with (first | (go_at_call 42; refine (ZhH HH.out).mono ?_; rintro e w1 ⟨rfl, rfl⟩) | (refine ZaV rfl 97 (.tmp 25) rfl ⟨B, 2, none⟩ rfl [.pointer (some ⟨z0, 0, none⟩), .pointer (some ⟨z1, 0, none⟩), .pointer (some ⟨z2, 0, none⟩), .pointer (some ⟨z3, 0, none⟩), .pointer (some ⟨z4, 0, none⟩)] ?c1 _ Tryz.underlying97 rfl (by kernel_rfl) ?_) | go_in)
 case c1 =>
  intro j v hj
  match j with
  | 0 => cases hj; exact b2
  | 1 => cases hj; exact b3
  | 2 => cases hj; exact b4
  | 3 => cases hj; exact b5
  | 4 => cases hj; exact b6
  | j + 5 => simp at hj
 go_wp2;refine wp_loop_rounds 3 ?_;rw [rounds_succ];rcases HK.out with ⟨rfl, a0⟩ | ⟨rfl, a0, a1⟩ | ⟨rfl, a0, a1, a2⟩
 ·have A0 := Lib.hid a0;clear a0
  go_wp2_with (first | (go_at_call 43; refine (Zcr (B := z0) (n := n) (x := x0) (by exact n0) (by exact y0) p0 (by omega) hi (by omega)).mono ?_; rw [A0.out]; rintro e w1 ⟨rfl, rfl⟩))
  go_ret2;exact ⟨rfl, rfl⟩
 ·have A0 := Lib.hid a0;have A1 := Lib.hid a1;clear a0 a1
  go_wp2_with (first | (go_at_call 43; refine (Zcr (B := z0) (n := n) (x := x0) (by exact n0) (by exact y0) p0 (by omega) hi (by omega)).mono ?_; rw [A0.out]; rintro e w1 ⟨rfl, rfl⟩))
  rw [rounds_succ]
  go_wp2_with (first | (go_at_call 43; refine (Zcr (B := z1) (n := n) (x := x1) (by exact n1) (by exact y1) p0 (by omega) hi (by omega)).mono ?_; rw [A1.out]; rintro e w1 ⟨rfl, rfl⟩))
  go_ret2;exact ⟨rfl, rfl⟩
 ·have A0 := Lib.hid a0;have A1 := Lib.hid a1;have A2 := Lib.hid a2;clear a0 a1 a2
  go_wp2_with (first | (go_at_call 43; refine (Zcr (B := z0) (n := n) (x := x0) (by exact n0) (by exact y0) p0 (by omega) hi (by omega)).mono ?_; rw [A0.out]; rintro e w1 ⟨rfl, rfl⟩))
  rw [rounds_succ]
  go_wp2_with (first | (go_at_call 43; refine (Zcr (B := z1) (n := n) (x := x1) (by exact n1) (by exact y1) p0 (by omega) hi (by omega)).mono ?_; rw [A1.out]; rintro e w1 ⟨rfl, rfl⟩))
  rw [rounds_succ]
  go_wp2_with (first | (go_at_call 43; refine (Zcr (B := z2) (n := n) (x := x2) (by exact n2) (by exact y2) p0 (by omega) hi (by omega)).mono ?_; rw [A2.out]; rintro e w1 ⟨rfl, rfl⟩))
  go_ret2;exact ⟨rfl, rfl⟩
theorem ZdP : ∀ n, n < 10 → ∀ u, u ≤ n → ∀ i, i < n → ((2 ^ n - 2 ^ u).testBit i = decide (u ≤ i)) ∧ ((2 ^ u - 1).testBit i = decide (i < u)) ∧ ((2 ^ u).testBit i = decide (i = u)) := by decide +kernel
theorem Zc6.state {w : World} {col : Col} {q B n r used : Nat} {act : Bool} (h : Zc6 w col q B n r used act) (ha : act = true → 0 < used) {i : Nat} (hi : i < n) : ∃ st : Nat, ∀ (F : Nat → Prop) (W : World), Upd F w W → (∀ b, F b → (col b).1 ≠ q) →
 Calls Tryz.prog 13 #[.pointer (some ⟨B, 0, none⟩), .int .i64 ((i : Nat) : Int)] W fun e w' => e = .returned (.tuple #[.int .i64 ((st : Nat) : Int), .int .i64 0]) ∧ W = w' := by
 obtain ⟨s, Z, h, rfl, rfl, h0, h1, hn, hun, h2⟩ := h;have hc := fun (F : Nat → Prop) (W : World) (U : Upd F w W) (hF : ∀ b, F b → (col b).1 ≠ q) => (h.other U hF (Kept.refl _ _)).cells
 obtain ⟨b0, -, -⟩ := ZdP s.n hn used hun i hi;rw [← h0] at b0
 by_cases hu : used ≤ i
 ·exact ⟨0, fun F W U hF => Zb2 (hc F W U hF) i 0 hi (.inl ⟨rfl, by rw [b0]; simp [hu]⟩)⟩
 ·have b0' : (s.x 0).testBit i = false := by rw [b0]; simp [hu]
  cases act with
  | true =>
   have hp := ha rfl;rw [if_pos rfl] at h1 h2;obtain ⟨-, b2, b1⟩ := ZdP s.n hn (used - 1) (by omega) i hi
   rw [← h2] at b2;rw [← h1] at b1
   by_cases hl : i = used - 1
   ·exact ⟨1, fun F W U hF => Zb2 (hc F W U hF) i 1 hi (.inr (.inl ⟨rfl, b0', by rw [b1]; simp [hl]⟩))⟩
   ·exact ⟨2, fun F W U hF => Zb2 (hc F W U hF) i 2 hi (.inr (.inr ⟨rfl, b0', by rw [b1]; simp [hl], by rw [b2]; simp; omega⟩))⟩
  | false =>
   rw [if_neg (by decide)] at h1 h2
   obtain ⟨-, b2, -⟩ := ZdP s.n hn used hun i hi;rw [← h2] at b2;exact ⟨2, fun F W U hF => Zb2 (hc F W U hF) i 2 hi (.inr (.inr ⟨rfl, b0', by rw [h1]; simp, by rw [b2]; simp; omega⟩))⟩
def DropAt (w : World) : Prop := w.cell? ⟨0, 0, none⟩ = some (.bool false) ∧ w.cell? ⟨0, 1, none⟩ = some (.bool false) ∧ w.cell? ⟨0, 2, none⟩ = some (.bool true) ∧ w.cell? ⟨0, 3, none⟩ = some (.bool true) ∧ w.cell? ⟨0, 4, none⟩ = some (.bool false) ∧ w.cell? ⟨0, 5, none⟩ = some (.int .i64 0)
section
variable {w : World} {B n r z0 z1 z2 z3 z4 x0 x1 x2 x3 x4 : Nat}
theorem Zis (h : TabCells w B n r z0 z1 z2 z3 z4 x0 x1 x2 x3 x4) (i : Nat) (hi : i < n) (h0 : x0.testBit i = false) (h1 : x1.testBit i = false) (h2 : x2.testBit i = true) (nb : z2 ≠ B) :
 Calls Tryz.prog 102 #[.pointer (some ⟨B, 0, none⟩), .int .i64 ((i : Nat) : Int), .agg #[.bool false, .bool false, .bool true, .bool true, .bool false, .int .i64 0]] w fun e w' => e = .returned (.int .i64 0) ∧
  Old ((w.setCell ⟨z2, 1, none⟩ (.int .u64 ((clr x2 i : Nat) : Int))).setCell ⟨z0, 1, none⟩ (.int .u64 ((x0 ||| 2 ^ i : Nat) : Int))) w' := by
 have HH := Lib.hid h;obtain ⟨b0, b1, b2, b3, b4, b5, b6, n0, n1, n2, n3, n4, y0, y1, y2, y3, y4, f0, f1, f2, f3, f4, hB, p0, p1, p2, l0, l1, l2, l3, l4, e01, e02, e03, e04, e12, e13, e14, e23, e24, e34⟩ := h;have hz1 := block_lt_of_cell n0;have hz2 := block_lt_of_cell n2;simp only at hz1 hz2;have nb' := Ne.symm nb
 go_enter Tryz.func102, Tryz.ntmps102
 go_wp2_with (first | (go_at_call 13; refine (Zb2 (HH.out.old ((Upd.refl _ w).alloc _)) i 2 hi (.inr (.inr ⟨rfl, h0, h1, h2⟩))).mono ?_; rintro e w1 ⟨rfl, rfl⟩) | (go_at_call 160; refine (Zgv (B := B) (f := 2) (g := 0) (zf := z2) (zt := z0) (n := n) (xf := x2) (xt := x0) (i := i) (by go_simp) (by go_simp) (by go_simp) (by go_simp) (by go_simp) (by go_simp) (by intro j; go_simp) (by intro j; go_simp) (Ne.symm e02) nb (by omega) (by omega) p0 p1 hi l2 l0).mono ?_; rintro e w1 ⟨rfl, rfl⟩) | go_in)
 go_ret;exact ⟨rfl, (((Upd.refl _ _).alloc _).drew).drew⟩
theorem Znz (h : TabCells w B n r z0 z1 z2 z3 z4 x0 x1 x2 x3 x4) (hS : DropAt w) (i : Nat) (hi : i < n) (h0 : x0.testBit i = false) (h1 : x1.testBit i = false) (h2 : x2.testBit i = true) (nb : z2 ≠ B) :
 Calls Tryz.prog 49 #[.pointer (some ⟨B, 0, none⟩), .int .i64 ((i : Nat) : Int)] w fun e w' => e = .returned (.int .i64 0) ∧
  Old ((w.setCell ⟨z2, 1, none⟩ (.int .u64 ((clr x2 i : Nat) : Int))).setCell ⟨z0, 1, none⟩ (.int .u64 ((x0 ||| 2 ^ i : Nat) : Int))) w' := by
 have HH := Lib.hid h;have HC := Lib.hid (Zis h i hi h0 h1 h2 nb);obtain ⟨s0, s1, s2, s3, s4, s5⟩ := hS;clear h h0 h1 h2
 go_enter Tryz.func49, Tryz.ntmps49
 go_wp2_with (first | (refine ZaV rfl 158 (.global 0) rfl ⟨0, 0, none⟩ rfl [.bool false, .bool false, .bool true, .bool true, .bool false, .int .i64 0] ?c1 _ Tryz.underlying158 rfl (by kernel_rfl) ?_) | (go_at_call 102; refine HC.out.mono ?_; rintro e w1 ⟨rfl, hO⟩))
 case c1 =>
  intro j v hj
  match j with
  | 0 => cases hj; exact s0
  | 1 => cases hj; exact s1
  | 2 => cases hj; exact s2
  | 3 => cases hj; exact s3
  | 4 => cases hj; exact s4
  | 5 => cases hj; exact s5
  | j + 6 => simp at hj
 go_ret;exact ⟨rfl, hO⟩
end
end Go.M
namespace Go.M
open Go.Proofs Go.RowKit Go.ChangeShapes Go.X
theorem u8_of {n : Int} (h : (Lit.int .u8 n).wf = true) : ∃ m : Nat, m < 256 ∧ n = ((m : Nat) : Int) := by
 have h2 : (decide (IntKind.u8.min ≤ n) && decide (n ≤ IntKind.u8.max)) = true := h;simp only [Bool.and_eq_true, decide_eq_true_eq] at h2;have h0 : IntKind.u8.min = 0 := by decide
 have h1 : IntKind.u8.max = 255 := by decide
 exact ⟨n.toNat, by omega, by omega⟩
theorem ZrT {n : Int} (h : (Lit.int .u16 n).wf = true) : ∃ m : Nat, m < 65536 ∧ n = ((m : Nat) : Int) := by
 have h2 : (decide (IntKind.u16.min ≤ n) && decide (n ≤ IntKind.u16.max)) = true := h;simp only [Bool.and_eq_true, decide_eq_true_eq] at h2;have h0 : IntKind.u16.min = 0 := by decide
 have h1 : IntKind.u16.max = 65535 := by decide
 exact ⟨n.toNat, by omega, by omega⟩
theorem Zrv {l : List Value} {x0 x1 x2 x3 x4 x5 x6 x7 : Value} (hl : l.length = 8) (h0 : l[0]? = some x0) (h1 : l[1]? = some x1) (h2 : l[2]? = some x2) (h3 : l[3]? = some x3) (h4 : l[4]? = some x4) (h5 : l[5]? = some x5) (h6 : l[6]? = some x6) (h7 : l[7]? = some x7) : l = [x0, x1, x2, x3, x4, x5, x6, x7] := by
 match l, hl with
 | [y0, y1, y2, y3, y4, y5, y6, y7], _ => simp at h0 h1 h2 h3 h4 h5 h6 h7; simp [h0, h1, h2, h3, h4, h5, h6, h7]
section
variable {H : Type} {enc : TypeId × Value → H} {w : World} {base : Nat} {sp : Nat → Bool} {held : Bool} {fuel : Nat}
theorem ZeW {a : Addr} {n : Nat} {l : List Value} (h : w.cells? base a n = some l) {i : Nat} (hi : i < n) : w.cell? (a.add i) = l[i]? := by
 unfold World.cells? at h
 split at h
 ·exact mapM_some_get h i i (List.getElem?_range hi)
 ·cases h
theorem ZlY {b o : Nat} {s : Option Nat} {v : Value} (h : w.cell? ⟨b, o, s⟩ = some v) : s = none := by
 cases s with
 | none => rfl
 | some q =>
  unfold World.cell? at h
  split at h
  ·simp at h
  ·cases h
theorem Zpn {P : Program} {t e n : Nat} {k : IntKind} {cs : List Value} {x : DataW H × List MemPlace} (ht : P.underlying t = some (.array n e)) (he : P.underlying e = some (.int k)) (hc : P.cellsOf e = 1) (h : DataW.trod enc P w base sp held fuel t cs = some x) {i : Nat} (hi : i < n) :
 ∃ m, cs[i]? = some (.int k m) ∧ (Lit.int k m).wf = true := by
 obtain ⟨xs, m, _, _, _, hl, hall⟩ := DataW.trod_array ht h;have h1 := hall i hi;rw [List.getElem?_eq_getElem (by omega), hc, Nat.mul_one] at h1
 obtain ⟨m, hm, _, hw⟩ := DataW.trod_int he h1;exact ⟨m, Zjb hm, hw⟩
theorem ZnA {a : Addr} {n : Nat} {elems : List (DataW H × List MemPlace)} (hl : elems.length = n)
 (h : ∀ i, i < n → (w.cells? base (a.add (i * Tryz.prog.cellsOf 68)) (Tryz.prog.cellsOf 68)).bind (DataW.trod enc Tryz.prog w base sp held fuel 68) = elems[i]?) :
 ∀ j, j < n → ∃ lb lo, a = ⟨lb, lo, none⟩ ∧ MoveAt w lb lo j := by
 have hc : Tryz.prog.cellsOf 68 = 3 := by kernel_rfl
 rw [hc] at h;have h1 : ∀ i, i < n → ∃ kd ky sz : Nat, kd < 256 ∧ ky < 256 ∧ sz < 256 ∧ w.cell? ((a.add (i * 3)).add 0) = some (.int .u8 ((kd : Nat) : Int)) ∧ w.cell? ((a.add (i * 3)).add 1) = some (.int .u8 ((ky : Nat) : Int)) ∧ w.cell? ((a.add (i * 3)).add 2) = some (.int .u8 ((sz : Nat) : Int)) := by
  intro i hi;have h2 := h i hi;rw [List.getElem?_eq_getElem (by omega)] at h2
  cases hq : w.cells? base (a.add (i * 3)) 3 with
  | none => rw [hq] at h2; cases h2
  | some l =>
   rw [hq] at h2;simp only [Option.bind_some] at h2;obtain ⟨a0, e0, f0⟩ := Zh7 (i := 0) Tryz.underlying68 rfl rfl rfl Tryz.underlying5 (by kernel_rfl) h2
   obtain ⟨a1, e1, f1⟩ := Zh7 (i := 1) Tryz.underlying68 rfl rfl rfl Tryz.underlying5 (by kernel_rfl) h2
   obtain ⟨a2, e2, f2⟩ := Zh7 (i := 2) Tryz.underlying68 rfl rfl rfl Tryz.underlying5 (by kernel_rfl) h2
   obtain ⟨m0, g0, rfl⟩ := u8_of f0;obtain ⟨m1, g1, rfl⟩ := u8_of f1;obtain ⟨m2, g2, rfl⟩ := u8_of f2;exact ⟨m0, m1, m2, g0, g1, g2, (ZeW hq (by omega)).trans e0, (ZeW hq (by omega)).trans e1, (ZeW hq (by omega)).trans e2⟩
 obtain ⟨b, o, s⟩ := a;intro j hj;obtain ⟨_, _, _, _, _, _, z, _, _⟩ := h1 0 (by omega)
 obtain rfl := ZlY (b := b) (o := o) (s := s) (by simpa [Addr.add] using z)
 obtain ⟨kd, ky, sz, q0, q1, q2, m0, m1, m2⟩ := h1 j hj;simp only [ZaE, Nat.add_zero] at m0 m1 m2;exact ⟨b, o, rfl, kd, ky, sz, q0, q1, q2, m0, m1, m2⟩
theorem setup_of {cs : Array Value} {x : DataW H × List MemPlace} (hsz : cs.size = Tryz.prog.cellsOf 25) (h : DataW.trod enc Tryz.prog w base sp held fuel 25 (Value.agg cs).cells.toList = some x) :
 ∃ (n0 n1 n2 n3 n4 n5 n6 ll lc : Nat) (al : Option Addr), cs = #[.int .u8 ((n0 : Nat) : Int), .int .u8 ((n1 : Nat) : Int), .int .u8 ((n2 : Nat) : Int), .int .u8 ((n3 : Nat) : Int), .int .u8 ((n4 : Nat) : Int), .int .u8 ((n5 : Nat) : Int), .int .u8 ((n6 : Nat) : Int), .slice al ll lc] ∧
  n0 < 256 ∧ n1 < 256 ∧ n2 < 256 ∧ n3 < 256 ∧ n4 < 256 ∧ n5 < 256 ∧ n6 < 256 ∧ ll ≤ lc ∧ lc ≤ 9223372036854775807 ∧ (ll = 0 ∨ al.isSome = true) ∧ ∀ j, j < ll → j < 60 → ∃ lb lo, al = some ⟨lb, lo, none⟩ ∧ MoveAt w lb lo j := by
 have hsz' : cs.toList.length = 8 := by rw [Array.length_toList, hsz]; kernel_rfl
 obtain ⟨k, y, hy⟩ := Zfv (i := 0) (c := 7) Tryz.underlying25 rfl rfl rfl (by kernel_rfl) h
 obtain ⟨k', y', hy'⟩ := Zfv (i := 1) (c := 1) Tryz.underlying25 rfl rfl rfl (by kernel_rfl) h
 simp only [Value.cells] at hy hy';have hi : ∀ i, i < 7 → ∃ m : Nat, m < 256 ∧ cs.toList[i]? = some (.int .u8 ((m : Nat) : Int)) := by
  intro i hi;obtain ⟨m, e, f⟩ := Zpn Tryz.underlying22 Tryz.underlying5 (by kernel_rfl) hy hi
  obtain ⟨m, g, rfl⟩ := u8_of f;refine ⟨m, g, ?_⟩;rw [List.getElem?_take_of_lt hi] at e;simpa using e
 obtain ⟨n0, g0, e0⟩ := hi 0 (by omega)
 obtain ⟨n1, g1, e1⟩ := hi 1 (by omega)
 obtain ⟨n2, g2, e2⟩ := hi 2 (by omega)
 obtain ⟨n3, g3, e3⟩ := hi 3 (by omega)
 obtain ⟨n4, g4, e4⟩ := hi 4 (by omega)
 obtain ⟨n5, g5, e5⟩ := hi 5 (by omega)
 obtain ⟨n6, g6, e6⟩ := hi 6 (by omega)
 have e7 : ∃ v, (cs.toList.drop 7).take 1 = [v] ∧ cs.toList[7]? = some v := by
  refine ⟨cs.toList[7]'(by omega), ?_, List.getElem?_eq_getElem (by omega)⟩
  rw [List.drop_eq_getElem_cons (by omega)]
  rfl
 obtain ⟨v7, d7, e7⟩ := e7;have hz : DataW.trod enc Tryz.prog w base sp held k' 23 (List.take 1 (List.drop 7 cs.toList)) = some y' := hy';rw [d7] at hz;have hcs := Zrv hsz' e0 e1 e2 e3 e4 e5 e6 e7;obtain ⟨l⟩ := cs;simp only at hcs;subst hcs;rcases DataW.trod_slice Tryz.underlying23 hz with ⟨h1, _⟩ | ⟨a, len, cap, elems, rest, m, _, h1, _, _, c1, c2, hl, hr, _⟩
 ·simp only [List.cons.injEq, and_true] at h1;subst h1;exact ⟨n0, n1, n2, n3, n4, n5, n6, 0, 0, none, rfl, g0, g1, g2, g3, g4, g5, g6, Nat.le_refl _, Nat.zero_le _, .inl rfl, fun j hj => absurd hj (by omega)⟩
 ·simp only [List.cons.injEq, and_true] at h1;subst h1;refine ⟨n0, n1, n2, n3, n4, n5, n6, len, cap, some a, rfl, g0, g1, g2, g3, g4, g5, g6, c1, c2, .inr rfl, fun j hj _ => ?_⟩
  obtain ⟨lb, lo, rfl, hm⟩ := ZnA hl hr j hj;exact ⟨lb, lo, rfl, hm⟩
end
theorem ZeX {w : World} {b : Nat} {c : Array Value} {t : TypeId} {fz : Nat × Nat} (h : w.heap[b]? = some (.cells c t fz)) (i : Nat) : w.cell? ⟨b, i, none⟩ = c.toList[i]? := by
 simp [World.cell?, h]
theorem db_of {w : World} {c : Array Value} {t : TypeId} {fz : Nat × Nat} (h : w.heap[2]? = some (.cells c t fz)) (hc : c.toList = (List.range 64).map fun q => .int .u8 ((Zpy.getD q 0 : Nat) : Int)) : DbAt w := by
 intro q hq;rw [ZeX h, hc];simp [hq]
theorem seal_of {w : World} {c : Array Value} {t : TypeId} {fz : Nat × Nat} (h : w.heap[1]? = some (.cells c t fz)) (hc : c.toList = [.bool false, .bool true, .bool false, .bool false, .bool true, .int .i64 2]) : SealAt w := by
 refine ⟨?_, ?_, ?_, ?_, ?_, ?_⟩ <;> (rw [ZeX h, hc]; rfl)
theorem drop_of {w : World} {c : Array Value} {t : TypeId} {fz : Nat × Nat} (h : w.heap[0]? = some (.cells c t fz)) (hc : c.toList = [.bool false, .bool false, .bool true, .bool true, .bool false, .int .i64 0]) : DropAt w := by
 refine ⟨?_, ?_, ?_, ?_, ?_, ?_⟩ <;> (rw [ZeX h, hc]; rfl)
end Go.M
