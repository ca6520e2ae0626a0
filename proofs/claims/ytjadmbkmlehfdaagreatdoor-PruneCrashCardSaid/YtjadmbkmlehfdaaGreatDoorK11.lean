/- Walks 11. -/
import Derived.Test.YtjadmbkmlehfdaaGreatDoorProg
import Derived.Test.YtjadmbkmlehfdaaGreatDoorK2
set_option linter.unusedVariables false
set_option linter.unusedSimpArgs false
set_option maxRecDepth 100000
namespace Go.M
open Go.Proofs Go.RowKit
theorem bits_or_u64_nat (a b : Nat) (ha : a < 2 ^ 64) (hb : b < 2 ^ 64) : bits .or .u64 (a : Int) (b : Int) = ((a ||| b : Nat) : Int) := by
 have hx : a ||| b < 2 ^ 64 := Nat.or_lt_two_pow ha hb
 have h1 : (BitVec.ofInt 64 (a : Int)).toNat = a := by
  rw [BitVec.ofInt_natCast, BitVec.toNat_ofNat]; exact Nat.mod_eq_of_lt ha
 have h2 : (BitVec.ofInt 64 (b : Int)).toNat = b := by
  rw [BitVec.ofInt_natCast, BitVec.toNat_ofNat]; exact Nat.mod_eq_of_lt hb
 show IntKind.u64.wrap ((BitVec.ofInt 64 (a : Int) ||| BitVec.ofInt 64 (b : Int)).toNat : Int) = _
 rw [BitVec.toNat_or, h1, h2, show ∀ n : Int, IntKind.u64.wrap n = n % 18446744073709551616 from fun n => by simp [IntKind.wrap, IntKind.bits, IntKind.signed]]
 omega
theorem bits_and_u64_nat (a b : Nat) (ha : a < 2 ^ 64) (hb : b < 2 ^ 64) : bits .and .u64 (a : Int) (b : Int) = ((a &&& b : Nat) : Int) := by
 have hx : a &&& b < 2 ^ 64 := Nat.and_lt_two_pow a hb
 have h1 : (BitVec.ofInt 64 (a : Int)).toNat = a := by
  rw [BitVec.ofInt_natCast, BitVec.toNat_ofNat]; exact Nat.mod_eq_of_lt ha
 have h2 : (BitVec.ofInt 64 (b : Int)).toNat = b := by
  rw [BitVec.ofInt_natCast, BitVec.toNat_ofNat]; exact Nat.mod_eq_of_lt hb
 show IntKind.u64.wrap ((BitVec.ofInt 64 (a : Int) &&& BitVec.ofInt 64 (b : Int)).toNat : Int) = _
 rw [BitVec.toNat_and, h1, h2, show ∀ n : Int, IntKind.u64.wrap n = n % 18446744073709551616 from fun n => by simp [IntKind.wrap, IntKind.bits, IntKind.signed]]
 omega
def clr (x i : Nat) : Nat := x &&& (18446744073709551615 - 2 ^ i)
theorem bits_andNot_u64_nat (a i : Nat) (ha : a < 2 ^ 64) (hi : i < 64) : bits .andNot .u64 (a : Int) ((2 ^ i : Nat) : Int) = ((clr a i : Nat) : Int) := by
 have hp : 2 ^ i < 2 ^ 64 := Nat.pow_lt_pow_right (by omega) hi
 have hx : clr a i < 2 ^ 64 := Nat.lt_of_le_of_lt Nat.and_le_left ha
 have h1 : (BitVec.ofInt 64 (a : Int)).toNat = a := by
  rw [BitVec.ofInt_natCast, BitVec.toNat_ofNat]; exact Nat.mod_eq_of_lt ha
 have h2 : (BitVec.ofInt 64 ((2 ^ i : Nat) : Int)).toNat = 2 ^ i := by
  rw [BitVec.ofInt_natCast, BitVec.toNat_ofNat]; exact Nat.mod_eq_of_lt hp
 show IntKind.u64.wrap ((BitVec.ofInt 64 (a : Int) &&& ~~~ BitVec.ofInt 64 ((2 ^ i : Nat) : Int)).toNat : Int) = _
 rw [BitVec.toNat_and, BitVec.toNat_not, h1, h2, show ∀ n : Int, IntKind.u64.wrap n = n % 18446744073709551616 from fun n => by simp [IntKind.wrap, IntKind.bits, IntKind.signed]]
 unfold clr at hx ⊢
 have e : (2 : Nat) ^ 64 - 1 - 2 ^ i = 18446744073709551615 - 2 ^ i := by omega
 rw [e]
 omega
theorem ret_bool {a b : Bool} (h : a = b) : Ending.returned (.bool a) = .returned (.bool b) := by rw [h]
theorem ret_int {k : IntKind} {a b : Int} (h : a = b) : Ending.returned (.int k a) = .returned (.int k b) := by rw [h]
theorem bit_of (x i : Nat) (hx : x < 2 ^ 34) : (bits .and .u64 ((x : Int) / 2 ^ i) 1 == 1) = x.testBit i := by
 have e : ((x : Int) / 2 ^ i) = ((x / 2 ^ i : Nat) : Int) := by simp
 have hl : x / 2 ^ i < 2 ^ 64 := Nat.lt_of_le_of_lt (Nat.div_le_self _ _) (by omega)
 rw [e, show (1 : Int) = ((1 : Nat) : Int) from rfl, bits_and_u64_nat _ _ hl (by decide), Nat.testBit_eq_decide_div_mod_eq, Nat.and_one_is_mod]
 have : ∀ m : Nat, ((((m % 2 : Nat) : Int) == ((1 : Nat) : Int)) = decide (m % 2 = 1)) := fun m => by
  rw [Bool.eq_iff_iff]; simp
  omega
 exact this _
theorem set_has {w : World} {B n i x : Nat} (c0 : w.cell? ⟨B, 0, none⟩ = some (.int .i64 ((n : Nat) : Int))) (c1 : w.cell? ⟨B, 1, none⟩ = some (.int .u64 ((x : Nat) : Int))) (hn : 0 < n) (hn2 : n ≤ 34) (hi : i < n) (hx : x < 2 ^ 34) :
 Calls Tryz.prog 94 #[.pointer (some ⟨B, 0, none⟩), .int .i64 ((i : Nat) : Int)] w fun e w' => e = .returned (.bool (x.testBit i)) ∧ w = w' := by
 have b0 : (decide ((i : Int) < 0) || decide ((n : Int) ≤ (i : Int))) = false := by simp; omega
 go_enter Tryz.func94, Tryz.ntmps94
 go_wp2
 go_ret
 exact ⟨ret_bool (bit_of x i hx), rfl⟩
theorem wrap_pow (i : Nat) (hi : i < 64) : IntKind.u64.wrap (2 ^ i) = ((2 ^ i : Nat) : Int) := by
 have hp : 2 ^ i < 2 ^ 64 := Nat.pow_lt_pow_right (by omega) hi
 rw [show ∀ n : Int, IntKind.u64.wrap n = n % 18446744073709551616 from fun n => by simp [IntKind.wrap, IntKind.bits, IntKind.signed]]
 have : ((2 : Int) ^ i) = ((2 ^ i : Nat) : Int) := by simp
 rw [this]
 clear this
 generalize (2 : Nat) ^ i = m at *
 omega
def SetAt (w : World) (B j : Nat) (v r : Value) (en : Ending) (w' : World) : Prop := en = .returned r ∧ (w.setCell ⟨B, j, none⟩ v).drew = w'
theorem set_at {w w' : World} {B j : Nat} {v v' : Value} (h : v = v') (hw : w' = (w.setCell ⟨B, j, none⟩ v).drew) : (w.setCell ⟨B, j, none⟩ v').drew = w' := by rw [hw, h]
theorem set_add {w : World} {B n i x : Nat} (c0 : w.cell? ⟨B, 0, none⟩ = some (.int .i64 ((n : Nat) : Int))) (c1 : w.cell? ⟨B, 1, none⟩ = some (.int .u64 ((x : Nat) : Int))) (f : ∀ j, w.frozen? ⟨B, j, none⟩ = false) (hn : 0 < n) (hn2 : n ≤ 34) (hi : i < n) (hx : x < 2 ^ 34) :
 Calls Tryz.prog 100 #[.pointer (some ⟨B, 0, none⟩), .int .i64 ((i : Nat) : Int)] w (SetAt w B 1 (.int .u64 ((x ||| 2 ^ i : Nat) : Int)) (.int .i64 0)) := by
 have b0 : (decide ((i : Int) < 0) || decide ((n : Int) ≤ (i : Int))) = false := by simp; omega
 have hv : Value.int .u64 (bits .or .u64 (x : Int) (IntKind.u64.wrap (2 ^ i))) = .int .u64 ((x ||| 2 ^ i : Nat) : Int) := by
  rw [wrap_pow i (by omega), bits_or_u64_nat _ _ (by omega) (Nat.pow_lt_pow_right (by omega) (by omega))]
 have H := Lib.hid hv
 clear hv
 go_enter Tryz.func100, Tryz.ntmps100
 go_wp2
 go_still_tail 7, (by kernel_rfl)
 change wpList _ _ _ _ _ w.drew
 go_wp2
 go_ret
 exact ⟨rfl, set_at H.out rfl⟩
theorem set_remove {w : World} {B n i x : Nat} (c0 : w.cell? ⟨B, 0, none⟩ = some (.int .i64 ((n : Nat) : Int))) (c1 : w.cell? ⟨B, 1, none⟩ = some (.int .u64 ((x : Nat) : Int))) (f : ∀ j, w.frozen? ⟨B, j, none⟩ = false) (hn : 0 < n) (hn2 : n ≤ 34) (hi : i < n) (hx : x < 2 ^ 34) :
 Calls Tryz.prog 258 #[.pointer (some ⟨B, 0, none⟩), .int .i64 ((i : Nat) : Int)] w (SetAt w B 1 (.int .u64 ((clr x i : Nat) : Int)) (.int .i64 0)) := by
 have b0 : (decide ((i : Int) < 0) || decide ((n : Int) ≤ (i : Int))) = false := by simp; omega
 have hv : Value.int .u64 (bits .andNot .u64 (x : Int) (IntKind.u64.wrap (2 ^ i))) = .int .u64 ((clr x i : Nat) : Int) := by
  rw [wrap_pow i (by omega), bits_andNot_u64_nat _ _ (by omega) (by omega)]
 have H := Lib.hid hv
 clear hv
 go_enter Tryz.func258, Tryz.ntmps258
 go_wp2
 go_still_tail 7, (by kernel_rfl)
 change wpList _ _ _ _ _ w.drew
 go_wp2
 go_ret
 exact ⟨rfl, set_at H.out rfl⟩
def dbTab : List Nat := [0, 1, 56, 2, 57, 49, 28, 3, 61, 58, 42, 50, 38, 29, 17, 4, 62, 47, 59, 36, 45, 43, 51, 22, 53, 39, 33, 30, 24, 18, 12, 5, 63, 55, 48, 27, 60, 41, 37, 16, 46, 35, 44, 21, 52, 32, 23, 11, 54, 26, 40, 15, 34, 20, 31, 10, 25, 14, 19, 9, 13, 8, 7, 6]
def low (x : Nat) : Nat := ((List.range 10).find? fun i => x.testBit i).getD 0
def pop (x : Nat) : Nat := ((List.range 10).filter fun i => x.testBit i).length
def dbP (x : Nat) : Int := bits .and .u64 (x : Int) (IntKind.u64.wrap (-(x : Int)))
def dbQ (x : Nat) : Int := IntKind.u64.wrap (dbP x * 285870213051353865) / 288230376151711744
theorem db_all : ∀ x, x < 1024 → 0 < x → 0 ≤ dbQ x ∧ dbQ x < 64 ∧ dbTab.getD (dbQ x).toNat 0 = low x := by decide +kernel
theorem tz_walk {w : World} {x q k : Nat} {p : Int} (f1 : bits .and .u64 (x : Int) (IntKind.u64.wrap (-(x : Int))) = p) (f2 : IntKind.u64.wrap (p * 285870213051353865) / 288230376151711744 = ((q : Nat) : Int)) (hq : q < 64) (hT : w.cell? ⟨3, q, none⟩ = some (.int .u8 ((k : Nat) : Int))) (hx : ((x : Int) == 0) = false) (hk : k < 64) :
 Calls Tryz.prog 198 #[.int .u64 ((x : Nat) : Int)] w fun e w' => e = .returned (.int .i64 ((k : Nat) : Int)) ∧ w = w' := by
 go_enter Tryz.func198, Tryz.ntmps198
 go_wp2
 go_ret
 exact ⟨rfl, rfl⟩
def DbAt (w : World) : Prop := ∀ q, q < 64 → w.cell? ⟨3, q, none⟩ = some (.int .u8 ((dbTab.getD q 0 : Nat) : Int))
theorem tz_any {w : World} (hT : DbAt w) {x : Nat} (hx : x < 1024) (h0 : 0 < x) :
 Calls Tryz.prog 198 #[.int .u64 ((x : Nat) : Int)] w fun e w' => e = .returned (.int .i64 ((low x : Nat) : Int)) ∧ w = w' := by
 obtain ⟨a, b, c⟩ := db_all x hx h0
 obtain ⟨q, hq⟩ := Int.eq_ofNat_of_zero_le a
 have hT' := hT q (by omega)
 rw [hq, Int.toNat_natCast] at c
 rw [c] at hT'
 refine tz_walk (p := dbP x) rfl hq (by omega) hT' (by rw [beq_eq_false_iff_ne]; omega) ?_
 have : ∀ x, x < 1024 → low x < 64 := by decide +kernel
 exact this x hx
theorem set_low {w : World} (hT : DbAt w) {B n x : Nat} (c0 : w.cell? ⟨B, 0, none⟩ = some (.int .i64 ((n : Nat) : Int))) (c1 : w.cell? ⟨B, 1, none⟩ = some (.int .u64 ((x : Nat) : Int))) (hn : 0 < n) (hn2 : n ≤ 10) (hx : x < 1024) (h0 : 0 < x) :
 Calls Tryz.prog 51 #[.pointer (some ⟨B, 0, none⟩)] w fun e w' => e = .returned (.tuple #[.int .i64 ((low x : Nat) : Int), .bool true]) ∧ w = w' := by
 have H := Lib.hid hT
 clear hT
 have hz : ((x : Int) == 0) = false := by rw [beq_eq_false_iff_ne]; omega
 go_enter Tryz.func51, Tryz.ntmps51
 go_wp2_with (first | (go_at_call 198; refine (tz_any H.out hx h0).mono ?_; rintro e w1 ⟨rfl, rfl⟩) | go_in)
 go_ret2
 exact ⟨rfl, rfl⟩
theorem set_none {w : World} {B n : Nat} (c0 : w.cell? ⟨B, 0, none⟩ = some (.int .i64 ((n : Nat) : Int))) (c1 : w.cell? ⟨B, 1, none⟩ = some (.int .u64 0)) (hn : 0 < n) (hn2 : n ≤ 10) :
 Calls Tryz.prog 51 #[.pointer (some ⟨B, 0, none⟩)] w fun e w' => e = .returned (.tuple #[.int .i64 0, .bool false]) ∧ w = w' := by
 go_enter Tryz.func51, Tryz.ntmps51
 go_wp2
 go_ret2
 exact ⟨rfl, rfl⟩
def ocA (x : Int) : Int := IntKind.u64.wrap (bits .and .u64 (x / 2) 6148914691236517205 + bits .and .u64 x 6148914691236517205)
def ocB (x : Int) : Int := IntKind.u64.wrap (bits .and .u64 (x / 4) 3689348814741910323 + bits .and .u64 x 3689348814741910323)
def ocC (x : Int) : Int := bits .and .u64 (IntKind.u64.wrap (x / 16 + x)) 1085102592571150095
def ocD (x : Int) : Int := IntKind.u64.wrap (x + x / 256)
def ocE (x : Int) : Int := IntKind.u64.wrap (x + x / 65536)
def ocF (x : Int) : Int := IntKind.u64.wrap (x + x / 4294967296)
def ocX (x : Nat) : Int := bits .and .i64 (wrap64 (ocF (ocE (ocD (ocC (ocB (ocA (x : Int)))))))) 127
theorem pop_all : ∀ x, x < 1024 → ocX x = ((pop x : Nat) : Int) := by decide +kernel
theorem oc_walk {w : World} {x : Nat} (hx : x < 1024) :
 Calls Tryz.prog 161 #[.int .u64 ((x : Nat) : Int)] w fun e w' => e = .returned (.int .i64 ((pop x : Nat) : Int)) ∧ w = w' := by
 go_enter Tryz.func161, Tryz.ntmps161
 go_wp2
 go_ret
 exact ⟨ret_int (pop_all x hx), rfl⟩
theorem set_len {w : World} {B n x : Nat} (c0 : w.cell? ⟨B, 0, none⟩ = some (.int .i64 ((n : Nat) : Int))) (c1 : w.cell? ⟨B, 1, none⟩ = some (.int .u64 ((x : Nat) : Int))) (hn : 0 < n) (hx : x < 1024) :
 Calls Tryz.prog 78 #[.pointer (some ⟨B, 0, none⟩)] w fun e w' => e = .returned (.int .i64 ((pop x : Nat) : Int)) ∧ w = w' := by
 go_enter Tryz.func78, Tryz.ntmps78
 go_wp2_with (first | (go_at_call 161; refine (oc_walk hx).mono ?_; rintro e w1 ⟨rfl, rfl⟩) | go_in)
 go_ret
 exact ⟨rfl, rfl⟩
structure TabS where
 n : Nat
 r : Nat
 x : Nat → Nat
structure TabAt (w : World) (col : Col) (q B : Nat) (s : TabS) (Z : Nat → Nat) : Prop where
 fB : ∃ t, Has w B t #[.int .i64 ((s.n : Nat) : Int), .int .i64 ((s.r : Nat) : Int), .pointer (some ⟨Z 0, 0, none⟩), .pointer (some ⟨Z 1, 0, none⟩), .pointer (some ⟨Z 2, 0, none⟩), .pointer (some ⟨Z 3, 0, none⟩), .pointer (some ⟨Z 4, 0, none⟩)]
 fZ : ∀ k, k < 5 → ∃ t, Has w (Z k) t #[.int .i64 ((s.n : Nat) : Int), .int .u64 ((s.x k : Nat) : Int)]
 cB : col B = (q, 0)
 cZ : ∀ k, k < 5 → col (Z k) = (q, 1 + k)
 lo : 0 < s.n
 hi : s.n ≤ 10
 rn : s.r ≤ s.n
 bd : ∀ k, k < 5 → s.x k < 2 ^ s.n
structure TabCells (w : World) (B n r z0 z1 z2 z3 z4 x0 x1 x2 x3 x4 : Nat) : Prop where
 b0 : w.cell? ⟨B, 0, none⟩ = some (.int .i64 ((n : Nat) : Int))
 b1 : w.cell? ⟨B, 1, none⟩ = some (.int .i64 ((r : Nat) : Int))
 b2 : w.cell? ⟨B, 2, none⟩ = some (.pointer (some ⟨z0, 0, none⟩))
 b3 : w.cell? ⟨B, 3, none⟩ = some (.pointer (some ⟨z1, 0, none⟩))
 b4 : w.cell? ⟨B, 4, none⟩ = some (.pointer (some ⟨z2, 0, none⟩))
 b5 : w.cell? ⟨B, 5, none⟩ = some (.pointer (some ⟨z3, 0, none⟩))
 b6 : w.cell? ⟨B, 6, none⟩ = some (.pointer (some ⟨z4, 0, none⟩))
 n0 : w.cell? ⟨z0, 0, none⟩ = some (.int .i64 ((n : Nat) : Int))
 n1 : w.cell? ⟨z1, 0, none⟩ = some (.int .i64 ((n : Nat) : Int))
 n2 : w.cell? ⟨z2, 0, none⟩ = some (.int .i64 ((n : Nat) : Int))
 n3 : w.cell? ⟨z3, 0, none⟩ = some (.int .i64 ((n : Nat) : Int))
 n4 : w.cell? ⟨z4, 0, none⟩ = some (.int .i64 ((n : Nat) : Int))
 y0 : w.cell? ⟨z0, 1, none⟩ = some (.int .u64 ((x0 : Nat) : Int))
 y1 : w.cell? ⟨z1, 1, none⟩ = some (.int .u64 ((x1 : Nat) : Int))
 y2 : w.cell? ⟨z2, 1, none⟩ = some (.int .u64 ((x2 : Nat) : Int))
 y3 : w.cell? ⟨z3, 1, none⟩ = some (.int .u64 ((x3 : Nat) : Int))
 y4 : w.cell? ⟨z4, 1, none⟩ = some (.int .u64 ((x4 : Nat) : Int))
 f0 : ∀ j, w.frozen? ⟨z0, j, none⟩ = false
 f1 : ∀ j, w.frozen? ⟨z1, j, none⟩ = false
 f2 : ∀ j, w.frozen? ⟨z2, j, none⟩ = false
 f3 : ∀ j, w.frozen? ⟨z3, j, none⟩ = false
 f4 : ∀ j, w.frozen? ⟨z4, j, none⟩ = false
 hB : B < w.heap.size
 p0 : 0 < n
 p1 : n ≤ 10
 p2 : r ≤ n
 l0 : x0 < 1024
 l1 : x1 < 1024
 l2 : x2 < 1024
 l3 : x3 < 1024
 l4 : x4 < 1024
 e01 : z0 ≠ z1
 e02 : z0 ≠ z2
 e03 : z0 ≠ z3
 e04 : z0 ≠ z4
 e12 : z1 ≠ z2
 e13 : z1 ≠ z3
 e14 : z1 ≠ z4
 e23 : z2 ≠ z3
 e24 : z2 ≠ z4
 e34 : z3 ≠ z4
theorem TabAt.cells {w : World} {col : Col} {q B : Nat} {s : TabS} {Z : Nat → Nat} (h : TabAt w col q B s Z) : TabCells w B s.n s.r (Z 0) (Z 1) (Z 2) (Z 3) (Z 4) (s.x 0) (s.x 1) (s.x 2) (s.x 3) (s.x 4) := by
 obtain ⟨⟨_, b⟩, z, cB, cZ, lo, hi, rn, bd⟩ := h
 obtain ⟨_, a0⟩ := z 0 (by omega)
 obtain ⟨_, a1⟩ := z 1 (by omega)
 obtain ⟨_, a2⟩ := z 2 (by omega)
 obtain ⟨_, a3⟩ := z 3 (by omega)
 obtain ⟨_, a4⟩ := z 4 (by omega)
 have hp : 2 ^ s.n ≤ 1024 := Nat.pow_le_pow_right (n := 2) (by omega) hi
 have ne : ∀ a b, a < 5 → b < 5 → a ≠ b → Z a ≠ Z b := fun a b ha hb hab => col_ne (cZ a ha) (cZ b hb) (by simp; omega)
 have bl : ∀ k, k < 5 → s.x k < 1024 := fun k hk => by have := bd k hk; omega
 exact ⟨b.cell 0, b.cell 1, b.cell 2, b.cell 3, b.cell 4, b.cell 5, b.cell 6, a0.cell 0, a1.cell 0, a2.cell 0, a3.cell 0, a4.cell 0, a0.cell 1, a1.cell 1, a2.cell 1, a3.cell 1, a4.cell 1, a0.frozen, a1.frozen, a2.frozen, a3.frozen, a4.frozen, b.lt, lo, hi, rn,
  bl 0 (by omega), bl 1 (by omega), bl 2 (by omega), bl 3 (by omega), bl 4 (by omega), ne 0 1 (by omega) (by omega) (by omega), ne 0 2 (by omega) (by omega) (by omega), ne 0 3 (by omega) (by omega) (by omega), ne 0 4 (by omega) (by omega) (by omega), ne 1 2 (by omega) (by omega) (by omega), ne 1 3 (by omega) (by omega) (by omega), ne 1 4 (by omega) (by omega) (by omega), ne 2 3 (by omega) (by omega) (by omega), ne 2 4 (by omega) (by omega) (by omega), ne 3 4 (by omega) (by omega) (by omega)⟩
theorem TabCells.old {w w' : World} (O : Old w w') {B n r z0 z1 z2 z3 z4 x0 x1 x2 x3 x4 : Nat} (h : TabCells w B n r z0 z1 z2 z3 z4 x0 x1 x2 x3 x4) : TabCells w' B n r z0 z1 z2 z3 z4 x0 x1 x2 x3 x4 := by
 obtain ⟨b0, b1, b2, b3, b4, b5, b6, n0, n1, n2, n3, n4, y0, y1, y2, y3, y4, f0, f1, f2, f3, f4, hB, p0, p1, p2, l0, l1, l2, l3, l4, e01, e02, e03, e04, e12, e13, e14, e23, e24, e34⟩ := h
 have z := O.size
 exact ⟨Old.cellOf' O b0, Old.cellOf' O b1, Old.cellOf' O b2, Old.cellOf' O b3, Old.cellOf' O b4, Old.cellOf' O b5, Old.cellOf' O b6, Old.cellOf' O n0, Old.cellOf' O n1, Old.cellOf' O n2, Old.cellOf' O n3, Old.cellOf' O n4, Old.cellOf' O y0, Old.cellOf' O y1, Old.cellOf' O y2, Old.cellOf' O y3, Old.cellOf' O y4,
  fun j => O.frz (block_lt_of_cell n0) (f0 j), fun j => O.frz (block_lt_of_cell n1) (f1 j), fun j => O.frz (block_lt_of_cell n2) (f2 j), fun j => O.frz (block_lt_of_cell n3) (f3 j), fun j => O.frz (block_lt_of_cell n4) (f4 j), by omega, p0, p1, p2, l0, l1, l2, l3, l4, e01, e02, e03, e04, e12, e13, e14, e23, e24, e34⟩
section
variable {w : World} {B n r z0 z1 z2 z3 z4 x0 x1 x2 x3 x4 : Nat}
theorem tab_free (h : TabCells w B n r z0 z1 z2 z3 z4 x0 x1 x2 x3 x4) :
 Calls Tryz.prog 27 #[.pointer (some ⟨B, 0, none⟩)] w fun e w' => e = .returned (.int .i64 ((pop x0 : Nat) : Int)) ∧ w = w' := by
 obtain ⟨b0, b1, b2, b3, b4, b5, b6, n0, n1, n2, n3, n4, y0, y1, y2, y3, y4, f0, f1, f2, f3, f4, hB, p0, p1, p2, l0, l1, l2, l3, l4, e01, e02, e03, e04, e12, e13, e14, e23, e24, e34⟩ := h
 go_enter Tryz.func27, Tryz.ntmps27
 go_wp2_with (first | (go_at_call 78; refine (set_len (by exact n0) (by exact y0) p0 l0).mono ?_; rintro e w1 ⟨rfl, rfl⟩) | go_in)
 go_ret
 exact ⟨rfl, rfl⟩
theorem tab_free' (h : TabCells w B n r z0 z1 z2 z3 z4 x0 x1 x2 x3 x4) :
 Calls Tryz.prog 27 #[.pointer (some ⟨B, 0, none⟩)] w fun e w' => e = .returned (.int .i64 ((pop x0 : Nat) : Int)) ∧ w' = w :=
 (tab_free h).mono fun _ _ ⟨h1, h2⟩ => ⟨h1, h2.symm⟩
theorem tab_active (hT : DbAt w) (h : TabCells w B n r z0 z1 z2 z3 z4 x0 x1 x2 x3 x4) (hx : 0 < x1) :
 Calls Tryz.prog 10 #[.pointer (some ⟨B, 0, none⟩), .int .i64 1] w fun e w' => e = .returned (.tuple #[.int .i64 ((low x1 : Nat) : Int), .bool true]) ∧ w = w' := by
 have HT := Lib.hid hT
 clear hT
 obtain ⟨b0, b1, b2, b3, b4, b5, b6, n0, n1, n2, n3, n4, y0, y1, y2, y3, y4, f0, f1, f2, f3, f4, hB, p0, p1, p2, l0, l1, l2, l3, l4, e01, e02, e03, e04, e12, e13, e14, e23, e24, e34⟩ := h
 go_enter Tryz.func10, Tryz.ntmps10
 go_wp2_with (first | (go_at_call 51; refine (set_low HT.out (by exact n1) (by exact y1) p0 p1 l1 hx).mono ?_; rintro e w1 ⟨rfl, rfl⟩) | go_in)
 go_ret2
 exact ⟨rfl, rfl⟩
theorem tab_inactive (h : TabCells w B n r z0 z1 z2 z3 z4 x0 0 x2 x3 x4) :
 Calls Tryz.prog 10 #[.pointer (some ⟨B, 0, none⟩), .int .i64 1] w fun e w' => e = .returned (.tuple #[.int .i64 0, .bool false]) ∧ w = w' := by
 obtain ⟨b0, b1, b2, b3, b4, b5, b6, n0, n1, n2, n3, n4, y0, y1, y2, y3, y4, f0, f1, f2, f3, f4, hB, p0, p1, p2, l0, l1, l2, l3, l4, e01, e02, e03, e04, e12, e13, e14, e23, e24, e34⟩ := h
 go_enter Tryz.func10, Tryz.ntmps10
 go_wp2_with (first | (go_at_call 51; refine (set_none (by exact n1) (by exact y1) p0 p1).mono ?_; rintro e w1 ⟨rfl, rfl⟩) | go_in)
 go_ret2
 exact ⟨rfl, rfl⟩
theorem tab_move {w : World} {B zf zt n i f g xf xt : Nat} (bf : w.cell? ⟨B, 2 + f, none⟩ = some (.pointer (some ⟨zf, 0, none⟩))) (bt : w.cell? ⟨B, 2 + g, none⟩ = some (.pointer (some ⟨zt, 0, none⟩)))
 (nf : w.cell? ⟨zf, 0, none⟩ = some (.int .i64 ((n : Nat) : Int))) (nt : w.cell? ⟨zt, 0, none⟩ = some (.int .i64 ((n : Nat) : Int))) (yf : w.cell? ⟨zf, 1, none⟩ = some (.int .u64 ((xf : Nat) : Int))) (yt : w.cell? ⟨zt, 1, none⟩ = some (.int .u64 ((xt : Nat) : Int)))
 (ff : ∀ j, w.frozen? ⟨zf, j, none⟩ = false) (ft : ∀ j, w.frozen? ⟨zt, j, none⟩ = false) (ne : zf ≠ zt) (nb : zf ≠ B) (hf : f < 5) (hg : g < 5) (p0 : 0 < n) (p1 : n ≤ 10) (hi : i < n) (lf : xf < 1024) (lt : xt < 1024) :
 Calls Tryz.prog 209 #[.pointer (some ⟨B, 0, none⟩), .int .i64 ((i : Nat) : Int), .int .i64 ((f : Nat) : Int), .int .i64 ((g : Nat) : Int)] w fun e w' => e = .returned (.tuple #[]) ∧
  ((w.setCell ⟨zf, 1, none⟩ (.int .u64 ((clr xf i : Nat) : Int))).setCell ⟨zt, 1, none⟩ (.int .u64 ((xt ||| 2 ^ i : Nat) : Int))).drew.drew = w' := by
 have hB := block_lt_of_cell bf
 have h1 := block_lt_of_cell nf
 have h2 := block_lt_of_cell nt
 simp only at hB h1 h2
 have ne' := Ne.symm ne
 have nb' := Ne.symm nb
 go_enter Tryz.func209, Tryz.ntmps209
 go_wp2_with (first | (go_at_call 258; refine (set_remove (B := zf) (n := n) (x := xf) (i := i) (by go_simp) (by go_simp) (by intro j; go_simp) p0 (by omega) hi (by omega)).mono ?_; rintro e w1 ⟨rfl, rfl⟩) | (go_at_call 100; refine (set_add (B := zt) (n := n) (x := xt) (i := i) (by go_simp) (by go_simp) (by intro j; go_simp) p0 (by omega) hi (by omega)).mono ?_; rintro e w1 ⟨rfl, rfl⟩) | go_in)
 go_end0
 exact ⟨rfl, rfl⟩
theorem tab_take (hT : DbAt w) (h : TabCells w B n r z0 z1 z2 z3 z4 x0 0 x2 x3 x4) (hx : 0 < x0) (hf : r < pop x0) (hl : low x0 < n) (nb : z0 ≠ B) :
 Calls Tryz.prog 105 #[.pointer (some ⟨B, 0, none⟩)] w fun e w' => e = .returned (.tuple #[.int .i64 ((low x0 : Nat) : Int), .int .i64 0]) ∧
  Old ((w.setCell ⟨z0, 1, none⟩ (.int .u64 ((clr x0 (low x0) : Nat) : Int))).setCell ⟨z1, 1, none⟩ (.int .u64 ((2 : Int) ^ low x0))) w' := by
 have HT := Lib.hid hT
 clear hT
 have hp : pop x0 ≤ 10 := by
  have : ∀ x, x < 1024 → pop x ≤ 10 := by decide +kernel
  exact this x0 h.l0
 have hp0 : ¬ pop x0 ≤ r := by omega
 have hlow : low x0 < 10 := by have := h.p1; omega
 have hpz : pop 0 = 0 := by decide
 have HH := Lib.hid h
 obtain ⟨b0, b1, b2, b3, b4, b5, b6, n0, n1, n2, n3, n4, y0, y1, y2, y3, y4, f0, f1, f2, f3, f4, hB, p0, p1, p2, l0, l1, l2, l3, l4, e01, e02, e03, e04, e12, e13, e14, e23, e24, e34⟩ := h
 go_enter Tryz.func105, Tryz.ntmps105
 go_wp2_with (first | (go_at_call 78; (with_reducible refine (set_len (B := z1) (n := n) (x := 0) ?_ ?_ p0 (by omega)).mono ?_); exact n1; exact y1; rintro e w1 ⟨rfl, rfl⟩) | (go_at_call 78; (with_reducible refine (set_len (B := z0) (n := n) (x := x0) ?_ ?_ p0 l0).mono ?_); exact n0; exact y0; rintro e w1 ⟨rfl, rfl⟩) | (go_at_call 51; refine (set_low HT.out (by exact n0) (by exact y0) p0 p1 l0 hx).mono ?_; rintro e w1 ⟨rfl, rfl⟩) | (go_at_call 258; trace_state; fail) | go_in)
 go_quiet ((go_at_call 27; exact Calls.quiet_of_same (tab_free' (HH.out.old ((Upd.refl _ w).drewN _)))))
 have nb' := Ne.symm nb
 go_wp2_with (first | (go_at_call 51; refine (set_low (x := x0) (n := n) (w := w.drewN nq) (by exact HT.out) (by exact n0) (by exact y0) p0 p1 l0 hx).mono ?_; rintro e w1 ⟨rfl, rfl⟩) | (go_at_call 209; refine (tab_move (B := B) (f := 0) (g := 1) (zf := z0) (zt := z1) (n := n) (xf := x0) (xt := 0) (i := low x0) (by exact b2) (by exact b3) (by exact n0) (by exact n1) (by exact y0) (by exact y1) (by exact f0) (by exact f1) e01 nb (by omega) (by omega) p0 p1 hl l0 (by omega)).mono ?_; rintro e w1 ⟨rfl, rfl⟩) | go_in)
 go_ret2
 exact ⟨rfl, Upd.drewN (Upd.refl _ _) (nq + 2)⟩
theorem tab_valid (h : TabCells w B n r z0 z1 z2 z3 z4 x0 x1 x2 x3 x4) :
 Calls Tryz.prog 50 #[.pointer (some ⟨B, 0, none⟩)] w fun e w' => e = .returned (.bool true) ∧ w = w' := by
 obtain ⟨b0, b1, b2, b3, b4, b5, b6, n0, n1, n2, n3, n4, y0, y1, y2, y3, y4, f0, f1, f2, f3, f4, hB, p0, p1, p2, l0, l1, l2, l3, l4, e01, e02, e03, e04, e12, e13, e14, e23, e24, e34⟩ := h
 go_enter Tryz.func50, Tryz.ntmps50
 go_wp2
 go_ret
 exact ⟨rfl, rfl⟩
def SealAt (w : World) : Prop := w.cell? ⟨1, 0, none⟩ = some (.bool false) ∧ w.cell? ⟨1, 1, none⟩ = some (.bool true) ∧ w.cell? ⟨1, 2, none⟩ = some (.bool false) ∧ w.cell? ⟨1, 3, none⟩ = some (.bool false) ∧ w.cell? ⟨1, 4, none⟩ = some (.bool true) ∧ w.cell? ⟨1, 5, none⟩ = some (.int .i64 2)
end
theorem clr_bit : ∀ x, x < 1024 → ∀ i, i < 10 → ∀ j, j < 10 → (clr x i).testBit j = (x.testBit j && !(decide (i = j))) := by
 intro x hx i hi j hj
 unfold clr
 have e : 18446744073709551615 - 2 ^ i = 18446744073709551615 ^^^ 2 ^ i := by
  have : ∀ i, i < 10 → 18446744073709551615 - 2 ^ i = 18446744073709551615 ^^^ 2 ^ i := by decide
  exact this i hi
 rw [Nat.testBit_and, e, Nat.testBit_xor, Nat.testBit_two_pow]
 have h2 : ∀ j, j < 10 → (18446744073709551615 : Nat).testBit j = true := by decide
 rw [h2 j hj]
 simp
theorem clr_lt {x n i : Nat} (h : x < 2 ^ n) : clr x i < 2 ^ n := Nat.lt_of_le_of_lt Nat.and_le_left h
theorem TabAt.move {w w' : World} {col : Col} {q B : Nat} {s : TabS} {Z : Nat → Nat} (h : TabAt w col q B s Z) {a b va vb : Nat} (ha : a < 5) (hb : b < 5) (hab : a ≠ b) (hva : va < 2 ^ s.n) (hvb : vb < 2 ^ s.n)
 (O : Old ((w.setCell ⟨Z a, 1, none⟩ (.int .u64 ((va : Nat) : Int))).setCell ⟨Z b, 1, none⟩ (.int .u64 ((vb : Nat) : Int))) w') :
 TabAt w' col q B { s with x := fun k => if k = a then va else if k = b then vb else s.x k } Z ∧ Upd (fun k => k = Z a ∨ k = Z b) w w' := by
 have U : Upd (fun k => k = Z a ∨ k = Z b) w w' := (((Upd.refl _ _).setCell ⟨Z a, 1, none⟩ (.int .u64 ((va : Nat) : Int)) (.inl (.inl rfl))).setCell ⟨Z b, 1, none⟩ (.int .u64 ((vb : Nat) : Int)) (.inl (.inr rfl))).trans (O.mono (fun _ _ h => h.elim))
 refine ⟨?_, U⟩
 obtain ⟨⟨tB, bB⟩, z, cB, cZ, lo, hi, rn, bd⟩ := h
 have ne : ∀ a b, a < 5 → b < 5 → a ≠ b → Z a ≠ Z b := fun a b ha hb hab => col_ne (cZ a ha) (cZ b hb) (by simp; omega)
 refine ⟨⟨tB, U.has bB ?_⟩, ?_, cB, cZ, lo, hi, rn, ?_⟩
 ·rintro (h1 | h1)
  ·have := cZ a ha; rw [← h1, cB] at this; simp at this; omega
  ·have := cZ b hb; rw [← h1, cB] at this; simp at this; omega
 ·intro k hk
  obtain ⟨t, hz⟩ := z k hk
  refine ⟨t, O.has ?_⟩
  by_cases e1 : k = a
  ·subst e1
   have := (hz.set 1 (.int .u64 ((va : Nat) : Int))).setOther (a := ⟨Z b, 1, none⟩) (ne b k hb hk (Ne.symm hab)) (.int .u64 ((vb : Nat) : Int))
   simpa using this
  ·by_cases e2 : k = b
   ·subst e2
    have := (hz.setOther (a := ⟨Z a, 1, none⟩) (ne a k ha hk hab) (.int .u64 ((va : Nat) : Int))).set 1 (.int .u64 ((vb : Nat) : Int))
    simpa [e1] using this
   ·have := (hz.setOther (a := ⟨Z a, 1, none⟩) (ne a k ha hk (Ne.symm e1)) (.int .u64 ((va : Nat) : Int))).setOther (a := ⟨Z b, 1, none⟩) (ne b k hb hk (Ne.symm e2)) (.int .u64 ((vb : Nat) : Int))
    simpa [e1, e2] using this
 ·intro k hk
  simp only
  split
  ·exact hva
  ·split
   ·exact hvb
   ·exact bd k hk
theorem TabAt.other {w w' : World} {col col' : Col} {q B : Nat} {s : TabS} {Z : Nat → Nat} (h : TabAt w col q B s Z) {F : Nat → Prop} (U : Upd F w w') (hF : ∀ b, F b → (col b).1 ≠ q) (hc : Kept w col col') : TabAt w' col' q B s Z := by
 obtain ⟨⟨tB, bB⟩, z, cB, cZ, lo, hi, rn, bd⟩ := h
 refine ⟨⟨tB, U.has bB (fun h => hF _ h (by rw [cB]))⟩, ?_, by rw [hc _ bB.lt, cB], ?_, lo, hi, rn, bd⟩
 ·intro k hk
  obtain ⟨t, hz⟩ := z k hk
  exact ⟨t, U.has hz (fun h => hF _ h (by rw [cZ k hk]))⟩
 ·intro k hk
  obtain ⟨t, hz⟩ := z k hk
  rw [hc _ hz.lt, cZ k hk]
end Go.M
namespace Go.M
open Go.Proofs Go.RowKit
theorem tab_state {w : World} {B n r z0 z1 z2 z3 z4 x0 x1 x2 x3 x4 : Nat} (h : TabCells w B n r z0 z1 z2 z3 z4 x0 x1 x2 x3 x4) (i k : Nat) (hi : i < n) (hk : (k = 0 ∧ x0.testBit i = true) ∨ (k = 1 ∧ x0.testBit i = false ∧ x1.testBit i = true) ∨ (k = 2 ∧ x0.testBit i = false ∧ x1.testBit i = false ∧ x2.testBit i = true)) :
 Calls Tryz.prog 32 #[.pointer (some ⟨B, 0, none⟩), .int .i64 ((i : Nat) : Int)] w fun e w' => e = .returned (.tuple #[.int .i64 ((k : Nat) : Int), .int .i64 0]) ∧ w = w' := by
 have c0 : (decide ((i : Int) < 0) || decide ((n : Int) ≤ (i : Int))) = false := by simp; omega
 have HH := Lib.hid h
 have HK := Lib.hid hk
 obtain ⟨b0, b1, b2, b3, b4, b5, b6, n0, n1, n2, n3, n4, y0, y1, y2, y3, y4, f0, f1, f2, f3, f4, hB, p0, p1, p2, l0, l1, l2, l3, l4, e01, e02, e03, e04, e12, e13, e14, e23, e24, e34⟩ := h
 clear hk
 have k0 : ∀ w : World, (Instr.index 104 (.agg #[.pointer (some ⟨z0, 0, none⟩), .pointer (some ⟨z1, 0, none⟩), .pointer (some ⟨z2, 0, none⟩), .pointer (some ⟨z3, 0, none⟩), .pointer (some ⟨z4, 0, none⟩)]) (.int .i64 0)).run Tryz.prog w = .ok (.pointer (some ⟨z0, 0, none⟩)) w := fun _ => by kernel_rfl
 have k1 : ∀ w : World, (Instr.index 104 (.agg #[.pointer (some ⟨z0, 0, none⟩), .pointer (some ⟨z1, 0, none⟩), .pointer (some ⟨z2, 0, none⟩), .pointer (some ⟨z3, 0, none⟩), .pointer (some ⟨z4, 0, none⟩)]) (.int .i64 1)).run Tryz.prog w = .ok (.pointer (some ⟨z1, 0, none⟩)) w := fun _ => by kernel_rfl
 have k2 : ∀ w : World, (Instr.index 104 (.agg #[.pointer (some ⟨z0, 0, none⟩), .pointer (some ⟨z1, 0, none⟩), .pointer (some ⟨z2, 0, none⟩), .pointer (some ⟨z3, 0, none⟩), .pointer (some ⟨z4, 0, none⟩)]) (.int .i64 2)).run Tryz.prog w = .ok (.pointer (some ⟨z2, 0, none⟩)) w := fun _ => by kernel_rfl
 go_enter Tryz.func32, Tryz.ntmps32
 go_wp2_with (first | (go_at_call 50; refine (tab_valid HH.out).mono ?_; rintro e w1 ⟨rfl, rfl⟩) | (refine wpList_load_part rfl 104 (.tmp 25) rfl ⟨B, 2, none⟩ rfl [.pointer (some ⟨z0, 0, none⟩), .pointer (some ⟨z1, 0, none⟩), .pointer (some ⟨z2, 0, none⟩), .pointer (some ⟨z3, 0, none⟩), .pointer (some ⟨z4, 0, none⟩)] ?c1 _ Tryz.underlying104 rfl (by kernel_rfl) ?_) | go_in)
 case c1 =>
  intro j v hj
  match j with
  | 0 => cases hj; exact b2
  | 1 => cases hj; exact b3
  | 2 => cases hj; exact b4
  | 3 => cases hj; exact b5
  | 4 => cases hj; exact b6
  | j + 5 => simp at hj
 go_wp2
 refine wp_loop_rounds 3 ?_
 rw [rounds_succ]
 rcases HK.out with ⟨rfl, a0⟩ | ⟨rfl, a0, a1⟩ | ⟨rfl, a0, a1, a2⟩
 ·have A0 := Lib.hid a0
  clear a0
  go_wp2_with (first | (go_at_call 94; refine (set_has (B := z0) (n := n) (x := x0) (by exact n0) (by exact y0) p0 (by omega) hi (by omega)).mono ?_; rw [A0.out]; rintro e w1 ⟨rfl, rfl⟩))
  go_ret2
  exact ⟨rfl, rfl⟩
 ·have A0 := Lib.hid a0
  have A1 := Lib.hid a1
  clear a0 a1
  go_wp2_with (first | (go_at_call 94; refine (set_has (B := z0) (n := n) (x := x0) (by exact n0) (by exact y0) p0 (by omega) hi (by omega)).mono ?_; rw [A0.out]; rintro e w1 ⟨rfl, rfl⟩))
  rw [rounds_succ]
  go_wp2_with (first | (go_at_call 94; refine (set_has (B := z1) (n := n) (x := x1) (by exact n1) (by exact y1) p0 (by omega) hi (by omega)).mono ?_; rw [A1.out]; rintro e w1 ⟨rfl, rfl⟩))
  go_ret2
  exact ⟨rfl, rfl⟩
 ·have A0 := Lib.hid a0
  have A1 := Lib.hid a1
  have A2 := Lib.hid a2
  clear a0 a1 a2
  go_wp2_with (first | (go_at_call 94; refine (set_has (B := z0) (n := n) (x := x0) (by exact n0) (by exact y0) p0 (by omega) hi (by omega)).mono ?_; rw [A0.out]; rintro e w1 ⟨rfl, rfl⟩))
  rw [rounds_succ]
  go_wp2_with (first | (go_at_call 94; refine (set_has (B := z1) (n := n) (x := x1) (by exact n1) (by exact y1) p0 (by omega) hi (by omega)).mono ?_; rw [A1.out]; rintro e w1 ⟨rfl, rfl⟩))
  rw [rounds_succ]
  go_wp2_with (first | (go_at_call 94; refine (set_has (B := z2) (n := n) (x := x2) (by exact n2) (by exact y2) p0 (by omega) hi (by omega)).mono ?_; rw [A2.out]; rintro e w1 ⟨rfl, rfl⟩))
  go_ret2
  exact ⟨rfl, rfl⟩
end Go.M
