/- Walks 8. -/
import Derived.Test.YtjadmbkmlehfdaaGreatDoorProg
import Derived.Test.YtjadmbkmlehfdaaGreatDoorK5
import Derived.Test.YtjadmbkmlehfdaaGreatDoorK3
set_option linter.unusedVariables false
set_option linter.unusedSimpArgs false
set_option maxRecDepth 100000
namespace Go.M
open Go.Proofs Go.RowKit
theorem kinds_walk {w : World} :
 Calls Tryz.prog 268 #[] w fun e w' => e = .returned (.slice (some ⟨w.heap.size, 0, none⟩) 4 4) ∧ w.alloc (.cells #[.int .i64 0, .int .i64 0, .int .i64 0, .int .i64 0, .int .i64 0, .int .i64 0, .int .i64 1, .int .i64 32, .int .i64 0, .int .i64 512, .int .i64 1, .int .i64 1099511627776, .int .i64 1, .int .i64 32, .int .i64 0, .int .i64 0, .int .i64 1, .int .i64 1099511627776, .int .i64 0, .int .i64 0, .int .i64 0, .int .i64 65535, .int .i64 0, .int .i64 1099511627776] 324) = w' := by
 go_enter Tryz.func268, Tryz.ntmps268
 go_wp2
 go_ret
 exact ⟨rfl, rfl⟩
theorem has_walk {w : World} {a b x : Int} (h1 : a ≤ x) (h2 : x ≤ b) :
 Calls Tryz.prog 269 #[.agg #[.int .i64 a, .int .i64 b], .int .i64 x] w fun e w' => e = .returned (.bool true) ∧ w.alloc (.cells #[.int .i64 a, .int .i64 b] 322) = w' := by
 have e1 : decide (a ≤ x) = true := by simpa using h1
 have e2 : decide (x ≤ b) = true := by simpa using h2
 go_enter Tryz.func269, Tryz.ntmps269
 go_wp2
 go_ret
 exact ⟨rfl, rfl⟩
theorem hcheck_put {w : World} {sum key val seq : Int} (k1 : 1 ≤ key) (k2 : key ≤ 32) (v1 : 0 ≤ val) (v2 : val ≤ 512) (s1 : 1 ≤ seq) (s2 : seq ≤ 1099511627776) :
 Calls Tryz.prog 245 #[.agg #[.int .u32 sum, .int .i64 1, .int .i64 key, .int .i64 val, .int .i64 seq]] w fun e w' => e = .returned (.int .i64 0) ∧ Old w w' := by
 go_enter Tryz.func245, Tryz.ntmps245
 go_wp2_with (first | (go_at_call 268; refine kinds_walk.mono ?_; rintro e w1 ⟨rfl, rfl⟩) | (go_at_call 269; refine (has_walk (by omega) (by omega)).mono ?_; rintro e w1 ⟨rfl, rfl⟩))
 go_ret
 exact ⟨rfl, by repeat (first | exact Upd.refl _ _ | refine Upd.alloc ?_ _ | refine Upd.drew ?_ | refine Upd.drewN ?_ _ | (refine Upd.setCell ?_ _ _ (by simp)))⟩
theorem hcheck_del {w : World} {sum key val seq : Int} (k1 : 1 ≤ key) (k2 : key ≤ 32) (v1 : 0 ≤ val) (v2 : val ≤ 0) (s1 : 1 ≤ seq) (s2 : seq ≤ 1099511627776) :
 Calls Tryz.prog 245 #[.agg #[.int .u32 sum, .int .i64 2, .int .i64 key, .int .i64 val, .int .i64 seq]] w fun e w' => e = .returned (.int .i64 0) ∧ Old w w' := by
 go_enter Tryz.func245, Tryz.ntmps245
 go_wp2_with (first | (go_at_call 268; refine kinds_walk.mono ?_; rintro e w1 ⟨rfl, rfl⟩) | (go_at_call 269; refine (has_walk (by omega) (by omega)).mono ?_; rintro e w1 ⟨rfl, rfl⟩))
 go_ret
 exact ⟨rfl, by repeat (first | exact Upd.refl _ _ | refine Upd.alloc ?_ _ | refine Upd.drew ?_ | refine Upd.drewN ?_ _ | (refine Upd.setCell ?_ _ _ (by simp)))⟩
theorem hcheck_foot {w : World} {sum key val seq : Int} (k1 : 0 ≤ key) (k2 : key ≤ 0) (v1 : 0 ≤ val) (v2 : val ≤ 65535) (s1 : 0 ≤ seq) (s2 : seq ≤ 1099511627776) :
 Calls Tryz.prog 245 #[.agg #[.int .u32 sum, .int .i64 3, .int .i64 key, .int .i64 val, .int .i64 seq]] w fun e w' => e = .returned (.int .i64 0) ∧ Old w w' := by
 go_enter Tryz.func245, Tryz.ntmps245
 go_wp2_with (first | (go_at_call 268; refine kinds_walk.mono ?_; rintro e w1 ⟨rfl, rfl⟩) | (go_at_call 269; refine (has_walk (by omega) (by omega)).mono ?_; rintro e w1 ⟨rfl, rfl⟩))
 go_ret
 exact ⟨rfl, by repeat (first | exact Upd.refl _ _ | refine Upd.alloc ?_ _ | refine Upd.drew ?_ | refine Upd.drewN ?_ _ | (refine Upd.setCell ?_ _ _ (by simp)))⟩
theorem own_bytes {w : World} {v : Value} {n : Nat} {bs : List UInt8} (own : w.ownsRow 0 5 1 v n (bs.map bcell)) : BytesAt w v bs := by
 have hl : bs.length = n := by simpa using own.1
 rcases own.2 with ⟨h1, h2⟩ | ⟨g, c, cur, h1, _⟩
 ·have : bs = [] := List.eq_nil_of_length_eq_zero (by omega)
  exact .inl ⟨h1, this⟩
 ·subst h1
  exact .inr ⟨⟨g, 0, none⟩, c, by rw [hl], own.cells rfl⟩
def hdrB (sum kind key val seq : Nat) : Nat → List UInt8
 | 0 => []
 | 1 => leB sum 4
 | 2 => leB sum 4 ++ leB kind 1
 | 3 => leB sum 4 ++ leB kind 1 ++ leB key 1
 | 4 => leB sum 4 ++ leB kind 1 ++ leB key 1 ++ leB val 2
 | _ => leB sum 4 ++ leB kind 1 ++ leB key 1 ++ leB val 2 ++ leB seq 8
def hdrN : Nat → Nat
 | 0 => 0
 | 1 => 4
 | 2 => 5
 | 3 => 6
 | 4 => 8
 | _ => 16
theorem hwidths_walk {w : World} :
 Calls Tryz.prog 246 #[] w fun e w' => e = .returned (.slice (some ⟨w.heap.size, 0, none⟩) 5 5) ∧ w.alloc (.cells #[.int .i64 4, .int .i64 1, .int .i64 1, .int .i64 2, .int .i64 8] 3) = w' := by
 go_enter Tryz.func246, Tryz.ntmps246
 go_wp2
 go_ret
 exact ⟨rfl, rfl⟩
theorem hencode {w : World} {sum kind key val seq : Nat} (hs : sum < 4294967296) (hk : kind < 256) (hy : key < 256) (hv : val < 65536) (hq : seq < 1152921504606846976)
 (HC : ∀ w : World, Calls Tryz.prog 245 #[.agg #[.int .u32 ((sum : Nat) : Int), .int .i64 ((kind : Nat) : Int), .int .i64 ((key : Nat) : Int), .int .i64 ((val : Nat) : Int), .int .i64 ((seq : Nat) : Int)]] w fun e w' => e = .returned (.int .i64 0) ∧ Old w w') :
 Calls Tryz.prog 179 #[.agg #[.int .u32 ((sum : Nat) : Int), .int .i64 ((kind : Nat) : Int), .int .i64 ((key : Nat) : Int), .int .i64 ((val : Nat) : Int), .int .i64 ((seq : Nat) : Int)]] w (NewRow2 w 5 1 16 ((hdrB sum kind key val seq 5).map bcell)) := by
 have H := Lib.hid HC
 clear HC
 go_enter Tryz.func179, Tryz.ntmps179
 go_wp2_with (first | (go_at_call 245; refine (H.out _).mono ?_; rintro e w1 ⟨rfl, hO⟩; have c0 : w1.cell? ⟨w.heap.size, 0, none⟩ = some (.int .u32 ((sum : Nat) : Int)) := Old.cellOf' hO (by simp); have c1 : w1.cell? ⟨w.heap.size, 1, none⟩ = some (.int .i64 ((kind : Nat) : Int)) := Old.cellOf' hO (by simp); have c2 : w1.cell? ⟨w.heap.size, 2, none⟩ = some (.int .i64 ((key : Nat) : Int)) := Old.cellOf' hO (by simp); have c3 : w1.cell? ⟨w.heap.size, 3, none⟩ = some (.int .i64 ((val : Nat) : Int)) := Old.cellOf' hO (by simp); have c4 : w1.cell? ⟨w.heap.size, 4, none⟩ = some (.int .i64 ((seq : Nat) : Int)) := Old.cellOf' hO (by simp); have O1 := Lib.hid ((Upd.alloc (Upd.refl (fun _ => False) w) _).trans hO); clear hO) | (go_at_call 246; refine hwidths_walk.mono ?_; rintro e w2 ⟨rfl, rfl⟩))
 generalize hW : World.alloc (World.alloc w1 _) _ = W
 have x0 : W.cell? ⟨w1.heap.size, 0, none⟩ = some (.int .u64 ((sum : Nat) : Int)) := by subst hW; go_simp
 have x1 : W.cell? ⟨w1.heap.size, 1, none⟩ = some (.int .u64 ((kind : Nat) : Int)) := by subst hW; go_simp
 have x2 : W.cell? ⟨w1.heap.size, 2, none⟩ = some (.int .u64 ((key : Nat) : Int)) := by subst hW; go_simp
 have x3 : W.cell? ⟨w1.heap.size, 3, none⟩ = some (.int .u64 ((val : Nat) : Int)) := by subst hW; go_simp
 have x4 : W.cell? ⟨w1.heap.size, 4, none⟩ = some (.int .u64 ((seq : Nat) : Int)) := by subst hW; go_simp
 have y0 : W.cell? ⟨w1.heap.size + 1, 0, none⟩ = some (.int .i64 4) := by subst hW; go_simp
 have y1 : W.cell? ⟨w1.heap.size + 1, 1, none⟩ = some (.int .i64 1) := by subst hW; go_simp
 have y2 : W.cell? ⟨w1.heap.size + 1, 2, none⟩ = some (.int .i64 1) := by subst hW; go_simp
 have y3 : W.cell? ⟨w1.heap.size + 1, 3, none⟩ = some (.int .i64 2) := by subst hW; go_simp
 have y4 : W.cell? ⟨w1.heap.size + 1, 4, none⟩ = some (.int .i64 8) := by subst hW; go_simp
 have O2 : Hid (Old w W) := by subst hW; exact (O1.out.alloc _).alloc _
 clear hW c0 c1 c2 c3 c4 O1 H
 generalize w1.heap.size = A at *
 clear w1
 have X := Lib.hid (⟨x0, x1, x2, x3, x4, y0, y1, y2, y3, y4⟩ : _ ∧ _ ∧ _ ∧ _ ∧ _ ∧ _ ∧ _ ∧ _ ∧ _ ∧ _)
 clear x0 x1 x2 x3 x4 y0 y1 y2 y3 y4
 go_loopw [5, 34] (fun b i wr => ∃ j : Nat, j ≤ 5 ∧ i = .int .i64 j ∧ wr.ownsRow 0 5 1 b (hdrN j) ((hdrB sum kind key val seq j).map bcell) ∧ Old W wr ∧ (∀ k, b.ownBlock = some k → w.heap.size ≤ k)) (fun _ i _ => 5 - (intOf i).toNat)
 case atStart => exact ⟨0, Nat.zero_le _, rfl, World.ownsRow_nil _ _ _ _, Upd.refl _ _, fun k hk => by cases hk⟩
 case round =>
  obtain ⟨j, hj, rfl, hown, hO, hfr⟩ := hrel
  have HOW := Lib.hid hown
  have HOO := Lib.hid hO
  have HFR := Lib.hid hfr
  have hsl := own_slice hown
  clear hown hO hfr
  obtain ⟨ba, bc, rfl⟩ := hsl
  obtain ⟨x0, x1, x2, x3, x4, y0, y1, y2, y3, y4⟩ := X.out
  have x0 := Old.cellOf' HOO.out x0
  have x1 := Old.cellOf' HOO.out x1
  have x2 := Old.cellOf' HOO.out x2
  have x3 := Old.cellOf' HOO.out x3
  have x4 := Old.cellOf' HOO.out x4
  have y0 := Old.cellOf' HOO.out y0
  have y1 := Old.cellOf' HOO.out y1
  have y2 := Old.cellOf' HOO.out y2
  have y3 := Old.cellOf' HOO.out y3
  have y4 := Old.cellOf' HOO.out y4
  have hj6 : j = 0 ∨ j = 1 ∨ j = 2 ∨ j = 3 ∨ j = 4 ∨ j = 5 := by omega
  rcases hj6 with rfl | rfl | rfl | rfl | rfl | rfl
  ·go_wp2_with (first | (go_at_call 247; refine (append_walk (n := sum) (k := 4) (bs := hdrB sum kind key val seq 0) (own_bytes HOW.out) (by simp [hdrB, leB_length]) (by simp) (by omega)).mono ?_; rintro e w3 ⟨v3, rfl, hown3, hO3, hfr3⟩; have HOW3 := Lib.hid hown3; have HO3 := Lib.hid (HOO.out.trans hO3); have HF3 : Hid (∀ k, v3.ownBlock = some k → w.heap.size ≤ k) := (fun k hk => Nat.le_trans (O2.out.trans HOO.out).size (hfr3 k hk)); clear hown3 hO3 hfr3))
   go_roundw
   case rel => exact ⟨1, by omega, by go_num, by simpa [hdrB, hdrN, leB_length] using HOW3.out, HO3.out, HF3.out⟩
   case measure => simp [intOf]
  ·go_wp2_with (first | (go_at_call 247; refine (append_walk (n := kind) (k := 1) (bs := hdrB sum kind key val seq 1) (own_bytes HOW.out) (by simp [hdrB, leB_length]) (by simp) (by omega)).mono ?_; rintro e w3 ⟨v3, rfl, hown3, hO3, hfr3⟩; have HOW3 := Lib.hid hown3; have HO3 := Lib.hid (HOO.out.trans hO3); have HF3 : Hid (∀ k, v3.ownBlock = some k → w.heap.size ≤ k) := (fun k hk => Nat.le_trans (O2.out.trans HOO.out).size (hfr3 k hk)); clear hown3 hO3 hfr3))
   go_roundw
   case rel => exact ⟨2, by omega, by go_num, by simpa [hdrB, hdrN, leB_length] using HOW3.out, HO3.out, HF3.out⟩
   case measure => simp [intOf]
  ·go_wp2_with (first | (go_at_call 247; refine (append_walk (n := key) (k := 1) (bs := hdrB sum kind key val seq 2) (own_bytes HOW.out) (by simp [hdrB, leB_length]) (by simp) (by omega)).mono ?_; rintro e w3 ⟨v3, rfl, hown3, hO3, hfr3⟩; have HOW3 := Lib.hid hown3; have HO3 := Lib.hid (HOO.out.trans hO3); have HF3 : Hid (∀ k, v3.ownBlock = some k → w.heap.size ≤ k) := (fun k hk => Nat.le_trans (O2.out.trans HOO.out).size (hfr3 k hk)); clear hown3 hO3 hfr3))
   go_roundw
   case rel => exact ⟨3, by omega, by go_num, by simpa [hdrB, hdrN, leB_length] using HOW3.out, HO3.out, HF3.out⟩
   case measure => simp [intOf]
  ·go_wp2_with (first | (go_at_call 247; refine (append_walk (n := val) (k := 2) (bs := hdrB sum kind key val seq 3) (own_bytes HOW.out) (by simp [hdrB, leB_length]) (by simp) (by omega)).mono ?_; rintro e w3 ⟨v3, rfl, hown3, hO3, hfr3⟩; have HOW3 := Lib.hid hown3; have HO3 := Lib.hid (HOO.out.trans hO3); have HF3 : Hid (∀ k, v3.ownBlock = some k → w.heap.size ≤ k) := (fun k hk => Nat.le_trans (O2.out.trans HOO.out).size (hfr3 k hk)); clear hown3 hO3 hfr3))
   go_roundw
   case rel => exact ⟨4, by omega, by go_num, by simpa [hdrB, hdrN, leB_length] using HOW3.out, HO3.out, HF3.out⟩
   case measure => simp [intOf]
  ·go_wp2_with (first | (go_at_call 247; refine (append_walk (n := seq) (k := 8) (bs := hdrB sum kind key val seq 4) (own_bytes HOW.out) (by simp [hdrB, leB_length]) (by simp) (by omega)).mono ?_; rintro e w3 ⟨v3, rfl, hown3, hO3, hfr3⟩; have HOW3 := Lib.hid hown3; have HO3 := Lib.hid (HOO.out.trans hO3); have HF3 : Hid (∀ k, v3.ownBlock = some k → w.heap.size ≤ k) := (fun k hk => Nat.le_trans (O2.out.trans HOO.out).size (hfr3 k hk)); clear hown3 hO3 hfr3))
   go_roundw
   case rel => exact ⟨5, by omega, by go_num, by simpa [hdrB, hdrN, leB_length] using HOW3.out, HO3.out, HF3.out⟩
   case measure => simp [intOf]
  ·go_wp2
   go_ret2
   exact ⟨_, rfl, HOW.out, O2.out.trans HOO.out, HFR.out⟩
def isLet (c : UInt8) : Bool := (#[45, 46, 48, 49, 50, 51, 52, 53, 54, 55, 56, 57, 95, 97, 98, 99, 100, 101, 102, 103, 104, 105, 106, 107, 108, 109, 110, 111, 112, 113, 114, 115, 116, 117, 118, 119, 120, 121, 122] : Array UInt8).contains c
theorem let_first : ∀ c : Nat, c < 256 → isLet (UInt8.ofNat c) = true → c < 128 ∧ 0 ≤ firstIdx ⟨#[45, 46, 48, 49, 50, 51, 52, 53, 54, 55, 56, 57, 95, 97, 98, 99, 100, 101, 102, 103, 104, 105, 106, 107, 108, 109, 110, 111, 112, 113, 114, 115, 116, 117, 118, 119, 120, 121, 122]⟩ (UInt8.ofNat c) := by decide +kernel
theorem contains_rune {w : World} {c : UInt8} (hc : isLet c = true) :
 Calls Tryz.prog 261 #[.string ⟨#[45, 46, 48, 49, 50, 51, 52, 53, 54, 55, 56, 57, 95, 97, 98, 99, 100, 101, 102, 103, 104, 105, 106, 107, 108, 109, 110, 111, 112, 113, 114, 115, 116, 117, 118, 119, 120, 121, 122]⟩, .int .i32 ((c.toNat : Nat) : Int)] w fun e w' => e = .returned (.bool true) ∧ w = w' := by
 have hlt : c.toNat < 256 := c.toNat_lt
 obtain ⟨h128, hfi⟩ := let_first c.toNat hlt (by simpa using hc)
 obtain ⟨n, hn⟩ : ∃ n, c.toNat = n := ⟨_, rfl⟩
 have hfn : ∃ k : Nat, firstIdx ⟨#[45, 46, 48, 49, 50, 51, 52, 53, 54, 55, 56, 57, 95, 97, 98, 99, 100, 101, 102, 103, 104, 105, 106, 107, 108, 109, 110, 111, 112, 113, 114, 115, 116, 117, 118, 119, 120, 121, 122]⟩ (UInt8.ofNat n) = (k : Int) := by
  rw [← hn]
  exact Int.eq_ofNat_of_zero_le hfi
 obtain ⟨k, hk⟩ := hfn
 have hx : ∀ w : World, (callFunc 286 #[.string ⟨#[45, 46, 48, 49, 50, 51, 52, 53, 54, 55, 56, 57, 95, 97, 98, 99, 100, 101, 102, 103, 104, 105, 106, 107, 108, 109, 110, 111, 112, 113, 114, 115, 116, 117, 118, 119, 120, 121, 122]⟩, .int .u8 ((n : Nat) : Int)]).run Tryz.prog w = .ok (.value (.int .i64 ((k : Nat) : Int))) w := fun w =>
  callFunc_ext' (fn := Tryz.f286) (by kernel_rfl) (by kernel_rfl) (by kernel_rfl) (by kernel_rfl) (g := Extern.BytealgIndexByte.indexByte) (by kernel_rfl) (by
   have h2 := run_indexByte_string (P := Tryz.prog) ⟨#[45, 46, 48, 49, 50, 51, 52, 53, 54, 55, 56, 57, 95, 97, 98, 99, 100, 101, 102, 103, 104, 105, 106, 107, 108, 109, 110, 111, 112, 113, 114, 115, 116, 117, 118, 119, 120, 121, 122]⟩ ((n : Nat) : Int) w
   rw [h2]
   have : (((n : Nat) : Int).toNat.toUInt8) = UInt8.ofNat n := rfl
   rw [this, hk])
 rw [hn]
 rw [hn] at h128
 have p0 : (0 : Int) ≤ (n : Int) := by omega
 have p1 : n < 128 := h128
 clear hc hn hk hfi hlt
 go_enter Tryz.func261, Tryz.ntmps261
 go_wp2
 go_ret
 exact ⟨rfl, rfl⟩
def posOf (w : World) (b : Nat) : Nat := match w.heap[b]? with | some (.stringIter _ p) => p | _ => 0
theorem posOf_iter (w : World) (s : ByteArray) (p : Nat) : posOf (w.iter s p) w.heap.size = p := by
 unfold posOf
 rw [World.iter_heap]
theorem key_check {w : World} {s : ByteArray} (h0 : 0 < s.size) (h32 : s.size ≤ 32) (hs : ∀ i (h : i < s.size), isLet (s[i]'h) = true) :
 Calls Tryz.prog 213 #[.string s] w fun e w' => e = .returned (.int .i64 0) ∧ Old w w' := by
 have H := Lib.hid hs
 clear hs
 go_enter Tryz.func213, Tryz.ntmps213
 go_wp2
 go_loopw [4] (fun _ wr => ∃ i, i ≤ s.size ∧ wr = w.iter s i) (fun _ wr => s.size - posOf wr w.heap.size)
 case atStart => exact ⟨0, Nat.zero_le _, rfl⟩
 case round =>
  obtain ⟨i, hi, rfl⟩ := hrel
  by_cases hlt : i < s.size
  ·have hc := H.out i hlt
   have ha : (s[i]'hlt).toNat < 128 := (let_first (s[i]'hlt).toNat (s[i]'hlt).toNat_lt (by simpa using hc)).1
   have hnx := fun ty => run_next_ascii (P := Tryz.prog) w s i ty hlt ha
   have HR := Lib.hid (contains_rune (w := w.iter s (i + 1)) hc)
   have HP1 := Lib.hid (posOf_iter w s i)
   have HP2 := Lib.hid (posOf_iter w s (i + 1))
   clear hc ha
   go_wp2_with (first | (go_at_call 261; refine HR.out.mono ?_; rintro e w1 ⟨rfl, rfl⟩))
   go_roundw
   case rel => exact ⟨i + 1, by omega, rfl⟩
   case measure => rw [HP1.out, HP2.out]; omega
  ·obtain rfl : i = s.size := by omega
   have hnx := fun ty => run_next_end (P := Tryz.prog) w s s.size ty (by omega)
   have e2 : s.toList.isEmpty = false := by
    rw [ByteArray.toList_eq]
    have hl : s.data.toList.length = s.size := by show s.data.toList.length = s.data.size; exact Array.length_toList
    cases hh : s.data.toList with
    | nil => rw [hh] at hl; simp only [List.length_nil] at hl; omega
    | cons a l => rfl
   clear H
   go_wp2
   go_ret
   exact ⟨rfl, (Upd.refl _ _).alloc _⟩
def KeyOk (s : ByteArray) : Prop := 0 < s.size ∧ s.size ≤ 32 ∧ ∀ i (h : i < s.size), isLet (s[i]'h) = true
theorem rcheck_put {w : World} {seq : Int} {key val : ByteArray} (hk : KeyOk key) (s1 : 1 ≤ seq) (s2 : seq ≤ 1099511627776) (hv : val.size ≤ 512) :
 Calls Tryz.prog 178 #[.agg #[.int .i64 1, .int .i64 seq, .string key, .string val]] w fun e w' => e = .returned (.int .i64 0) ∧ Old w w' := by
 have HK := Lib.hid (fun w : World => key_check (w := w) hk.1 hk.2.1 hk.2.2)
 clear hk
 go_enter Tryz.func178, Tryz.ntmps178
 go_wp2_with (first | (go_at_call 213; refine (HK.out _).mono ?_; rintro e w1 ⟨rfl, hO⟩; have c0 : w1.cell? ⟨w.heap.size, 0, none⟩ = some (.int .i64 1) := Old.cellOf' hO (by simp); have c3 : w1.cell? ⟨w.heap.size, 3, none⟩ = some (.string val) := Old.cellOf' hO (by simp); have O1 := Lib.hid ((Upd.alloc (Upd.refl (fun _ => False) w) _).trans hO); clear hO) | go_in)
 go_ret
 exact ⟨rfl, O1.out⟩
theorem rcheck_del {w : World} {seq : Int} {key : ByteArray} (hk : KeyOk key) (s1 : 1 ≤ seq) (s2 : seq ≤ 1099511627776) :
 Calls Tryz.prog 178 #[.agg #[.int .i64 2, .int .i64 seq, .string key, .string ⟨#[]⟩]] w fun e w' => e = .returned (.int .i64 0) ∧ Old w w' := by
 have HK := Lib.hid (fun w : World => key_check (w := w) hk.1 hk.2.1 hk.2.2)
 clear hk
 go_enter Tryz.func178, Tryz.ntmps178
 go_wp2_with (first | (go_at_call 213; refine (HK.out _).mono ?_; rintro e w1 ⟨rfl, hO⟩; have c0 : w1.cell? ⟨w.heap.size, 0, none⟩ = some (.int .i64 2) := Old.cellOf' hO (by simp); have c3 : w1.cell? ⟨w.heap.size, 3, none⟩ = some (.string ⟨#[]⟩) := Old.cellOf' hO (by simp); have O1 := Lib.hid ((Upd.alloc (Upd.refl (fun _ => False) w) _).trans hO); clear hO) | go_in)
 go_ret
 exact ⟨rfl, O1.out⟩
structure EntOk1 (e : Ent) : Prop where
 key : KeyOk e.key
 s1 : 1 ≤ e.seq
 s2 : e.seq ≤ 1099511627776
 z1 : 16 + e.key.size ≤ e.size
 z2 : e.size = 16 + e.key.size ∨ e.del = false
 z3 : e.off + e.size ≤ 8192
theorem evalid {w : World} {e : Ent} (h : EntOk1 e) :
 Calls Tryz.prog 131 #[e.val] w fun en w' => en = .returned (.bool true) ∧ Old w w' := by
 obtain ⟨hk, s1, s2, z1, z2, z3⟩ := h
 have HK := Lib.hid (fun w : World => key_check (w := w) hk.1 hk.2.1 hk.2.2)
 have k2 := hk.2.1
 clear hk
 obtain ⟨seq, key, del, slot, off, size⟩ := e
 unfold Ent.val
 simp only at *
 have E : Hid (∀ w' : World, Old (w.alloc (.cells #[.int .i64 ((seq : Nat) : Int), .string key, .bool del, .int .i64 ((slot : Nat) : Int), .int .i64 ((off : Nat) : Int), .int .i64 ((size : Nat) : Int)] 47)) w' → w'.cell? ⟨w.heap.size, 0, none⟩ = some (.int .i64 ((seq : Nat) : Int)) ∧ w'.cell? ⟨w.heap.size, 1, none⟩ = some (.string key) ∧ w'.cell? ⟨w.heap.size, 2, none⟩ = some (.bool del) ∧ w'.cell? ⟨w.heap.size, 4, none⟩ = some (.int .i64 ((off : Nat) : Int)) ∧ w'.cell? ⟨w.heap.size, 5, none⟩ = some (.int .i64 ((size : Nat) : Int)) ∧ Old w w') :=
  fun w' O => ⟨Old.cellOf' O (by simp), Old.cellOf' O (by simp), Old.cellOf' O (by simp), Old.cellOf' O (by simp), Old.cellOf' O (by simp), ((Upd.refl _ w).alloc _).trans O⟩
 have hb : (decide ((size : Int) = 16 + (key.size : Int)) || !del) = true := by
  rcases z2 with h | rfl
  ·simp; left; omega
  ·simp
 go_enter Tryz.func131, Tryz.ntmps131
 go_wp2_with (first | (go_at_call 213; refine (HK.out _).mono ?_; rintro e w1 ⟨rfl, hO⟩; obtain ⟨c0, c1, c2, c4, c5, hO1⟩ := E.out _ hO; have HO := Lib.hid hO1; clear hO hO1))
 ·go_ret
  refine ⟨congrArg Ending.returned (congrArg Value.bool ?_), HO.out⟩
  simp; omega
 ·exfalso
  rcases z2 with h | h
  ·omega
  ·simp_all
 ·go_ret
  refine ⟨congrArg Ending.returned (congrArg Value.bool ?_), HO.out⟩
  simp; omega
end Go.M
