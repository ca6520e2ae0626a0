/- Walks 6. -/
import Derived.Test.YtnmkiflnonafbaaGreatDoorProg
import Derived.Test.YtnmkiflnonafbaaGreatDoorK4
set_option linter.unusedVariables false
set_option linter.unusedSimpArgs false
set_option maxRecDepth 100000
namespace Go.M
open Go.Proofs Go.RowKit
theorem ZcF {a b : Bool} (h : a = b) : Ending.returned (.bool a) = .returned (.bool b) := by rw [h]
def Zr7 (k : Nat) : Nat := if k = 1 then 0 else if k = 2 then 1 else if k = 4 then 2 else 3
theorem ZkD {w : World} {B k : Nat} (hk : k = 1 ∨ k = 2 ∨ k = 4 ∨ k = 8) (c0 : w.cell? ⟨B, 0, none⟩ = some (.int .i64 1)) (c1 : w.cell? ⟨B, 1, none⟩ = some (.int .i64 2)) (c2 : w.cell? ⟨B, 2, none⟩ = some (.int .i64 4)) (c3 : w.cell? ⟨B, 3, none⟩ = some (.int .i64 8)) :
 Calls Tryz.prog 225 #[.slice (some ⟨B, 0, none⟩) 4 4, .int .i64 ((k : Nat) : Int)] w fun e w' => e = .returned (.int .i64 ((Zr7 k : Nat) : Int)) ∧ w = w' := by
 rcases hk with rfl | rfl | rfl | rfl
 ·go_enter Tryz.func225, Tryz.ntmps225
  go_wp2;refine wp_loop_rounds 1 ?_;rw [rounds_succ];go_wp2;go_ret;exact ⟨rfl, rfl⟩
 ·go_enter Tryz.func225, Tryz.ntmps225
  go_wp2;refine wp_loop_rounds 2 ?_;rw [rounds_succ];go_wp2;rw [rounds_succ];go_wp2;go_ret;exact ⟨rfl, rfl⟩
 ·go_enter Tryz.func225, Tryz.ntmps225
  go_wp2;refine wp_loop_rounds 3 ?_;rw [rounds_succ];go_wp2;rw [rounds_succ];go_wp2;rw [rounds_succ];go_wp2;go_ret;exact ⟨rfl, rfl⟩
 ·go_enter Tryz.func225, Tryz.ntmps225
  go_wp2;refine wp_loop_rounds 4 ?_;rw [rounds_succ];go_wp2;rw [rounds_succ];go_wp2;rw [rounds_succ];go_wp2;rw [rounds_succ];go_wp2;go_ret;exact ⟨rfl, rfl⟩
theorem Zgw : (Tryz.prog.info? 5).map (fun i => (i.zero, i.size, i.bytes)) = some (some (.int .u8 0), 1, 1) := by kernel_rfl
def Zcf (w : World) (e : TypeId) (k n : Nat) (xs : List Value) (en : Ending) (w' : World) : Prop :=
 ∃ v', en = .returned v' ∧ w'.ownsRow 0 e k v' n xs ∧ Old w w' ∧ (∀ b, v'.ownBlock = some b → w.heap.size ≤ b)
theorem Zms {w : World} :
 Calls Tryz.prog 190 #[.slice none 0 0] w (Zcf w 5 1 0 []) := by
 have hq : ∀ w : World, (binOp .eql 41 (.slice none 0 0) (.slice none 0 0)).run Tryz.prog w = .ok (.bool true) w := fun w => Lib.run_eql_slice_nil w _ _ _ _ _ _ _ Tryz.underlying41
 go_enter Tryz.func190, Tryz.ntmps190
 go_wp2;go_ret;exact ⟨_, rfl, World.ownsRow_nil _ _ _ _, Upd.refl _ _, fun b hb => by cases hb⟩
theorem ZkE {w : World} {ad : Addr} {n c : Nat} {xs : List Value} (hl : xs.length = n) (he : ∀ j u, xs[j]? = some u → w.cell? (ad.add j) = some u) (h1 : ∀ u ∈ xs, u.oneCell' = true) (hn : n ≤ 100000) :
 Calls Tryz.prog 190 #[.slice (some ad) n c] w (Zcf w 5 1 n xs) := by
 obtain ⟨i0, hi0, hz0, hz1, hz2⟩ := info_parts Zgw;have hq : ∀ w : World, (binOp .eql 41 (.slice (some ad) n c) (.slice none 0 0)).run Tryz.prog w = .ok (.bool false) w := fun w => Lib.run_eql_slice_nil w _ _ _ _ _ _ _ Tryz.underlying41
 have HE := Lib.hid he;have HW : ∀ o : Obj, Hid (∀ j u, xs[j]? = some u → (w.alloc o).cell? (ad.add j) = some u) := fun o j u hj => Old.cellOf' ((Upd.refl _ w).alloc o) (he j u hj)
 have HL := Lib.hid hl;clear he hl
 go_enter Tryz.func190, Tryz.ntmps190
 go_wp2_with (first | (at_builtin; refine Zam rfl (.tmp 5) (.tmp 6) 41 rfl 5 i0 (.int .u8 0) 1 1 Tryz.underlying41 hi0 hz0 hz1 hz2 rfl (by decide) (.slice (some ⟨w.heap.size, 0, none⟩) 0 0) 0 [] rfl ?c0 ad n c xs rfl (by rw [HL.out]; omega) (by exact (HW _).out) h1 (by unfold maxLen; omega) (by omega) ?_))
 case c0 => exact ⟨rfl, .inr ⟨w.heap.size, 0, #[], rfl, Nat.zero_le _, heap_alloc_new _ _, Nat.le_refl _, Nat.zero_le _, rfl, rfl⟩⟩
 intro v' w1 hown' hgrow hnil hfresh;go_wp2;go_ret;refine ⟨_, rfl, by simpa using hown', ((Upd.refl _ w).alloc _).grown hgrow (fun k hk => .inr ?_), fun b hb => ?_⟩
 ·simp [Value.ownBlock] at hk; omega
 ·rcases hfresh b hb with h | h
  ·have : w.heap.size = b := by simpa [Value.ownBlock] using h
   omega
  ·exact Nat.le_trans (by simp) h
theorem Zc5 {w : World} :
 Calls Tryz.prog 213 #[] w fun e w' => e = .returned (.slice (some ⟨w.heap.size, 0, none⟩) 4 4) ∧ w.alloc (.cells #[.int .i64 1, .int .i64 2, .int .i64 4, .int .i64 8] 3) = w' := by
 go_enter Tryz.func213, Tryz.ntmps213
 go_wp2;go_ret;exact ⟨rfl, rfl⟩
theorem Zdw {w : World} {B k : Nat} (hk : k = 1 ∨ k = 2 ∨ k = 4 ∨ k = 8) (c0 : w.cell? ⟨B, 0, none⟩ = some (.int .i64 1)) (c1 : w.cell? ⟨B, 1, none⟩ = some (.int .i64 2)) (c2 : w.cell? ⟨B, 2, none⟩ = some (.int .i64 4)) (c3 : w.cell? ⟨B, 3, none⟩ = some (.int .i64 8)) :
 Calls Tryz.prog 212 #[.slice (some ⟨B, 0, none⟩) 4 4, .int .i64 ((k : Nat) : Int)] w fun e w' => e = .returned (.bool true) ∧ w = w' := by
 have HI := Lib.hid (ZkD hk c0 c1 c2 c3);clear hk c0 c1 c2 c3
 go_enter Tryz.func212, Tryz.ntmps212
 go_wp2_with (first | (go_at_call 225; refine HI.out.mono ?_; rintro e w1 ⟨rfl, rfl⟩))
 go_ret;exact ⟨rfl, rfl⟩
theorem Zmt {w : World} {n k : Nat} (hk : k = 1 ∨ k = 2 ∨ k = 4 ∨ k = 8) (hn : n < 2 ^ (8 * k)) :
 Calls Tryz.prog 214 #[.int .u64 ((n : Nat) : Int), .int .i64 ((k : Nat) : Int)] w fun e w' => e = .returned (.bool true) ∧ w.alloc (.cells #[.int .i64 1, .int .i64 2, .int .i64 4, .int .i64 8] 3) = w' := by
 have HC := Lib.hid (Zdw (w := w.alloc (.cells #[.int .i64 1, .int .i64 2, .int .i64 4, .int .i64 8] 3)) (B := w.heap.size) hk (by simp) (by simp) (by simp) (by simp))
 by_cases h8 : k = 8
 ·subst h8;clear hk hn
  go_enter Tryz.func214, Tryz.ntmps214
  go_wp2_with (first | (go_at_call 213; refine Zc5.mono ?_; rintro e w1 ⟨rfl, rfl⟩) | (go_at_call 212; refine HC.out.mono ?_; rintro e w1 ⟨rfl, rfl⟩))
  go_ret;exact ⟨rfl, rfl⟩
 ·have e1 : ((k : Int) == 8) = false := by rw [beq_eq_false_iff_ne]; omega
  have e2 : (n : Int) / 2 ^ (8 * k) = 0 := by
   have : ((2 : Int) ^ (8 * k)) = ((2 ^ (8 * k) : Nat) : Int) := by simp
   rw [this]; exact Int.ediv_eq_zero_of_lt (by omega) (by omega)
  have hk7 : k ≤ 7 := by omega
  have E2 := Lib.hid e2;clear hk hn e2
  go_enter Tryz.func214, Tryz.ntmps214
  go_wp2_with (first | (go_at_call 213; refine Zc5.mono ?_; rintro e w1 ⟨rfl, rfl⟩) | (go_at_call 212; refine HC.out.mono ?_; rintro e w1 ⟨rfl, rfl⟩))
  go_ret;exact ⟨ZcF (by rw [E2.out]; rfl), rfl⟩
def leB (n k : Nat) : List UInt8 := (List.range k).map fun i => UInt8.ofNat (n / 2 ^ (8 * i) % 256)
theorem ZnQ (n k : Nat) : leB n (k + 1) = leB n k ++ [UInt8.ofNat (n / 2 ^ (8 * k) % 256)] := by simp [leB, List.range_succ]
theorem ZaG (n k : Nat) : (leB n k).length = k := by simp [leB]
def ZiG (w : World) (e : TypeId) (k n : Nat) (xs : List Value) (en : Ending) (w' : World) : Prop :=
 ∃ v', en = .returned (.tuple #[v', .int .i64 0]) ∧ w'.ownsRow 0 e k v' n xs ∧ Old w w' ∧ (∀ b, v'.ownBlock = some b → w.heap.size ≤ b)
def BytesAt (w : World) (v : Value) (bs : List UInt8) : Prop := (v = .slice none 0 0 ∧ bs = []) ∨ ∃ ad c, v = .slice (some ad) bs.length c ∧ ∀ j u, (bs.map Zav)[j]? = some u → w.cell? (ad.add j) = some u
theorem BytesAt.old {w w' : World} {v : Value} {bs : List UInt8} (h : BytesAt w v bs) (O : Old w w') : BytesAt w' v bs := by
 rcases h with h | ⟨ad, c, h1, h2⟩
 ·exact .inl h
 ·exact .inr ⟨ad, c, h1, fun j u hj => Old.cellOf' O (h2 j u hj)⟩
theorem ZhJ (bs : List UInt8) : ∀ u ∈ bs.map Zav, u.oneCell' = true := by
 intro u hu;obtain ⟨x, _, rfl⟩ := List.mem_map.1 hu;rfl
theorem ZdU {w : World} {v : Value} {bs : List UInt8} (h : BytesAt w v bs) (hn : bs.length ≤ 100000) :
 Calls Tryz.prog 190 #[v] w (Zcf w 5 1 bs.length (bs.map Zav)) := by
 rcases h with ⟨rfl, rfl⟩ | ⟨ad, c, rfl, h2⟩
 ·exact Zms
 ·exact ZkE (by simp) h2 (ZhJ bs) hn
theorem ZbE {w : World} {v : Value} {bs : List UInt8} {n k : Nat} (h : BytesAt w v bs) (hb : bs.length ≤ 10000) (hk : k = 1 ∨ k = 2 ∨ k = 4 ∨ k = 8) (hn : n < 2 ^ (8 * k)) :
 Calls Tryz.prog 178 #[v, .int .u64 ((n : Nat) : Int), .int .i64 ((k : Nat) : Int)] w (ZiG w 5 1 (bs.length + k) ((bs ++ leB n k).map Zav)) := by
 have hv : ∃ a c, v = .slice a bs.length c := by
  rcases h with ⟨rfl, rfl⟩ | ⟨ad, c, rfl, h2⟩
  ·exact ⟨none, 0, rfl⟩
  ·exact ⟨_, _, rfl⟩
 have hk8 : k ≤ 8 := by omega
 obtain ⟨va, vc, rfl⟩ := hv;obtain ⟨i0, hi0, hz0, hz1, hz2⟩ := info_parts Zgw;have HC := Lib.hid (Zdw (w := w.alloc (.cells #[.int .i64 1, .int .i64 2, .int .i64 4, .int .i64 8] 3)) (B := w.heap.size) hk (by simp) (by simp) (by simp) (by simp))
 have HF := Lib.hid (fun w : World => Zmt (w := w) hk hn)
 have HB := Lib.hid h;clear h hk hn
 go_enter Tryz.func178, Tryz.ntmps178
 go_wp2_with (first | (go_at_call 213; refine Zc5.mono ?_; rintro e w1 ⟨rfl, rfl⟩) | (go_at_call 212; refine HC.out.mono ?_; rintro e w1 ⟨rfl, rfl⟩) | (go_at_call 214; refine (HF.out _).mono ?_; rintro e w1 ⟨rfl, rfl⟩) | (go_at_call 190; refine (ZdU (HB.out.old (((Upd.refl _ w).alloc _).alloc _)) (by omega)).mono ?_; rintro e w1 ⟨v1, rfl, hown, hO, hfr⟩))
 have O1 := Lib.hid ((((Upd.refl (fun _ => False) w).alloc (.cells #[.int .i64 1, .int .i64 2, .int .i64 4, .int .i64 8] 3)).alloc (.cells #[.int .i64 1, .int .i64 2, .int .i64 4, .int .i64 8] 3)).trans hO)
 have hfr1 : ∀ b, v1.ownBlock = some b → w.heap.size ≤ b := fun b hb => Nat.le_trans (by simp; omega) (hfr b hb)
 clear hO hfr HC HF HB
 go_loopw [8, 23] (fun out i wr => ∃ j : Nat, j ≤ k ∧ i = .int .i64 j ∧ wr.ownsRow 0 5 1 out (bs.length + j) ((bs ++ leB n j).map Zav) ∧ Old w wr ∧ (∀ b, out.ownBlock = some b → w.heap.size ≤ b)) (fun _ i _ => k - (intOf i).toNat)
 case atStart => exact ⟨0, Nat.zero_le _, rfl, by simpa [leB] using hown, O1.out, hfr1⟩
 case round =>
  obtain ⟨j, hj, rfl, hown2, hO2, hfr2⟩ := hrel;clear hown hfr1 O1;obtain ⟨oa, oc, rfl⟩ := Zac hown2
  by_cases hlt : j < k
  ·have HOW := Lib.hid hown2;have HOO := Lib.hid hO2;have HFR := Lib.hid hfr2;clear hown2 hO2 hfr2
   go_wp2_with (first | (at_builtin; refine Zam rfl (.tmp 26) (.tmp 32) 41 rfl 5 i0 (.int .u8 0) 1 1 Tryz.underlying41 hi0 hz0 hz1 hz2 rfl (by decide) (.slice oa (bs.length + j) oc) (bs.length + j) ((bs ++ leB n j).map Zav) rfl (HOW.out.alloc _) ⟨wr.heap.size, 0, none⟩ 1 1 [_] rfl rfl (Ze5 _ _ _) (by simp [Value.oneCell']) (by unfold maxLen; omega) (by omega) ?_; intro v2 w2 hown3 hgrow3 _ hfresh3; obtain ⟨a3, c3, rfl⟩ := Zac hown3))
   have hby : Value.int .u8 ((n : Int) / 2 ^ (8 * j) % 256) = Zav (UInt8.ofNat (n / 2 ^ (8 * j) % 256)) := by
    unfold Zav;have e1 : ((2 : Int) ^ (8 * j)) = ((2 ^ (8 * j) : Nat) : Int) := by simp
    have e2 : (UInt8.ofNat (n / 2 ^ (8 * j) % 256)).toNat = n / 2 ^ (8 * j) % 256 := by simp
    rw [e1, e2];simp
   rw [hby] at hown3;have hown4 : Hid (w2.ownsRow 0 5 1 (.slice a3 (bs.length + j + 1) c3) (bs.length + (j + 1)) ((bs ++ leB n (j + 1)).map Zav)) := by
    have := hown3;rw [ZnQ, ← List.append_assoc, List.map_append (l₁ := bs ++ leB n j)];exact this
   have hfr4 : Hid (∀ b, (Value.slice a3 (bs.length + j + 1) c3).ownBlock = some b → w.heap.size ≤ b) := fun b hb => by
    rcases hfresh3 b hb with h | h
    ·exact HFR.out b h
    ·exact Nat.le_trans HOO.out.size (Nat.le_trans (by simp) h)
   have hO4 : Hid (Old w w2) := (HOO.out.alloc _).grown hgrow3 (fun b hb => .inr (HFR.out b hb))
   clear hown3 hgrow3 hfresh3 hby;go_wp2
   go_roundw
   case rel => exact ⟨j + 1, by omega, by go_num, by exact hown4.out, hO4.out, hfr4.out⟩
   case measure => simp [intOf]; omega
  ·obtain rfl : j = k := by omega
   have HOW := Lib.hid hown2;have HOO := Lib.hid hO2;have HFR := Lib.hid hfr2;clear hown2 hO2 hfr2;go_wp2;go_ret2;exact ⟨_, rfl, HOW.out, HOO.out, HFR.out⟩
theorem ZdV {w : World} :
 Calls Tryz.prog 210 #[] w fun e w' => e = .returned (.slice (some ⟨w.heap.size, 0, none⟩) 4 4) ∧ w.alloc (.cells #[.int .i64 0, .int .i64 0, .int .i64 0, .int .i64 0, .int .i64 0, .int .i64 0, .int .i64 1, .int .i64 32, .int .i64 0, .int .i64 512, .int .i64 1, .int .i64 1099511627776, .int .i64 1, .int .i64 32, .int .i64 0, .int .i64 0, .int .i64 1, .int .i64 1099511627776, .int .i64 0, .int .i64 0, .int .i64 0, .int .i64 65535, .int .i64 0, .int .i64 1099511627776] 273) = w' := by
 go_enter Tryz.func210, Tryz.ntmps210
 go_wp2;go_ret;exact ⟨rfl, rfl⟩
theorem Zgx {w : World} {a b x : Int} (h1 : a ≤ x) (h2 : x ≤ b) :
 Calls Tryz.prog 211 #[.agg #[.int .i64 a, .int .i64 b], .int .i64 x] w fun e w' => e = .returned (.bool true) ∧ w.alloc (.cells #[.int .i64 a, .int .i64 b] 271) = w' := by
 have e1 : decide (a ≤ x) = true := by simpa using h1
 have e2 : decide (x ≤ b) = true := by simpa using h2
 go_enter Tryz.func211, Tryz.ntmps211
 go_wp2;go_ret;exact ⟨rfl, rfl⟩
theorem ZkF {w : World} {sum key val seq : Int} (k1 : 1 ≤ key) (k2 : key ≤ 32) (v1 : 0 ≤ val) (v2 : val ≤ 512) (s1 : 1 ≤ seq) (s2 : seq ≤ 1099511627776) :
 Calls Tryz.prog 176 #[.agg #[.int .u32 sum, .int .i64 1, .int .i64 key, .int .i64 val, .int .i64 seq]] w fun e w' => e = .returned (.int .i64 0) ∧ Old w w' := by
 go_enter Tryz.func176, Tryz.ntmps176
 go_wp2_with (first | (go_at_call 210; refine ZdV.mono ?_; rintro e w1 ⟨rfl, rfl⟩) | (go_at_call 211; refine (Zgx (by omega) (by omega)).mono ?_; rintro e w1 ⟨rfl, rfl⟩))
 go_ret;exact ⟨rfl, by repeat (first | exact Upd.refl _ _ | refine Upd.alloc ?_ _ | refine Upd.drew ?_ | refine Upd.drewN ?_ _ | (refine Upd.setCell ?_ _ _ (by simp)))⟩
theorem ZkG {w : World} {sum key val seq : Int} (k1 : 1 ≤ key) (k2 : key ≤ 32) (v1 : 0 ≤ val) (v2 : val ≤ 0) (s1 : 1 ≤ seq) (s2 : seq ≤ 1099511627776) :
 Calls Tryz.prog 176 #[.agg #[.int .u32 sum, .int .i64 2, .int .i64 key, .int .i64 val, .int .i64 seq]] w fun e w' => e = .returned (.int .i64 0) ∧ Old w w' := by
 go_enter Tryz.func176, Tryz.ntmps176
 go_wp2_with (first | (go_at_call 210; refine ZdV.mono ?_; rintro e w1 ⟨rfl, rfl⟩) | (go_at_call 211; refine (Zgx (by omega) (by omega)).mono ?_; rintro e w1 ⟨rfl, rfl⟩))
 go_ret;exact ⟨rfl, by repeat (first | exact Upd.refl _ _ | refine Upd.alloc ?_ _ | refine Upd.drew ?_ | refine Upd.drewN ?_ _ | (refine Upd.setCell ?_ _ _ (by simp)))⟩
theorem ZiH {w : World} {sum key val seq : Int} (k1 : 0 ≤ key) (k2 : key ≤ 0) (v1 : 0 ≤ val) (v2 : val ≤ 65535) (s1 : 0 ≤ seq) (s2 : seq ≤ 1099511627776) :
 Calls Tryz.prog 176 #[.agg #[.int .u32 sum, .int .i64 3, .int .i64 key, .int .i64 val, .int .i64 seq]] w fun e w' => e = .returned (.int .i64 0) ∧ Old w w' := by
 go_enter Tryz.func176, Tryz.ntmps176
 go_wp2_with (first | (go_at_call 210; refine ZdV.mono ?_; rintro e w1 ⟨rfl, rfl⟩) | (go_at_call 211; refine (Zgx (by omega) (by omega)).mono ?_; rintro e w1 ⟨rfl, rfl⟩))
 go_ret;exact ⟨rfl, by repeat (first | exact Upd.refl _ _ | refine Upd.alloc ?_ _ | refine Upd.drew ?_ | refine Upd.drewN ?_ _ | (refine Upd.setCell ?_ _ _ (by simp)))⟩
theorem Za6 {w : World} {v : Value} {n : Nat} {bs : List UInt8} (own : w.ownsRow 0 5 1 v n (bs.map Zav)) : BytesAt w v bs := by
 have hl : bs.length = n := by simpa using own.1
 rcases own.2 with ⟨h1, h2⟩ | ⟨g, c, cur, h1, _⟩
 ·have : bs = [] := List.eq_nil_of_length_eq_zero (by omega)
  exact .inl ⟨h1, this⟩
 ·subst h1;exact .inr ⟨⟨g, 0, none⟩, c, by rw [hl], own.cells rfl⟩
def Zea (sum kind key val seq : Nat) : Nat → List UInt8
 | 0 => []
 | 1 => leB sum 4
 | 2 => leB sum 4 ++ leB kind 1
 | 3 => leB sum 4 ++ leB kind 1 ++ leB key 1
 | 4 => leB sum 4 ++ leB kind 1 ++ leB key 1 ++ leB val 2
 | _ => leB sum 4 ++ leB kind 1 ++ leB key 1 ++ leB val 2 ++ leB seq 8
def ZpZ : Nat → Nat
 | 0 => 0
 | 1 => 4
 | 2 => 5
 | 3 => 6
 | 4 => 8
 | _ => 16
theorem ZhK {w : World} :
 Calls Tryz.prog 177 #[] w fun e w' => e = .returned (.slice (some ⟨w.heap.size, 0, none⟩) 5 5) ∧ w.alloc (.cells #[.int .i64 4, .int .i64 1, .int .i64 1, .int .i64 2, .int .i64 8] 3) = w' := by
 go_enter Tryz.func177, Tryz.ntmps177
 go_wp2;go_ret;exact ⟨rfl, rfl⟩
theorem ZiI {w : World} {sum kind key val seq : Nat} (hs : sum < 4294967296) (hk : kind < 256) (hy : key < 256) (hv : val < 65536) (hq : seq < 1152921504606846976)
 (HC : ∀ w : World, Calls Tryz.prog 176 #[.agg #[.int .u32 ((sum : Nat) : Int), .int .i64 ((kind : Nat) : Int), .int .i64 ((key : Nat) : Int), .int .i64 ((val : Nat) : Int), .int .i64 ((seq : Nat) : Int)]] w fun e w' => e = .returned (.int .i64 0) ∧ Old w w') :
 Calls Tryz.prog 116 #[.agg #[.int .u32 ((sum : Nat) : Int), .int .i64 ((kind : Nat) : Int), .int .i64 ((key : Nat) : Int), .int .i64 ((val : Nat) : Int), .int .i64 ((seq : Nat) : Int)]] w (ZiG w 5 1 16 ((Zea sum kind key val seq 5).map Zav)) := by
 have H := Lib.hid HC;clear HC
 go_enter Tryz.func116, Tryz.ntmps116
 go_wp2_with (first | (go_at_call 176; refine (H.out _).mono ?_; rintro e w1 ⟨rfl, hO⟩; have c0 : w1.cell? ⟨w.heap.size, 0, none⟩ = some (.int .u32 ((sum : Nat) : Int)) := Old.cellOf' hO (by simp); have c1 : w1.cell? ⟨w.heap.size, 1, none⟩ = some (.int .i64 ((kind : Nat) : Int)) := Old.cellOf' hO (by simp); have c2 : w1.cell? ⟨w.heap.size, 2, none⟩ = some (.int .i64 ((key : Nat) : Int)) := Old.cellOf' hO (by simp); have c3 : w1.cell? ⟨w.heap.size, 3, none⟩ = some (.int .i64 ((val : Nat) : Int)) := Old.cellOf' hO (by simp); have c4 : w1.cell? ⟨w.heap.size, 4, none⟩ = some (.int .i64 ((seq : Nat) : Int)) := Old.cellOf' hO (by simp); have O1 := Lib.hid ((Upd.alloc (Upd.refl (fun _ => False) w) _).trans hO); clear hO) | (go_at_call 177; refine ZhK.mono ?_; rintro e w2 ⟨rfl, rfl⟩))
 generalize hW : World.alloc (World.alloc w1 _) _ = W;have x0 : W.cell? ⟨w1.heap.size, 0, none⟩ = some (.int .u64 ((sum : Nat) : Int)) := by subst hW; go_simp
 have x1 : W.cell? ⟨w1.heap.size, 1, none⟩ = some (.int .u64 ((kind : Nat) : Int)) := by subst hW; go_simp
 have x2 : W.cell? ⟨w1.heap.size, 2, none⟩ = some (.int .u64 ((key : Nat) : Int)) := by subst hW; go_simp
 have x3 : W.cell? ⟨w1.heap.size, 3, none⟩ = some (.int .u64 ((val : Nat) : Int)) := by subst hW; go_simp
 have x4 : W.cell? ⟨w1.heap.size, 4, none⟩ = some (.int .u64 ((seq : Nat) : Int)) := by subst hW; go_simp
 have y0 : W.cell? ⟨w1.heap.size + 1, 0, none⟩ = some (.int .i64 4) := by subst hW; go_simp
 have y1 : W.cell? ⟨w1.heap.size + 1, 1, none⟩ = some (.int .i64 1) := by subst hW; go_simp
 have y2 : W.cell? ⟨w1.heap.size + 1, 2, none⟩ = some (.int .i64 1) := by subst hW; go_simp
 have y3 : W.cell? ⟨w1.heap.size + 1, 3, none⟩ = some (.int .i64 2) := by subst hW; go_simp
 have y4 : W.cell? ⟨w1.heap.size + 1, 4, none⟩ = some (.int .i64 8) := by subst hW; go_simp
 have O2 : Hid (Old w W) := by subst hW; exact (O1.out.alloc _).alloc _
 clear hW c0 c1 c2 c3 c4 O1 H;generalize w1.heap.size = A at *
 clear w1;have X := Lib.hid (⟨x0, x1, x2, x3, x4, y0, y1, y2, y3, y4⟩ : _ ∧ _ ∧ _ ∧ _ ∧ _ ∧ _ ∧ _ ∧ _ ∧ _ ∧ _);clear x0 x1 x2 x3 x4 y0 y1 y2 y3 y4
 go_loopw [5, 34] (fun b i wr => ∃ j : Nat, j ≤ 5 ∧ i = .int .i64 j ∧ wr.ownsRow 0 5 1 b (ZpZ j) ((Zea sum kind key val seq j).map Zav) ∧ Old W wr ∧ (∀ k, b.ownBlock = some k → w.heap.size ≤ k)) (fun _ i _ => 5 - (intOf i).toNat)
 case atStart => exact ⟨0, Nat.zero_le _, rfl, World.ownsRow_nil _ _ _ _, Upd.refl _ _, fun k hk => by cases hk⟩
 case round =>
  obtain ⟨j, hj, rfl, hown, hO, hfr⟩ := hrel;have HOW := Lib.hid hown;have HOO := Lib.hid hO;have HFR := Lib.hid hfr;have hsl := Zac hown;clear hown hO hfr;obtain ⟨ba, bc, rfl⟩ := hsl;obtain ⟨x0, x1, x2, x3, x4, y0, y1, y2, y3, y4⟩ := X.out;have x0 := Old.cellOf' HOO.out x0;have x1 := Old.cellOf' HOO.out x1;have x2 := Old.cellOf' HOO.out x2;have x3 := Old.cellOf' HOO.out x3;have x4 := Old.cellOf' HOO.out x4;have y0 := Old.cellOf' HOO.out y0;have y1 := Old.cellOf' HOO.out y1;have y2 := Old.cellOf' HOO.out y2;have y3 := Old.cellOf' HOO.out y3;have y4 := Old.cellOf' HOO.out y4;have hj6 : j = 0 ∨ j = 1 ∨ j = 2 ∨ j = 3 ∨ j = 4 ∨ j = 5 := by omega
  rcases hj6 with rfl | rfl | rfl | rfl | rfl | rfl
  ·go_wp2_with (first | (go_at_call 178; refine (ZbE (n := sum) (k := 4) (bs := Zea sum kind key val seq 0) (Za6 HOW.out) (by simp [Zea, ZaG]) (by simp) (by omega)).mono ?_; rintro e w3 ⟨v3, rfl, hown3, hO3, hfr3⟩; have HOW3 := Lib.hid hown3; have HO3 := Lib.hid (HOO.out.trans hO3); have HF3 : Hid (∀ k, v3.ownBlock = some k → w.heap.size ≤ k) := (fun k hk => Nat.le_trans (O2.out.trans HOO.out).size (hfr3 k hk)); clear hown3 hO3 hfr3))
   go_roundw
   case rel => exact ⟨1, by omega, by go_num, by simpa [Zea, ZpZ, ZaG] using HOW3.out, HO3.out, HF3.out⟩
   case measure => simp [intOf]
  ·go_wp2_with (first | (go_at_call 178; refine (ZbE (n := kind) (k := 1) (bs := Zea sum kind key val seq 1) (Za6 HOW.out) (by simp [Zea, ZaG]) (by simp) (by omega)).mono ?_; rintro e w3 ⟨v3, rfl, hown3, hO3, hfr3⟩; have HOW3 := Lib.hid hown3; have HO3 := Lib.hid (HOO.out.trans hO3); have HF3 : Hid (∀ k, v3.ownBlock = some k → w.heap.size ≤ k) := (fun k hk => Nat.le_trans (O2.out.trans HOO.out).size (hfr3 k hk)); clear hown3 hO3 hfr3))
   go_roundw
   case rel => exact ⟨2, by omega, by go_num, by simpa [Zea, ZpZ, ZaG] using HOW3.out, HO3.out, HF3.out⟩
   case measure => simp [intOf]
  ·go_wp2_with (first | (go_at_call 178; refine (ZbE (n := key) (k := 1) (bs := Zea sum kind key val seq 2) (Za6 HOW.out) (by simp [Zea, ZaG]) (by simp) (by omega)).mono ?_; rintro e w3 ⟨v3, rfl, hown3, hO3, hfr3⟩; have HOW3 := Lib.hid hown3; have HO3 := Lib.hid (HOO.out.trans hO3); have HF3 : Hid (∀ k, v3.ownBlock = some k → w.heap.size ≤ k) := (fun k hk => Nat.le_trans (O2.out.trans HOO.out).size (hfr3 k hk)); clear hown3 hO3 hfr3))
   go_roundw
   case rel => exact ⟨3, by omega, by go_num, by simpa [Zea, ZpZ, ZaG] using HOW3.out, HO3.out, HF3.out⟩
   case measure => simp [intOf]
  ·go_wp2_with (first | (go_at_call 178; refine (ZbE (n := val) (k := 2) (bs := Zea sum kind key val seq 3) (Za6 HOW.out) (by simp [Zea, ZaG]) (by simp) (by omega)).mono ?_; rintro e w3 ⟨v3, rfl, hown3, hO3, hfr3⟩; have HOW3 := Lib.hid hown3; have HO3 := Lib.hid (HOO.out.trans hO3); have HF3 : Hid (∀ k, v3.ownBlock = some k → w.heap.size ≤ k) := (fun k hk => Nat.le_trans (O2.out.trans HOO.out).size (hfr3 k hk)); clear hown3 hO3 hfr3))
   go_roundw
   case rel => exact ⟨4, by omega, by go_num, by simpa [Zea, ZpZ, ZaG] using HOW3.out, HO3.out, HF3.out⟩
   case measure => simp [intOf]
  ·go_wp2_with (first | (go_at_call 178; refine (ZbE (n := seq) (k := 8) (bs := Zea sum kind key val seq 4) (Za6 HOW.out) (by simp [Zea, ZaG]) (by simp) (by omega)).mono ?_; rintro e w3 ⟨v3, rfl, hown3, hO3, hfr3⟩; have HOW3 := Lib.hid hown3; have HO3 := Lib.hid (HOO.out.trans hO3); have HF3 : Hid (∀ k, v3.ownBlock = some k → w.heap.size ≤ k) := (fun k hk => Nat.le_trans (O2.out.trans HOO.out).size (hfr3 k hk)); clear hown3 hO3 hfr3))
   go_roundw
   case rel => exact ⟨5, by omega, by go_num, by simpa [Zea, ZpZ, ZaG] using HOW3.out, HO3.out, HF3.out⟩
   case measure => simp [intOf]
  ·go_wp2;go_ret2;exact ⟨_, rfl, HOW.out, O2.out.trans HOO.out, HFR.out⟩
def isLet (c : UInt8) : Bool := (#[45, 46, 48, 49, 50, 51, 52, 53, 54, 55, 56, 57, 95, 97, 98, 99, 100, 101, 102, 103, 104, 105, 106, 107, 108, 109, 110, 111, 112, 113, 114, 115, 116, 117, 118, 119, 120, 121, 122] : Array UInt8).contains c
theorem ZhL : ∀ c : Nat, c < 256 → isLet (UInt8.ofNat c) = true → c < 128 ∧ 0 ≤ firstIdx ⟨#[45, 46, 48, 49, 50, 51, 52, 53, 54, 55, 56, 57, 95, 97, 98, 99, 100, 101, 102, 103, 104, 105, 106, 107, 108, 109, 110, 111, 112, 113, 114, 115, 116, 117, 118, 119, 120, 121, 122]⟩ (UInt8.ofNat c) := by decide +kernel
theorem Zgy {w : World} {c : UInt8} (hc : isLet c = true) :
 Calls Tryz.prog 209 #[.string ⟨#[45, 46, 48, 49, 50, 51, 52, 53, 54, 55, 56, 57, 95, 97, 98, 99, 100, 101, 102, 103, 104, 105, 106, 107, 108, 109, 110, 111, 112, 113, 114, 115, 116, 117, 118, 119, 120, 121, 122]⟩, .int .i32 ((c.toNat : Nat) : Int)] w fun e w' => e = .returned (.bool true) ∧ w = w' := by
 have hlt : c.toNat < 256 := c.toNat_lt;obtain ⟨h128, hfi⟩ := ZhL c.toNat hlt (by simpa using hc)
 obtain ⟨n, hn⟩ : ∃ n, c.toNat = n := ⟨_, rfl⟩;have hfn : ∃ k : Nat, firstIdx ⟨#[45, 46, 48, 49, 50, 51, 52, 53, 54, 55, 56, 57, 95, 97, 98, 99, 100, 101, 102, 103, 104, 105, 106, 107, 108, 109, 110, 111, 112, 113, 114, 115, 116, 117, 118, 119, 120, 121, 122]⟩ (UInt8.ofNat n) = (k : Int) := by
  rw [← hn];exact Int.eq_ofNat_of_zero_le hfi
 obtain ⟨k, hk⟩ := hfn;have hx : ∀ w : World, (callFunc 233 #[.string ⟨#[45, 46, 48, 49, 50, 51, 52, 53, 54, 55, 56, 57, 95, 97, 98, 99, 100, 101, 102, 103, 104, 105, 106, 107, 108, 109, 110, 111, 112, 113, 114, 115, 116, 117, 118, 119, 120, 121, 122]⟩, .int .u8 ((n : Nat) : Int)]).run Tryz.prog w = .ok (.value (.int .i64 ((k : Nat) : Int))) w := fun w =>
  Zcd (fn := Tryz.f233) (by kernel_rfl) (by kernel_rfl) (by kernel_rfl) (by kernel_rfl) (g := Extern.BytealgIndexByte.indexByte) (by kernel_rfl) (by
   have h2 := run_indexByte_string (P := Tryz.prog) ⟨#[45, 46, 48, 49, 50, 51, 52, 53, 54, 55, 56, 57, 95, 97, 98, 99, 100, 101, 102, 103, 104, 105, 106, 107, 108, 109, 110, 111, 112, 113, 114, 115, 116, 117, 118, 119, 120, 121, 122]⟩ ((n : Nat) : Int) w;rw [h2];have : (((n : Nat) : Int).toNat.toUInt8) = UInt8.ofNat n := rfl
   rw [this, hk])
 rw [hn];rw [hn] at h128;have p0 : (0 : Int) ≤ (n : Int) := by omega
 have p1 : n < 128 := h128;clear hc hn hk hfi hlt
 go_enter Tryz.func209, Tryz.ntmps209
 go_wp2;go_ret;exact ⟨rfl, rfl⟩
def ZpC (w : World) (b : Nat) : Nat := match w.heap[b]? with | some (.stringIter _ p) => p | _ => 0
theorem ZfN (w : World) (s : ByteArray) (p : Nat) : ZpC (w.iter s p) w.heap.size = p := by
 unfold ZpC;rw [World.iter_heap]
theorem Ze6 {w : World} {s : ByteArray} (h0 : 0 < s.size) (h32 : s.size ≤ 32) (hs : ∀ i (h : i < s.size), isLet (s[i]'h) = true) :
 Calls Tryz.prog 174 #[.string s] w fun e w' => e = .returned (.int .i64 0) ∧ Old w w' := by
 have H := Lib.hid hs;clear hs
 go_enter Tryz.func174, Tryz.ntmps174
 go_wp2
 go_loopw [4] (fun _ wr => ∃ i, i ≤ s.size ∧ wr = w.iter s i) (fun _ wr => s.size - ZpC wr w.heap.size)
 case atStart => exact ⟨0, Nat.zero_le _, rfl⟩
 case round =>
  obtain ⟨i, hi, rfl⟩ := hrel
  by_cases hlt : i < s.size
  ·have hc := H.out i hlt;have ha : (s[i]'hlt).toNat < 128 := (ZhL (s[i]'hlt).toNat (s[i]'hlt).toNat_lt (by simpa using hc)).1
   have hnx := fun ty => run_next_ascii (P := Tryz.prog) w s i ty hlt ha
   have HR := Lib.hid (Zgy (w := w.iter s (i + 1)) hc);have HP1 := Lib.hid (ZfN w s i);have HP2 := Lib.hid (ZfN w s (i + 1));clear hc ha
   go_wp2_with (first | (go_at_call 209; refine HR.out.mono ?_; rintro e w1 ⟨rfl, rfl⟩))
   go_roundw
   case rel => exact ⟨i + 1, by omega, rfl⟩
   case measure => rw [HP1.out, HP2.out]; omega
  ·obtain rfl : i = s.size := by omega
   have hnx := fun ty => run_next_end (P := Tryz.prog) w s s.size ty (by omega)
   have e2 : s.toList.isEmpty = false := by
    rw [ByteArray.toList_eq];have hl : s.data.toList.length = s.size := by show s.data.toList.length = s.data.size; exact Array.length_toList
    cases hh : s.data.toList with
    | nil => rw [hh] at hl; simp only [List.length_nil] at hl; omega
    | cons a l => rfl
   clear H;go_wp2;go_ret;exact ⟨rfl, (Upd.refl _ _).alloc _⟩
def ZhM (s : ByteArray) : Prop := 0 < s.size ∧ s.size ≤ 32 ∧ ∀ i (h : i < s.size), isLet (s[i]'h) = true
theorem ZfO {w : World} {seq : Int} {key val : ByteArray} (hk : ZhM key) (s1 : 1 ≤ seq) (s2 : seq ≤ 1099511627776) (hv : val.size ≤ 512) :
 Calls Tryz.prog 115 #[.agg #[.int .i64 1, .int .i64 seq, .string key, .string val]] w fun e w' => e = .returned (.int .i64 0) ∧ Old w w' := by
 have HK := Lib.hid (fun w : World => Ze6 (w := w) hk.1 hk.2.1 hk.2.2)
 clear hk
 go_enter Tryz.func115, Tryz.ntmps115
 go_wp2_with (first | (go_at_call 174; refine (HK.out _).mono ?_; rintro e w1 ⟨rfl, hO⟩; have c0 : w1.cell? ⟨w.heap.size, 0, none⟩ = some (.int .i64 1) := Old.cellOf' hO (by simp); have c3 : w1.cell? ⟨w.heap.size, 3, none⟩ = some (.string val) := Old.cellOf' hO (by simp); have O1 := Lib.hid ((Upd.alloc (Upd.refl (fun _ => False) w) _).trans hO); clear hO) | go_in)
 go_ret;exact ⟨rfl, O1.out⟩
theorem ZfP {w : World} {seq : Int} {key : ByteArray} (hk : ZhM key) (s1 : 1 ≤ seq) (s2 : seq ≤ 1099511627776) :
 Calls Tryz.prog 115 #[.agg #[.int .i64 2, .int .i64 seq, .string key, .string ⟨#[]⟩]] w fun e w' => e = .returned (.int .i64 0) ∧ Old w w' := by
 have HK := Lib.hid (fun w : World => Ze6 (w := w) hk.1 hk.2.1 hk.2.2)
 clear hk
 go_enter Tryz.func115, Tryz.ntmps115
 go_wp2_with (first | (go_at_call 174; refine (HK.out _).mono ?_; rintro e w1 ⟨rfl, hO⟩; have c0 : w1.cell? ⟨w.heap.size, 0, none⟩ = some (.int .i64 2) := Old.cellOf' hO (by simp); have c3 : w1.cell? ⟨w.heap.size, 3, none⟩ = some (.string ⟨#[]⟩) := Old.cellOf' hO (by simp); have O1 := Lib.hid ((Upd.alloc (Upd.refl (fun _ => False) w) _).trans hO); clear hO) | go_in)
 go_ret;exact ⟨rfl, O1.out⟩
end Go.M
