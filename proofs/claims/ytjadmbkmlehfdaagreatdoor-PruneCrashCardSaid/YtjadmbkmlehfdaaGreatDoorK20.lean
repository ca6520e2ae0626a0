/- Walks 20. -/
import Derived.Test.YtjadmbkmlehfdaaGreatDoorProg
import Derived.Test.YtjadmbkmlehfdaaGreatDoorK14
import Derived.Laws.MakeOwn
set_option linter.unusedVariables false
set_option linter.unusedSimpArgs false
set_option maxRecDepth 100000
namespace Go.M
open Go.Proofs Go.RowKit
theorem map_new {w : World} :
 Calls Tryz.prog 80 #[] w fun e w' => e = .returned (.pointer (some ⟨w.heap.size, 0, none⟩)) ∧ w.alloc (.cells #[.bool true, .slice none 0 0] 227) = w' := by
 go_enter Tryz.func80, Tryz.ntmps80
 go_wp2
 go_ret
 exact ⟨rfl, by simp⟩
theorem new3 {w : World} {o0 o1 o2 : Array Value} {t0 t1 t2 : TypeId} : Has (((w.alloc (.cells o0 t0)).alloc (.cells o1 t1)).alloc (.cells o2 t2)).drew w.heap.size t0 o0 ∧ Has (((w.alloc (.cells o0 t0)).alloc (.cells o1 t1)).alloc (.cells o2 t2)).drew (w.heap.size + 1) t1 o1 ∧ Has (((w.alloc (.cells o0 t0)).alloc (.cells o1 t1)).alloc (.cells o2 t2)).drew (w.heap.size + 1 + 1) t2 o2 ∧ Old w (((w.alloc (.cells o0 t0)).alloc (.cells o1 t1)).alloc (.cells o2 t2)).drew := by
 have a0 := Has.new w t0 o0
 have a1 := Has.new (w.alloc (.cells o0 t0)) t1 o1
 have a2 := Has.new ((w.alloc (.cells o0 t0)).alloc (.cells o1 t1)) t2 o2
 simp only [World.size_alloc] at a1 a2
 exact ⟨((a0.alloc _).alloc _).drew, (a1.alloc _).drew, a2.drew, ((((Upd.refl _ w).alloc _).alloc _).alloc _).drew⟩
def NewIdx (w : World) (n : Nat) (e : Ending) (w' : World) : Prop := ∃ X O S, e = .returned (.tuple #[.pointer (some ⟨X, 0, none⟩), .int .i64 0]) ∧
 Has w' X 145 #[.pointer (some ⟨O, 0, none⟩), .slice (some ⟨S, 0, none⟩) n n] ∧ Has w' O 227 #[.bool true, .slice none 0 0] ∧ Has w' S 142 (madeCells #[.slice none 0 0] n) ∧ w.heap.size ≤ X ∧ w.heap.size ≤ O ∧ w.heap.size ≤ S ∧ X ≠ O ∧ X ≠ S ∧ O ≠ S ∧ Old w w'
theorem info_list : (Tryz.prog.info? 142).map (fun i => (i.zero, i.size, i.bytes)) = some (some (.slice none 0 0), 1, 24) := by kernel_rfl
theorem idx_new {w : World} {n : Nat} (h0 : 0 < n) (h1 : n ≤ 10) :
 Calls Tryz.prog 39 #[.int .i64 ((n : Nat) : Int)] w (NewIdx w n) := by
 have q1 : ¬ ((n : Int) < 1) := by omega
 have q2 : ¬ (32 < (n : Int)) := by omega
 go_enter Tryz.func39, Tryz.ntmps39
 obtain ⟨i0, hi0, hz0, hz1, hz2⟩ := info_parts info_list
 have HM : ∀ w : World, (Instr.makeSlice 143 (.int .i64 ((n : Nat) : Int)) (.int .i64 ((n : Nat) : Int))).run Tryz.prog w = .ok (.slice (some ⟨w.heap.size, 0, none⟩) n n) (w.alloc (.cells (madeCells #[.slice none 0 0] n) 142)) := by
  intro w
  have h := run_make (P := Tryz.prog) w 143 142 i0 (.slice none 0 0) Tryz.underlying143 hi0 hz0 .i64 .i64 (n : Int) (n : Int) (by omega) (by omega) (by rw [hz2]; omega) (by omega)
  rw [hz1, Int.toNat_natCast, Nat.mul_one] at h
  exact h
 go_wp2
 go_region_held3 (fun _ => True) (first | trivial) (first | (go_at_call 80; refine map_new.mono ?_; rintro e w1 ⟨rfl, rfl⟩))
 ·rename_i hH
  clear hH HM
  go_wp2
  go_ret2
  obtain ⟨a0, a1, a2, O⟩ := new3 (w := w) (t0 := 227) (o0 := #[.bool true, .slice none 0 0]) (t1 := 142) (o1 := madeCells #[.slice none 0 0] n) (t2 := 145) (o2 := #[.pointer (some ⟨w.heap.size, 0, none⟩), .slice (some ⟨w.heap.size + 1, 0, none⟩) n n])
  exact ⟨_, _, _, rfl, a2, a0, a1, by omega, by omega, by omega, by omega, by omega, by omega, O⟩
 ·rename_i hH
  clear hH HM
  go_wp2
  go_ret2
  obtain ⟨a0, a1, a2, O⟩ := new3 (w := w) (t1 := 227) (o1 := #[.bool true, .slice none 0 0]) (t0 := 142) (o0 := madeCells #[.slice none 0 0] n) (t2 := 145) (o2 := #[.pointer (some ⟨w.heap.size + 1, 0, none⟩), .slice (some ⟨w.heap.size, 0, none⟩) n n])
  exact ⟨_, _, _, rfl, a2, a1, a0, by omega, by omega, by omega, by omega, by omega, by omega, O⟩
theorem img_new {w : World} {n : Nat} (h0 : 0 < n) (h1 : n ≤ 8192) :
 Calls Tryz.prog 174 #[.int .i64 ((n : Nat) : Int)] w fun e w' => e = .returned (.tuple #[.pointer (some ⟨w.heap.size, 0, none⟩), .int .i64 0]) ∧ w.alloc (.cells #[.slice none 0 0, .int .i64 ((n : Nat) : Int), .int .i64 0] 265) = w' := by
 have q1 : ¬ ((n : Int) < 1) := by omega
 have q2 : ¬ (8192 < (n : Int)) := by omega
 go_enter Tryz.func174, Tryz.ntmps174
 go_wp2
 go_ret2
 exact ⟨rfl, by simp⟩
theorem and32 {n : Nat} (h : n < 4294967296) : bits .and .u64 ((n : Nat) : Int) 4294967295 = ((n : Nat) : Int) := by
 have h1 : (BitVec.ofInt 64 (n : Int)).toNat = n := by
  rw [BitVec.ofInt_natCast, BitVec.toNat_ofNat]; exact Nat.mod_eq_of_lt (by omega)
 have h2 : (BitVec.ofInt 64 (4294967295 : Int)).toNat = 4294967295 := by decide
 show IntKind.u64.wrap ((BitVec.ofInt 64 (n : Int) &&& BitVec.ofInt 64 (4294967295 : Int)).toNat : Int) = _
 rw [BitVec.toNat_and, h1, h2, show (4294967295 : Nat) = 2 ^ 32 - 1 from rfl, Nat.and_two_pow_sub_one_eq_mod, Nat.mod_eq_of_lt h, show ∀ n : Int, IntKind.u64.wrap n = n % 18446744073709551616 from fun n => by simp [IntKind.wrap, IntKind.bits, IntKind.signed]]
 omega
theorem info_int : (Tryz.prog.info? 3).map (fun i => (i.zero, i.size, i.bytes)) = some (some (.int .i64 0), 1, 8) := by kernel_rfl
theorem wp_copy_k {P : Program} {w : World} {o : Oper} {a : Act} {K : Act → World → Prop} {Q : Exit → Act → World → Prop} (d s : Operand) (dT sT : TypeId)
 (ho : o.op = .call { callee := .builtin .copy, args := #[d, s], argTypes := #[dT, sT] }) (elem : TypeId) (size : Nat) (hu : P.underlying dT = some (.slice elem)) (hsz : (P.info? elem).map (·.size) = some size)
 (g off dLen dCap : Nat) (ad : Addr) (sLen sCap : Nat) (hd : a.eval d = .slice (some ⟨g, off, none⟩) dLen dCap) (hs : a.eval s = .slice (some ad) sLen sCap)
 (cur : List Value) (t : TypeId) (hg : Has w g t cur.toArray) (cs : List Value) (m : Nat) (hm : Nat.min sLen dLen = m) (hn : cs.length = m * size)
 (hsrc : ∀ j v, cs[j]? = some v → w.cell? (ad.add j) = some v) (hfit : off + cs.length ≤ cur.length) (h1 : ∀ v ∈ cs, v.oneCell' = true)
 (h : ∀ w', Hid (Has w' g t (splice cur off cs).toArray) → Hid (Upd (fun b => b = g) w w') → K (a.put o.dst (goInt m)) w') : Oper.wp P o a w K Q := by
 subst hm
 have hrun := run_copy_k (P := P) w dT sT o.type elem size g off dLen dCap ad sLen sCap cur.toArray t cs hu hsz hg hn hsrc (by simpa using hfit) h1
 have h2 := h (w.setRow g (cur.toArray.toList.take off ++ cs ++ cur.toArray.toList.drop (off + cs.length)).toArray) (show Has _ _ _ _ by
  have := setRow_heap w g cur.toArray (cur.toArray.toList.take off ++ cs ++ cur.toArray.toList.drop (off + cs.length)).toArray t (0, 0) hg
  unfold Has
  rw [this]
  simp [splice])
  (show Upd _ _ _ from ⟨by simp, fun k _ hk => setRow_other w g k _ (fun e => hk e), rfl, rfl, rfl⟩)
 unfold Oper.wp
 simp only [execOp, ho, resolve, invoke, builtin, Sem.run_bind, Sem.run_pure, Result.andThen_ok, List.map_toArray, List.map_cons, List.map_nil, hd, hs, hrun]
 exact h2
theorem mul1 {w : World} {n : Nat} (h1 : n ≤ 10) :
 Calls Tryz.prog 175 #[.int .u64 1, .int .u64 ((n : Nat) : Int)] w fun e w' => e = .returned (.tuple #[.int .u64 0, .int .u64 ((n : Nat) : Int)]) ∧ w = w' := by
 have b1 : bits .and .u64 1 4294967295 = 1 := by decide
 have b0 : bits .and .u64 0 4294967295 = 0 := by decide
 have b2 := and32 (n := n) (by omega)
 have d0 : (n : Int) / 4294967296 = 0 := by omega
 go_enter Tryz.func175, Tryz.ntmps175
 go_wp2
 go_ret2
 exact ⟨by simp [b0, b1, b2, d0], rfl⟩
theorem srepeat {w : World} {n : Nat} {B : Nat} {size : Int} (h0 : 1 < n) (h1 : n ≤ 10) (cB : w.cell? ⟨B, 0, none⟩ = some (.int .i64 size)) :
 Calls Tryz.prog 97 #[.slice (some ⟨B, 0, none⟩) 1 1, .int .i64 ((n : Nat) : Int)] w fun e w' => e = .returned (.slice (some ⟨w.heap.size, 0, none⟩) n n) ∧ Has w' w.heap.size 3 (List.replicate n (.int .i64 size)).toArray ∧ Old w w' := by
 have q1 : ¬ ((n : Int) < 0) := by omega
 have b1 : bits .and .u64 1 4294967295 = 1 := by decide
 have b2 := and32 (n := n) (by omega)
 have b0 : bits .and .u64 0 4294967295 = 0 := by decide
 have d0 : (n : Int) / 4294967296 = 0 := by omega
 obtain ⟨i0, hi0, hz0, hz1, hz2⟩ := info_parts info_int
 have HM : ∀ w : World, (Instr.makeSlice 48 (.int .i64 ((n : Nat) : Int)) (.int .i64 ((n : Nat) : Int))).run Tryz.prog w = .ok (.slice (some ⟨w.heap.size, 0, none⟩) n n) (w.alloc (.cells (madeCells #[.int .i64 0] n) 3)) := by
  intro w
  have h := run_make (P := Tryz.prog) w 48 3 i0 (.int .i64 0) Tryz.underlying48 hi0 hz0 .i64 .i64 (n : Int) (n : Int) (by omega) (by omega) (by rw [hz2]; omega) (by omega)
  rw [hz1, Int.toNat_natCast, Nat.mul_one] at h
  exact h
 go_enter Tryz.func97, Tryz.ntmps97
 have HSZ := Lib.hid (show (Tryz.prog.info? 3).map (·.size) = some 1 by kernel_rfl)
 have hBl : B < w.heap.size := World.block_lt_of_cell? w _ cB
 have hsrc : ∀ j u, ([.int .i64 size] : List Value)[j]? = some u → (w.alloc (.cells (madeCells #[.int .i64 0] n) 3)).cell? ((⟨B, 0, none⟩ : Addr).add j) = some u := by
  intro j u hj
  cases j with
  | zero =>
   simp at hj
   subst hj
   exact Old.cellOf' ((Upd.refl _ w).alloc _) cB
  | succ j => simp at hj
 have hnew : Has (w.alloc (.cells (madeCells #[.int .i64 0] n) 3)) w.heap.size 3 (madeCells #[.int .i64 0] n).toList.toArray := Has.new w 3 (madeCells #[.int .i64 0] n)
 have hsz : (madeCells #[.int .i64 0] n).toList.length = n := by simp [size_madeCells]
 have HN := Lib.hid hnew
 have HS := Lib.hid hsrc
 clear hnew hsrc
 go_wp2_with (first | (go_at_call 175; refine (mul1 h1).mono ?_; rintro e w1 ⟨rfl, rfl⟩) | (refine wpList_copy_k rfl (.tmp 31) (.tmp 32) 48 48 rfl 3 1 Tryz.underlying48 HSZ.out w.heap.size 0 n n ⟨B, 0, none⟩ 1 1 rfl rfl (madeCells #[.int .i64 0] n).toList 3 (by exact HN.out) [.int .i64 size] 1 (Nat.min_eq_left (by omega)) rfl (by exact HS.out) (by rw [hsz]; simp; omega) (by simp [Value.oneCell']) ?_; intro w1 hH1 hU1))
 have O1 : Old w w1 := by
  have U := ((Upd.refl (fun b => b = w.heap.size) w).alloc (.cells (madeCells #[.int .i64 0] n) 3)).trans (hU1.mono (fun _ _ h => h))
  exact U.mono (fun b hb h => by omega)
 have e1 : (splice (madeCells #[.int .i64 0] n).toList 0 [.int .i64 size]).take 1 = List.replicate 1 (.int .i64 size) := by simp [splice]
 have e2 : (splice (madeCells #[.int .i64 0] n).toList 0 [.int .i64 size]).length = n := by rw [length_splice _ _ _ (by rw [hsz]; simp; omega), hsz]
 have hz1' : w.heap.size < w1.heap.size := by have := hU1.size; simp at this; omega
 have HH := Lib.hid hH1
 have HO := Lib.hid O1
 clear hH1 hU1 O1 HN HS cB b1 b2 b0 d0 HM q1
 generalize splice (madeCells #[.int .i64 0] n).toList 0 [.int .i64 size] = L0 at *
 go_loopw [8] (fun i wr => ∃ (k : Nat) (L : List Value), 1 ≤ k ∧ k ≤ n ∧ i = .int .i64 k ∧ Has wr w.heap.size 3 L.toArray ∧ L.length = n ∧ L.take k = List.replicate k (.int .i64 size) ∧ Old w wr) (fun i _ => n - (intOf i).toNat)
 case atStart => exact ⟨1, L0, Nat.le_refl _, by omega, rfl, HH.out, e2, e1, HO.out⟩
 case round =>
  obtain ⟨k, L, hk1, hk, rfl, hL, hll, hlt, hO⟩ := hrel
  clear e1 e2 HH HO hz1'
  have HL := Lib.hid hL
  have HT := Lib.hid hlt
  have HO := Lib.hid hO
  clear hL hlt hO
  by_cases hkn : k < n
  ·have hsrc2 := Lib.hid (show ∀ j u, (L.take (Nat.min k (n - k)))[j]? = some u → wr.cell? ((⟨w.heap.size, 0, none⟩ : Addr).add j) = some u from fun j u hj => by
    rw [Addr.add_lit, HL.out.cell]
    rw [List.getElem?_take] at hj
    split at hj
    ·simpa using hj
    ·cases hj)
   have hmin : Nat.min k (n - k) ≤ n - k := Nat.min_le_right _ _
   have hmin2 : Nat.min k (n - k) ≤ k := Nat.min_le_left _ _
   have hmin0 : 0 < Nat.min k (n - k) := by
    show 0 < min k (n - k)
    omega
   generalize hm : Nat.min k (n - k) = m at *
   have HMM := Lib.hid hm
   clear hm
   have g1 : IntKind.i64.wrap ((k : Int) + (m : Int)) = ((k + m : Nat) : Int) := IntWalk.i64_in _ (by omega)
   have g2 : (k : Int) ≤ (n : Int) := by omega
   have g3 : (0 : Int) ≤ (k : Int) := by omega
   have g4 : k ≤ n := hk
   have g5 : ¬ n = k := by omega
   go_wp2
   have hone : ∀ u ∈ L.take m, u.oneCell' = true := fun u hu => by
    have h1 : u ∈ L.take k := (List.take_subset_take_left L hmin2) hu
    rw [HT.out] at h1
    have := List.eq_of_mem_replicate h1
    subst this
    rfl
   have hlm : (L.take m).length = m * 1 := by simp; omega
   have hft : k + (L.take m).length ≤ L.length := by simp; omega
   have HONE := Lib.hid hone
   clear hone
   go_region_held3 (fun _ => True) (first | trivial) (first | (refine wp_copy_k (.tmp 41) (.tmp 44) 48 48 rfl 3 1 Tryz.underlying48 HSZ.out w.heap.size k (n - k) (n - k) ⟨w.heap.size, 0, none⟩ k n rfl rfl L 3 (by exact HL.out) (L.take m) m HMM.out hlm (by exact hsrc2.out) hft HONE.out ?_; intro w2 hH2 hU2))
   rename_i hHeld
   clear hHeld
   go_wp2
   go_roundw
   case rel =>
    refine ⟨k + m, splice L k (L.take m), by omega, by omega, by go_num, hH2.out, ?_, ?_, ?_⟩
    ·rw [length_splice _ _ _ (by simp; omega), hll]
    ·have ht : (splice L k (L.take m)).take (k + m) = L.take k ++ L.take m := by
      have h1 : splice L k (L.take m) = (L.take k ++ L.take m) ++ L.drop (k + (L.take m).length) := by unfold splice; rw [List.append_assoc]
      have h2 : (L.take k ++ L.take m).length = k + m := by simp; omega
      rw [h1, ← h2, List.take_left]
     have hm2 : L.take m = List.replicate m (.int .i64 size) := by
      have := congrArg (List.take m) HT.out
      rw [List.take_take, Nat.min_eq_left hmin2, List.take_replicate, Nat.min_eq_left hmin2] at this
      exact this
     rw [ht, HT.out, hm2, List.replicate_append_replicate]
    ·exact (HO.out.drew).after hU2.out (fun b hb h => by omega)
   case measure => simp [intOf]; omega
  ·obtain rfl : k = n := by omega
   go_wp2
   go_ret
   have hL : L = List.replicate k (.int .i64 size) := by
    have := HT.out
    rwa [List.take_of_length_le (by omega)] at this
   refine ⟨rfl, ?_, HO.out⟩
   rw [← hL]
   exact HL.out
structure DskAt (w0 w : World) (zs : Nat → Nat) (D k : Nat) (M : Nat → Nat) (v : Value) : Prop where
 hD : Has w D 241 #[v]
 row : w.ownsRow 0 180 1 v k ((List.range k).map fun j => .pointer (some ⟨M j, 0, none⟩))
 img : ∀ j, j < k → Has w (M j) 265 #[.slice none 0 0, .int .i64 ((zs j : Nat) : Int), .int .i64 0]
 new : ∀ j, j < k → D < M j
 inc : ∀ i j, i < j → j < k → M i < M j
 rnew : ∀ b, v.ownBlock = some b → D < b
 old : Old w0 w
theorem own_has {w : World} {e : TypeId} {base size n b : Nat} {v : Value} {xs : List Value} (own : w.ownsRow base e size v n xs) (hb : v.ownBlock = some b) : ∃ cur, Has w b e cur := by
 rcases own.2 with ⟨h1, h2⟩ | ⟨g, c, cur, h1, _, h3, _⟩
 ·subst h1; cases hb
 ·subst h1
  simp [Value.ownBlock] at hb
  subst hb
  exact ⟨cur, h3⟩
theorem info_pimg : (Tryz.prog.info? 180).map (fun i => (i.zero, i.size, i.bytes)) = some (some (.pointer none), 1, 8) := by kernel_rfl
theorem disk_new {w : World} {N g c : Nat} {zs : Nat → Nat} (h0 : 0 < N) (h1 : N ≤ 12) (hc : ∀ i, i < N → w.cell? ⟨g, i, none⟩ = some (.int .i64 ((zs i : Nat) : Int))) (hz : ∀ i, i < N → 0 < zs i ∧ zs i ≤ 8192) :
 Calls Tryz.prog 96 #[.slice (some ⟨g, 0, none⟩) N c] w fun e w' => ∃ M v, e = .returned (.tuple #[.pointer (some ⟨w.heap.size, 0, none⟩), .int .i64 0]) ∧ DskAt w w' zs w.heap.size N M v := by
 have q1 : ¬ ((N : Int) < 1) := by omega
 have q2 : ¬ (34 < (N : Int)) := by omega
 have HC := Lib.hid hc
 have HZ := Lib.hid hz
 clear hc hz
 go_enter Tryz.func96, Tryz.ntmps96
 go_wp2
 obtain ⟨i0, hi0, hz0, hz1, hz2⟩ := info_parts info_pimg
 have hD0 : Has (w.alloc (.cells #[.slice none 0 0] 241)) w.heap.size 241 #[.slice none 0 0] := Has.new _ _ _
 have O0 : Old w (w.alloc (.cells #[.slice none 0 0] 241)) := (Upd.refl _ w).alloc _
 have hl0 : w.heap.size < (w.alloc (.cells #[.slice none 0 0] 241)).heap.size := by simp
 generalize w.alloc (.cells #[.slice none 0 0] 241) = W at *
 go_loopw [21] (fun i wr => ∃ (k : Nat) (M : Nat → Nat) (v : Value), k ≤ N ∧ i = .int .i64 k ∧ DskAt w wr zs w.heap.size k M v) (fun i _ => N - (intOf i).toNat)
 case atStart => exact ⟨0, fun _ => 0, .slice none 0 0, Nat.zero_le _, rfl, ⟨hD0, World.ownsRow_nil _ _ _ _, fun j hj => by omega, fun j hj => by omega, fun i j _ hj => by omega, fun b hb => (by cases hb), O0⟩⟩
 case round =>
  obtain ⟨k, M, v, hk, rfl, hA⟩ := hrel
  clear hD0 O0 hl0
  have HA := Lib.hid hA
  by_cases hkn : k < N
  ·have ck := Old.cellOf' hA.old (HC.out k hkn)
   have hz := HZ.out k hkn
   have hI := Lib.hid (fun w : World => img_new (w := w) hz.1 hz.2)
   obtain ⟨va, vc, rfl⟩ := own_slice hA.row
   have cD : wr.cell? ⟨w.heap.size, 0, none⟩ = some (.slice va k vc) := hA.hD.cell 0
   have lD : w.heap.size < wr.heap.size := hA.hD.lt
   have lDk : ∀ j, w.heap.size < wr.heap.size + j := fun j => by omega
   have fD : wr.frozen? ⟨w.heap.size, 0, none⟩ = false := hA.hD.frozen 0
   clear hA hz
   go_wp2_with (first | (go_at_call 174; refine (hI.out _).mono ?_; rintro e w1 ⟨rfl, rfl⟩) | (at_builtin; refine wpList_append_mk rfl (.tmp 36) (.tmp 38) 239 rfl 180 i0 (.pointer none) 1 8 Tryz.underlying239 hi0 hz0 hz1 hz2 rfl (by decide) (.slice va k vc) k _ rfl (by exact ((HA.out.row).alloc _).alloc _) ⟨wr.heap.size + 1, 0, none⟩ 1 1 [.pointer (some ⟨wr.heap.size, 0, none⟩)] rfl rfl (by simpa using one_new (wr.alloc _) _ _) (by simp [Value.oneCell']) (by unfold maxLen; omega) (by omega) ?_; intro v2 w2 hown2 hgrow2 _ hfresh2; obtain ⟨a2, c2, rfl⟩ := own_slice hown2; have U2 := ((((Upd.refl (fun b => (Value.slice va k vc).ownBlock = some b) wr).alloc _).alloc _).grown hgrow2 (fun k hk => .inl hk)); have hD2 := U2.has HA.out.hD (fun hF => (by have := HA.out.rnew _ hF; omega)); have cD2 : w2.cell? ⟨w.heap.size, 0, none⟩ = some (.slice va k vc) := hD2.cell 0; have fD2 : w2.frozen? ⟨w.heap.size, 0, none⟩ = false := hD2.frozen 0))
   have hfr : ∀ b, (Value.slice a2 (k + 1) c2).ownBlock = some b → w.heap.size < b := fun b hb => by
    rcases hfresh2 b hb with h | h
    ·exact HA.out.rnew b h
    ·simp at h; omega
   have hi : Has w2 wr.heap.size 265 #[.slice none 0 0, .int .i64 ((zs k : Nat) : Int), .int .i64 0] := by
    have h1 := Has.new wr 265 #[.slice none 0 0, .int .i64 ((zs k : Nat) : Int), .int .i64 0]
    refine (((Upd.refl (fun b => (Value.slice va k vc).ownBlock = some b) _).alloc _).grown hgrow2 (fun k hk => .inl hk)).has h1 (fun hF => ?_)
    have := (HA.out.row.lt _ hF).2
    omega
   have U3 := (Upd.refl (fun b => b = w.heap.size) w2).setCell ⟨w.heap.size, 0, none⟩ (.slice a2 (k + 1) c2) (.inl rfl)
   have hnew : DskAt w (w2.setCell ⟨w.heap.size, 0, none⟩ (.slice a2 (k + 1) c2)) zs w.heap.size (k + 1) (fun j => if j = k then wr.heap.size else M j) (.slice a2 (k + 1) c2) := by
    refine ⟨hD2.set 0 _, ?_, fun j hj => ?_, fun j hj => ?_, fun i j hij hj => ?_, hfr, ?_⟩
    ·have h := U3.own hown2 (fun b hb e => by have := hfr b hb; omega)
     have e : ((List.range (k + 1)).map fun j => Value.pointer (some ⟨(if j = k then wr.heap.size else M j), 0, none⟩)) = (List.range k).map (fun j => Value.pointer (some ⟨M j, 0, none⟩)) ++ [.pointer (some ⟨wr.heap.size, 0, none⟩)] := by
      rw [List.range_succ, List.map_append]
      congr 1
      ·refine List.map_congr_left fun j hj => ?_
       have : j ≠ k := by have := List.mem_range.1 hj; omega
       simp [this]
      ·simp
     rw [e]
     exact h
    ·by_cases e : j = k
     ·subst e
      simp only [↓reduceIte]
      exact U3.has hi (fun e => by have := HA.out.hD.lt; omega)
     ·simp only [if_neg e]
      have hjk : j < k := by omega
      have hm := HA.out.img j hjk
      refine U3.has (U2.has hm (fun hF => ?_)) (fun e => by have := HA.out.new j hjk; omega)
      obtain ⟨cur, hc⟩ := own_has HA.out.row hF
      unfold Has at hm hc
      rw [hm] at hc
      simp at hc
    ·by_cases e : j = k
     ·simp only [if_pos e]; exact HA.out.hD.lt
     ·simp only [if_neg e]; exact HA.out.new j (by omega)
    ·have hi : i ≠ k := by omega
     by_cases e : j = k
     ·simp only [if_pos e, if_neg hi]
      exact (HA.out.img i (by omega)).lt
     ·simp only [if_neg e, if_neg hi]
      exact HA.out.inc i j hij (by omega)
    ·have O2 : Old w w2 := HA.out.old.after U2 (fun b hb hF => by have := HA.out.rnew b hF; omega)
     exact O2.setCell _ _ (.inr (Nat.le_refl _))
   go_roundw
   case rel => exact ⟨k + 1, _, _, by omega, by go_num, hnew⟩
   case measure => simp [intOf]; omega
  ·obtain rfl : k = N := by omega
   go_wp2
   go_ret2
   exact ⟨M, v, rfl, HA.out⟩
theorem timer_new {w : World} :
 Calls Tryz.prog 98 #[] w fun e w' => e = .returned (.pointer (some ⟨w.heap.size, 0, none⟩)) ∧ w.alloc (.cells #[.bool true, .pointer none] 184) = w' := by
 go_enter Tryz.func98, Tryz.ntmps98
 go_wp2
 go_ret
 exact ⟨rfl, by simp⟩
theorem own_full {w : World} {g n : Nat} {t : TypeId} {xs : List Value} (h : Has w g t xs.toArray) (hl : xs.length = n) (hn : n ≤ maxLen) : w.ownsRow 0 t 1 (.slice (some ⟨g, 0, none⟩) n n) n xs :=
 ⟨by omega, .inr ⟨g, n, xs.toArray, rfl, Nat.zero_le _, h, Nat.le_refl _, hn, by simp [hl], by simp only [Nat.mul_one]; rw [List.take_of_length_le (by omega)]⟩⟩
theorem two_new (w : World) (x y : Value) (t : TypeId) : ∀ j u, [x, y][j]? = some u → (w.alloc (.cells #[x, y] t)).cell? ((⟨w.heap.size, 0, none⟩ : Addr).add j) = some u := by
 intro j u hj
 rw [Addr.add_lit, (Has.new w t #[x, y]).cell]
 simpa using hj
theorem sizes_cells {w : World} {g n c size : Nat} {t : TypeId} (own : w.ownsRow 0 t 1 (.slice (some ⟨g, 0, none⟩) (n + 2) c) (n + 2) (List.replicate n (.int .i64 ((size : Nat) : Int)) ++ [.int .i64 64, .int .i64 64])) : ∀ i, i < n + 2 → w.cell? ⟨g, i, none⟩ = some (.int .i64 (((if i < n then size else 64 : Nat)) : Int)) := by
 intro i hi
 have h := own.cells (g := g) rfl i
 rw [Addr.add_lit] at h
 simp only [Nat.zero_add] at h
 refine h _ ?_
 by_cases e : i < n
 ·rw [List.getElem?_append_left (by simpa using e), List.getElem?_replicate, if_pos e, if_pos e]
 ·rw [List.getElem?_append_right (by simp; omega), if_neg e]
  have : i - n = 0 ∨ i - n = 1 := by omega
  rcases this with h | h <;> simp [h]
theorem sizes_ok {n size : Nat} (hs : 0 < size) (hs2 : size ≤ 8192) : ∀ i, i < n + 2 → 0 < (if i < n then size else 64) ∧ (if i < n then size else 64) ≤ 8192 := by
 intro i _
 split <;> omega
theorem DskAt.after {w0 w1 w w' : World} {zs : Nat → Nat} {D k : Nat} {M : Nat → Nat} {v : Value} (h : DskAt w1 w zs D k M v) (O0 : Old w0 w1) (O : Old w w') : DskAt w0 w' zs D k M v :=
 ⟨O.has h.hD, Upd.own O h.row (fun _ _ x => x), fun j hj => O.has (h.img j hj), h.new, h.inc, h.rnew, (O0.trans h.old).trans O⟩
def NewDev (w : World) (n size : Nat) (e : Ending) (w' : World) : Prop := ∃ (D K T : Nat) (M : Nat → Nat) (v : Value), e = .returned (.tuple #[.pointer (some ⟨D, 0, none⟩), .int .i64 0]) ∧
 Has w' D 112 #[.pointer (some ⟨K, 0, none⟩), .pointer (some ⟨T, 0, none⟩), .int .i64 ((n : Nat) : Int), .int .i64 0, .bool false] ∧ Has w' T 184 #[.bool true, .pointer none] ∧
 DskAt w w' (fun i => if i < n then size else 64) K (n + 2) M v ∧ w.heap.size ≤ K ∧ (∀ j, j < n + 2 → M j < T) ∧ K < T ∧ T < D
theorem dev_new {w : World} {n size : Nat} (h0 : 1 < n) (h1 : n ≤ 10) (hs : 0 < size) (hs2 : size ≤ 8192) :
 Calls Tryz.prog 37 #[.int .i64 ((n : Nat) : Int), .int .i64 ((size : Nat) : Int)] w (NewDev w n size) := by
 have q1 : ¬ ((n : Int) < 2) := by omega
 have q2 : ¬ (32 < (n : Int)) := by omega
 obtain ⟨i0, hi0, hz0, hz1, hz2⟩ := info_parts info_int
 go_enter Tryz.func37, Tryz.ntmps37
 go_wp2_with (first | (go_at_call 97; refine (srepeat h0 h1 (by simp; rfl)).mono ?_; rintro e w1 ⟨rfl, hrow, hO⟩; simp only [World.size_alloc] at hrow; have O1 := Lib.hid (((Upd.refl (fun _ => False) w).alloc _).trans hO); have HR := Lib.hid (own_full hrow (List.length_replicate) (show n ≤ maxLen by unfold maxLen; omega)); have hl1 : w.heap.size + 1 < w1.heap.size := hrow.lt; clear hrow hO) | (at_builtin; refine wpList_append_mk rfl (.tmp 18) (.tmp 19) 48 rfl 3 i0 (.int .i64 0) 1 8 Tryz.underlying48 hi0 hz0 hz1 hz2 rfl (by decide) (.slice (some ⟨w.heap.size + 1, 0, none⟩) n n) n _ rfl (by exact (HR.out).alloc _) ⟨w1.heap.size, 0, none⟩ 2 2 [.int .i64 64, .int .i64 64] rfl rfl (two_new w1 _ _ _) (by simp [Value.oneCell']) (by unfold maxLen; omega) (by omega) ?_; intro v2 w2 hown2 hgrow2 _ hfresh2; obtain ⟨g2, c2, rfl⟩ := own_block hown2 (by omega); have HC2 := Lib.hid (sizes_cells hown2); have O2 := Lib.hid ((O1.out.alloc _).grown hgrow2 (fun k hk => .inr (by simp [Value.ownBlock] at hk; omega))); clear hown2 hgrow2 hfresh2) | (go_at_call 96; refine (disk_new (N := n + 2) (zs := fun i => if i < n then size else 64) (by omega) (by omega) (by exact HC2.out) (sizes_ok hs hs2)).mono ?_; rintro e w3 ⟨M, v, rfl, hA⟩) | (go_at_call 98; refine timer_new.mono ?_; rintro e w5 ⟨rfl, rfl⟩))
 go_ret2
 have hT := Has.new w3 184 #[.bool true, .pointer none]
 have hD := has_new1 w3 (.cells #[.bool true, .pointer none] 184) 112 #[.pointer (some ⟨w2.heap.size, 0, none⟩), .pointer (some ⟨w3.heap.size, 0, none⟩), .int .i64 ((n : Nat) : Int), .int .i64 0, .bool false]
 exact ⟨_, _, _, M, v, rfl, hD, hT.alloc _, hA.after O2.out (((Upd.refl _ w3).alloc _).alloc _), O2.out.size, fun j hj => (hA.img j hj).lt, hA.hD.lt, by omega⟩
end Go.M
