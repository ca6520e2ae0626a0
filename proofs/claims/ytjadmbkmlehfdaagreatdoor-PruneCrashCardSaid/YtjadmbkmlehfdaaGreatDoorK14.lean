/- Walks 14. -/
import Derived.Test.YtjadmbkmlehfdaaGreatDoorProg
import Derived.Test.YtjadmbkmlehfdaaGreatDoorK2
import Derived.Test.YtjadmbkmlehfdaaGreatDoorK3
import Derived.Test.YtjadmbkmlehfdaaGreatDoorK8
import Derived.Test.YtjadmbkmlehfdaaGreatDoorK11
import Derived.Test.YtjadmbkmlehfdaaGreatDoorK13
import Derived.Test.YtjadmbkmlehfdaaGreatDoorK5
set_option linter.unusedVariables false
set_option linter.unusedSimpArgs false
set_option maxRecDepth 100000
namespace Go.M
open Go.Proofs Go.RowKit
def TabOk (t : Array Value) : Prop := t.size = 256 ∧ ∀ i, i < 256 → t[i]? = some (.int .u32 (Int.ofNat (step8 i)))
def Lk (w w' : World) : Prop := w.heap.size ≤ w'.heap.size ∧ (∀ C, C < w.heap.size → w'.heap[C]? = w.heap[C]?) ∧ w'.os = w.os ∧ w'.tape = w.tape ∧ w'.output = w.output
theorem bits_xor_u32_nat (a b : Nat) (ha : a < 4294967296) (hb : b < 4294967296) : bits .xor .u32 (a : Int) (b : Int) = ((a ^^^ b : Nat) : Int) := by
 have hx : a ^^^ b < 2 ^ 32 := Nat.xor_lt_two_pow (by omega) (by omega)
 have h1 : (BitVec.ofInt 32 (a : Int)).toNat = a := by
  rw [BitVec.ofInt_natCast, BitVec.toNat_ofNat]; exact Nat.mod_eq_of_lt (by omega)
 have h2 : (BitVec.ofInt 32 (b : Int)).toNat = b := by
  rw [BitVec.ofInt_natCast, BitVec.toNat_ofNat]; exact Nat.mod_eq_of_lt (by omega)
 show IntKind.u32.wrap ((BitVec.ofInt 32 (a : Int) ^^^ BitVec.ofInt 32 (b : Int)).toNat : Int) = _
 rw [BitVec.toNat_xor, h1, h2, show ∀ n : Int, IntKind.u32.wrap n = n % 4294967296 from fun n => by simp [IntKind.wrap, IntKind.bits, IntKind.signed]]
 omega
theorem bits_xor_u8_nat (a b : Nat) (ha : a < 256) (hb : b < 256) : bits .xor .u8 (a : Int) (b : Int) = ((a ^^^ b : Nat) : Int) := by
 have hx : a ^^^ b < 2 ^ 8 := Nat.xor_lt_two_pow (by omega) (by omega)
 have h1 : (BitVec.ofInt 8 (a : Int)).toNat = a := by
  rw [BitVec.ofInt_natCast, BitVec.toNat_ofNat]; exact Nat.mod_eq_of_lt (by omega)
 have h2 : (BitVec.ofInt 8 (b : Int)).toNat = b := by
  rw [BitVec.ofInt_natCast, BitVec.toNat_ofNat]; exact Nat.mod_eq_of_lt (by omega)
 show IntKind.u8.wrap ((BitVec.ofInt 8 (a : Int) ^^^ BitVec.ofInt 8 (b : Int)).toNat : Int) = _
 rw [BitVec.toNat_xor, h1, h2, show ∀ n : Int, IntKind.u8.wrap n = n % 256 from fun n => by simp [IntKind.wrap, IntKind.bits, IntKind.signed]]
 omega
theorem ret_u32 {a b : Int} (h : a = b) : Ending.returned (.int .u32 a) = .returned (.int .u32 b) := by rw [h]
theorem bits_and1_u32 (a : Nat) (ha : a < 4294967296) : bits .and .u32 (a : Int) 1 = ((a % 2 : Nat) : Int) := by
 have h1 : (BitVec.ofInt 32 (a : Int)).toNat = a := by
  rw [BitVec.ofInt_natCast, BitVec.toNat_ofNat]; exact Nat.mod_eq_of_lt (by omega)
 have h2 : (BitVec.ofInt 32 (1 : Int)).toNat = 1 := by decide
 show IntKind.u32.wrap ((BitVec.ofInt 32 (a : Int) &&& BitVec.ofInt 32 (1 : Int)).toNat : Int) = _
 rw [BitVec.toNat_and, h1, h2, Nat.and_one_is_mod, show ∀ n : Int, IntKind.u32.wrap n = n % 4294967296 from fun n => by simp [IntKind.wrap, IntKind.bits, IntKind.signed]]
 omega
def stepN (x : Nat) : Nat → Nat
 | 0 => x
 | k + 1 => crcStep (stepN x k)
theorem stepN_lt {x : Nat} (h : x < 4294967296) (k : Nat) : stepN x k < 4294967296 := by
 induction k with
 | zero => exact h
 | succ k ih => unfold stepN; exact crcStep_lt ih
theorem table_walk {w : World} : Calls Tryz.prog 273 #[] w fun e w' => ∃ t, e = .returned (.agg t) ∧ TabOk t ∧ Lk w w' := by
 go_enter Tryz.func273, Tryz.ntmps273
 go_wp2
 have hz : Tryz.zeroCells327.size = 256 := by kernel_rfl
 have h0 : Has ((w.alloc (Obj.cells Tryz.zeroCells327 327)).alloc (Obj.cells Tryz.zeroCells327 327)) (w.heap.size + 1) 327 Tryz.zeroCells327 := by
  have := Has.new (w.alloc (Obj.cells Tryz.zeroCells327 327)) 327 Tryz.zeroCells327
  simpa using this
 have h1 : Has ((w.alloc (Obj.cells Tryz.zeroCells327 327)).alloc (Obj.cells Tryz.zeroCells327 327)) w.heap.size 327 Tryz.zeroCells327 := (Has.new w 327 Tryz.zeroCells327).alloc _
 have hO : Old w ((w.alloc (Obj.cells Tryz.zeroCells327 327)).alloc (Obj.cells Tryz.zeroCells327 327)) := ((Upd.refl _ w).alloc _).alloc _
 generalize ((w.alloc (Obj.cells Tryz.zeroCells327 327)).alloc (Obj.cells Tryz.zeroCells327 327)) = W at *
 go_loopw [4] (fun i wr => ∃ k : Nat, k ≤ 256 ∧ i = .int .i64 k ∧ Has wr w.heap.size 327 Tryz.zeroCells327 ∧ (∃ cur : Array Value, Has wr (w.heap.size + 1) 327 cur ∧ cur.size = 256 ∧ ∀ j, j < k → cur[j]? = some (.int .u32 (Int.ofNat (step8 j)))) ∧ Old w wr) (fun i _ => 256 - (intOf i).toNat)
 case atStart => exact ⟨0, by omega, rfl, h1, ⟨_, h0, hz, fun j hj => by omega⟩, hO⟩
 case round =>
  obtain ⟨k, hk, rfl, hR, ⟨cur, hT, hcs, hcj⟩, hO2⟩ := hrel
  clear h0 h1 hO
  by_cases hlt : k < 256
  ·have cT : wr.cell? ⟨w.heap.size + 1, k, none⟩ = some cur[k] := by rw [hT.cell, Array.getElem?_eq_getElem (by omega)]
   have fT : wr.frozen? ⟨w.heap.size + 1, k, none⟩ = false := hT.frozen k
   have HR := Lib.hid hR
   have HT := Lib.hid hT
   have HJ := Lib.hid hcj
   have HO := Lib.hid hO2
   clear hR hcj hO2 hT
   go_wp2
   go_loop [3, 9] (fun x i => ∃ j : Nat, j ≤ 8 ∧ i = .int .i64 j ∧ x = .int .u32 (((stepN k j) : Nat) : Int)) (fun _ i => 8 - (intOf i).toNat)
   case atStart => exact ⟨0, by omega, rfl, rfl⟩
   case round =>
    obtain ⟨j, hj, rfl, rfl⟩ := hrel
    have hl := stepN_lt (show k < 4294967296 by omega) j
    by_cases hj8 : j < 8
    ·generalize hS : stepN k j = x at *
     have HS : Hid (stepN k (j + 1) = crcStep x) := by rw [← hS]; exact rfl
     clear hS
     have ha := bits_and1_u32 x hl
     have e32 : bits .xor .u32 ((x : Int) / 2) 3988292384 = ((x / 2 ^^^ 3988292384 : Nat) : Int) := bits_xor_u32_nat (x / 2) 3988292384 (by omega) (by decide)
     go_wp2_with fail
     ·rename_i h
      go_round
      case rel =>
       have h1 : x % 2 = 1 := by simp at h; omega
       exact ⟨j + 1, by omega, by go_num, by rw [HS.out]; simp [crcStep, h1]⟩
      case measure => simp [intOf]; omega
     ·rename_i h
      go_round
      case rel =>
       have h1 : ¬ x % 2 = 1 := by simp at h; omega
       exact ⟨j + 1, by omega, by go_num, by rw [HS.out]; simp [crcStep, h1]⟩
      case measure => simp [intOf]; omega
    ·obtain rfl : j = 8 := by omega
     go_wp2_with fail
     go_roundw
     case rel => exact ⟨k + 1, by omega, by go_num, HR.out.setOther (by simp) _, ⟨_, HT.out.set k _, by simpa using hcs, fun j hj => by
      by_cases e : j = k
      ·subst e
       rw [Array.getElem?_setIfInBounds_self_of_lt (by omega)]
       rfl
      ·rw [Array.getElem?_setIfInBounds_ne (by omega)]
       exact HJ.out j (by omega)⟩, HO.out.setCell _ _ (.inr (by simp))⟩
     case measure => simp [intOf]; omega
  ·obtain rfl : k = 256 := by omega
   have HR := Lib.hid hR
   have HT := Lib.hid hT
   have HJ := Lib.hid hcj
   have HO := Lib.hid hO2
   clear hR hT hcj hO2
   go_wp2_with (first | (refine wpList_load_row rfl 327 (.tmp 1) rfl (w.heap.size + 1) rfl 327 cur (0, 0) _ HT.out Tryz.underlying327 rfl (by rw [hcs]; kernel_rfl) ?_) | (refine wpList_store_row rfl 327 (.tmp 0) (.tmp 24) rfl w.heap.size cur rfl rfl 327 _ HR.out (by rw [hcs]; kernel_rfl) (by rw [hcs, hz]) ?c1 ?_))
   case c1 =>
    rw [Array.all_eq_true]
    intro i hi
    have := HJ.out i (by omega)
    rw [Array.getElem?_eq_getElem hi] at this
    simp only [Option.some.injEq] at this
    rw [this]; rfl
   refine bodyPost_ret (results_cell_row rfl _ _ w.heap.size 327 cur (0, 0) _ rfl (setRow_heap _ _ _ _ _ _ HR.out) Tryz.underlying327 rfl (by rw [hcs]; kernel_rfl)) rfl ?_
   refine ⟨cur, rfl, ⟨hcs, HJ.out⟩, ?_⟩
   have hO3 : Old w (wr.setRow w.heap.size cur) := ⟨by simpa using HO.out.size, fun b hb _ => by rw [setRow_other _ _ _ _ (by omega)]; exact HO.out.keep b hb (fun x => x), HO.out.tape, HO.out.os, HO.out.out⟩
   exact ⟨hO3.size, fun C hC => hO3.keep C hC (fun x => x), hO3.os, hO3.tape, hO3.out⟩
theorem tab_one {t : Array Value} (ht : TabOk t) : (t.all fun x => x.oneCell') = true := by
 rw [Array.all_eq_true]
 intro i hi
 have := ht.2 i (by have := ht.1; omega)
 rw [Array.getElem?_eq_getElem hi] at this
 simp only [Option.some.injEq] at this
 rw [this]; rfl
theorem update_walk (B o n c : Nat) (bs : List Nat) (w : World) (hn : bs.length = n) (hbig : n ≤ 9223372036854775807) (hb : ∀ b ∈ bs, b < 256)
 (hc : ∀ j b, bs[j]? = some b → w.cell? ⟨B, o + j, none⟩ = some (.int .u8 (Int.ofNat b))) :
 Calls Tryz.prog 248 #[.int .u32 0, .slice (some ⟨B, o, none⟩) n c] w fun e w' => e = .returned (.int .u32 (Int.ofNat (crcG bs))) ∧ Lk w w' := by
 go_enter Tryz.func248, Tryz.ntmps248
 go_wp2_with (first | (go_at_call 273; refine table_walk.mono ?_; rintro e w1 ⟨t, rfl, ht, hk⟩; have hts := ht.1; have hta := tab_one ht; have hiA : Option.map (fun x => x.size) (Tryz.prog.info? 327) = some t.size := (by rw [hts]; kernel_rfl); have hzA : Tryz.zeroCells327.size = t.size := (by rw [hts]; kernel_rfl)) | (refine wpList_store_row rfl 327 (.tmp 5) (.tmp 9) rfl w1.heap.size t rfl rfl 327 _ (heap_alloc_new _ _) hiA hzA hta ?_))
 obtain ⟨W, hW⟩ : ∃ W, ((w1.alloc (Obj.cells Tryz.zeroCells327 327)).setRow w1.heap.size t) = W := ⟨_, rfl⟩
 rw [hW]
 have hold : ∀ C, C < w.heap.size → W.heap[C]? = w.heap[C]? := by
  intro C hC
  rw [← hW, setRow_other _ _ _ _ (by have := hk.1; omega), Go.heap_alloc_old _ _ (by have := hk.1; omega)]
  exact hk.2.1 C hC
 have hcb : ∀ j, j < n → W.cell? ⟨B, o + j, none⟩ = some (.int .u8 (Int.ofNat (bs.getD j 0))) := by
  intro j hj
  have h1 := hc j (bs.getD j 0) (by rw [List.getD_eq_getElem?_getD, List.getElem?_eq_getElem (by omega)]; rfl)
  have hB : B < w.heap.size := block_lt_of_cell h1
  have : W.cell? ⟨B, o + j, none⟩ = w.cell? ⟨B, o + j, none⟩ := by simp only [World.cell?, hold B hB]
  rw [this, h1]
 have hct : ∀ j, j < 256 → W.cell? ⟨w1.heap.size, j, none⟩ = some (.int .u32 (Int.ofNat (step8 j))) := by
  intro j hj
  rw [← hW, cell_setRow_same _ _ _ _ _ _ _ (heap_alloc_new _ _)]
  exact ht.2 j hj
 have hLk : Lk w W := by
  refine ⟨?_, hold, ?_, ?_, ?_⟩
  ·rw [← hW]; simp; have := hk.1; omega
  ·rw [← hW]; exact hk.2.2.1
  ·rw [← hW]; exact hk.2.2.2.1
  ·rw [← hW]; exact hk.2.2.2.2
 clear hk hW hold hc hiA hzA hta hts
 have HN := Lib.hid hn; clear hn
 have HBS := Lib.hid hb; clear hb
 have HCB := Lib.hid hcb; clear hcb
 have HCT := Lib.hid hct; clear hct
 go_loop [6, 8, 14] (fun x _ i => ∃ k : Nat, k ≤ n ∧ i = .int .i64 k ∧ x = .int .u32 (Int.ofNat ((bs.take k).foldl crcByte 4294967295))) (fun _ _ i => n - (intOf i).toNat)
 case atStart => exact ⟨0, Nat.zero_le _, rfl, by simp; decide⟩
 case round =>
  obtain ⟨k, hk, rfl, rfl⟩ := hrel
  have hX4 : (bs.take k).foldl crcByte 4294967295 < 4294967296 := crcFold_lt _ _ (by decide) (fun b hb => HBS.out b (List.mem_of_mem_take hb))
  by_cases hlt : k < n
  ·have hcell := HCB.out k hlt
   have HS := Lib.hid (fold_take bs 4294967295 k (by rw [HN.out]; exact hlt))
   have hb4 : bs.getD k 0 < 256 := HBS.out _ (by rw [List.getD_eq_getElem?_getD, List.getElem?_eq_getElem (by rw [HN.out]; exact hlt)]; exact List.getElem_mem _)
   generalize hX : (bs.take k).foldl crcByte 4294967295 = X at *
   generalize hB : bs.getD k 0 = b at *
   clear hX hB
   have HT8 := Lib.hid (crcByte_table X b hb4)
   have e8 : bits .xor .u8 ((X : Int) % 256) (b : Int) = ((X % 256 ^^^ b : Nat) : Int) := bits_xor_u8_nat (X % 256) b (Nat.mod_lt _ (by decide)) hb4
   have h8 : X % 256 ^^^ b < 256 := Nat.xor_lt_two_pow (n := 8) (by omega) hb4
   have hcell2 := HCT.out (X % 256 ^^^ b) h8
   have hs4 : step8 (X % 256 ^^^ b) < 4294967296 := step8_lt (by omega)
   generalize hv : X % 256 ^^^ b = v at *
   have e32 : bits .xor .u32 (step8 v : Int) ((X : Int) / 256) = ((step8 v ^^^ X / 256 : Nat) : Int) := bits_xor_u32_nat (step8 v) (X / 256) hs4 (by omega)
   clear hv
   generalize hs : step8 v = s at *
   clear hs
   go_wp2_with fail
   refine ⟨⟨k + 1, by omega, by go_num, ?_⟩, by simp [intOf]; omega⟩
   rw [HS.out, HT8.out]
   rfl
  ·obtain rfl : k = n := by omega
   have HF : Hid (List.foldl crcByte 4294967295 (List.take k bs) = List.foldl crcByte 4294967295 bs) := by rw [List.take_of_length_le (by rw [HN.out]; exact Nat.le_refl _)]; exact rfl
   have eF : bits .xor .u32 (Int.ofNat (List.foldl crcByte 4294967295 (List.take k bs))) 4294967295 = Int.ofNat (List.foldl crcByte 4294967295 (List.take k bs) ^^^ 4294967295) := bits_xor_u32_nat _ 4294967295 hX4 (by decide)
   have HE := Lib.hid eF; clear eF
   go_wp2_with fail
   go_ret
   refine ⟨ret_u32 ?_, hLk⟩
   rw [crcG, ← HF.out]
   exact HE.out
theorem sum_walk (B o n c : Nat) (bs : List Nat) (w : World) (hn : bs.length = n) (hbig : n ≤ 9223372036854775807) (hb : ∀ b ∈ bs, b < 256)
 (hc : ∀ j b, bs[j]? = some b → w.cell? ⟨B, o + j, none⟩ = some (.int .u8 (Int.ofNat b))) :
 Calls Tryz.prog 180 #[.slice (some ⟨B, o, none⟩) n c] w fun e w' => e = .returned (.int .u32 (Int.ofNat (crcG bs))) ∧ Lk w w' := by
 have HU := Lib.hid (update_walk B o n c bs w hn hbig hb hc)
 clear hn hb hc
 go_enter Tryz.func180, Tryz.ntmps180
 go_wp2_with (go_at_call 248; refine HU.out.mono ?_; rintro e w1 ⟨rfl, hk⟩)
 go_ret
 exact ⟨rfl, hk⟩
def HEnc (sum kind key val seq : Nat) : Prop := ∀ w : World, Calls Tryz.prog 179 #[.agg #[.int .u32 ((sum : Nat) : Int), .int .i64 ((kind : Nat) : Int), .int .i64 ((key : Nat) : Int), .int .i64 ((val : Nat) : Int), .int .i64 ((seq : Nat) : Int)]] w (NewRow2 w 5 1 16 ((hdrB sum kind key val seq 5).map bcell))
theorem byteCells_bcell (s : ByteArray) : byteCells s = s.data.toList.map bcell := by
 unfold byteCells bcell
 rfl
theorem own_cap {w : World} {e : TypeId} {size n g c : Nat} {xs : List Value} (own : w.ownsRow 0 e size (.slice (some ⟨g, 0, none⟩) n c) n xs) : n ≤ c ∧ c ≤ maxLen := by
 rcases own.2 with ⟨h1, h2⟩ | ⟨g', c', cur, h1, _, _, h2, h3, _⟩
 ·cases h1
 ·injection h1 with _ _ e3
  subst e3
  exact ⟨h2, h3⟩
theorem own_src {w : World} {k n c o : Nat} {xs : List Value} {e : TypeId} {size : Nat} (own : w.ownsRow 0 e size (.slice (some ⟨k, 0, none⟩) n c) n xs) : ∀ j u, (xs.drop o)[j]? = some u → w.cell? ((⟨k, o, none⟩ : Addr).add j) = some u := by
 intro j u hj
 rw [List.getElem?_drop] at hj
 have h := own.cells (g := k) rfl _ _ hj
 rw [Addr.add_lit] at h ⊢
 simpa using h
theorem sum_own {w : World} {k n c o m c' : Nat} {X : List UInt8} (own : w.ownsRow 0 5 1 (.slice (some ⟨k, 0, none⟩) n c) n (X.map bcell)) (hm : o + m = n) (hn : n ≤ 100000) :
 Calls Tryz.prog 180 #[.slice (some ⟨k, o, none⟩) m c'] w fun e w' => ∃ s : Nat, s < 4294967296 ∧ e = .returned (.int .u32 ((s : Nat) : Int)) ∧ Old w w' := by
 have hl : X.length = n := by simpa using own.1
 have hb : ∀ b ∈ (X.drop o).map UInt8.toNat, b < 256 := by
  intro b hb
  obtain ⟨x, _, rfl⟩ := List.mem_map.1 hb
  exact x.toNat_lt
 have hcell := own.cells (g := k) rfl
 refine (sum_walk k o m c' ((X.drop o).map UInt8.toNat) w (by simp; omega) (by omega) hb ?_).mono ?_
 ·intro j b hj
  have h1 : (X.map bcell)[o + j]? = some (.int .u8 (Int.ofNat b)) := by
   rw [List.getElem?_map, List.getElem?_drop] at hj
   rw [List.getElem?_map]
   cases h : X[o + j]? with
   | none => simp [h] at hj
   | some x =>
    simp only [h, Option.map_some, Option.some.injEq] at hj
    subst hj
    rfl
  have h2 := hcell _ _ h1
  rw [Addr.add_lit] at h2
  simpa using h2
 ·rintro e w' ⟨rfl, h⟩
  exact ⟨_, crcG_lt _ hb, rfl, h.1, fun b hb _ => h.2.1 b hb, h.2.2.2.1, h.2.2.1, h.2.2.2.2⟩
theorem clip_walk {w : World} {ad : Addr} {n c : Nat} (h : n ≤ c) :
 Calls Tryz.prog 181 #[.slice (some ad) n c] w fun e w' => e = .returned (.slice (some ad) n n) ∧ w = w' := by
 go_enter Tryz.func181, Tryz.ntmps181
 go_wp2
 go_ret
 exact ⟨by simp, rfl⟩
def Fresh (w : World) (v : Value) : Prop := ∀ ad n c, v = .slice (some ad) n c → w.heap.size ≤ ad.block
theorem rencode {w : World} {kind seq : Nat} {key val : ByteArray} (hk : 0 < key.size) (hk2 : key.size ≤ 32) (hv : val.size ≤ 512)
 (HC : ∀ w : World, Calls Tryz.prog 178 #[.agg #[.int .i64 ((kind : Nat) : Int), .int .i64 ((seq : Nat) : Int), .string key, .string val]] w fun e w' => e = .returned (.int .i64 0) ∧ Old w w')
 (HE : ∀ sum, sum < 4294967296 → HEnc sum kind key.size val.size seq) :
 Calls Tryz.prog 103 #[.agg #[.int .i64 ((kind : Nat) : Int), .int .i64 ((seq : Nat) : Int), .string key, .string val]] w fun e w' => ∃ v bs, e = .returned (.tuple #[v, .int .i64 0]) ∧ BytesAt w' v bs ∧ bs.length = 16 + key.size + val.size ∧ Old w w' ∧ Fresh w v := by
 have H := Lib.hid HC
 have HEE := Lib.hid HE
 clear HC HE
 obtain ⟨i0, hi0, hz0, hz1, hz2⟩ := info_parts info_u8r
 go_enter Tryz.func103, Tryz.ntmps103
 go_wp2_with (first | (go_at_call 178; refine (H.out _).mono ?_; rintro e w1 ⟨rfl, hO⟩; have c0 : w1.cell? ⟨w.heap.size, 0, none⟩ = some (.int .i64 ((kind : Nat) : Int)) := Old.cellOf' hO (by simp); have c1 : w1.cell? ⟨w.heap.size, 1, none⟩ = some (.int .i64 ((seq : Nat) : Int)) := Old.cellOf' hO (by simp); have c2 : w1.cell? ⟨w.heap.size, 2, none⟩ = some (.string key) := Old.cellOf' hO (by simp); have c3 : w1.cell? ⟨w.heap.size, 3, none⟩ = some (.string val) := Old.cellOf' hO (by simp); have hlw0 := Lib.hid (show w.heap.size + 1 ≤ w1.heap.size by simpa using hO.size); have O1 := Lib.hid ((Upd.alloc (Upd.refl (fun _ => False) w) _).trans hO); clear hO) | (go_at_call 179; refine (HEE.out 0 (by omega) _).mono ?_; rintro e w2 ⟨v2, rfl, hown, hO, hfr⟩))
 have c2 := Old.cellOf' hO (Old.cellOf' ((Upd.refl _ w1).alloc _) c2)
 have c3 := Old.cellOf' hO (Old.cellOf' ((Upd.refl _ w1).alloc _) c3)
 have hH : Has w2 w1.heap.size 255 #[.int .u32 0, .int .i64 ((kind : Nat) : Int), .int .i64 ((key.size : Nat) : Int), .int .i64 ((val.size : Nat) : Int), .int .i64 ((seq : Nat) : Int)] := Old.has hO (Has.new _ _ _)
 obtain ⟨g, cap, rfl⟩ := own_block hown (by omega)
 have hgf : w1.heap.size + 1 ≤ g := by have := hfr g rfl; simpa using this
 have hlw : w.heap.size + 1 ≤ w1.heap.size := hlw0.out
 have hl2 : w1.heap.size + 1 ≤ w2.heap.size := by simpa using hO.size
 have HO1 := Lib.hid hO
 have HW := Lib.hid hown
 clear hO hfr hown H
 go_region_held3 (fun x => x.cell? ⟨w.heap.size, 2, none⟩ = some (.string key) ∧ x.cell? ⟨w.heap.size, 3, none⟩ = some (.string val))
  (first | go_keep | (exact ⟨E2, E3⟩))
  (first | (refine wp_append_str (.tmp 33) (.tmp 35) 77 9 rfl 5 i0 (.int .u8 0) Tryz.underlying77 Tryz.underlying9 hi0 hz0 hz1 hz2 rfl g 16 cap _ rfl (by exact HW.out) key rfl (by omega) ?_; intro k1 e1 w3 hown1 hg1 hk1; have U1 := ((Upd.refl (fun b => g = b) w2).drew).grown hg1 (fun k hk => .inl (by simpa using hk)); have E2 := U1.cellOf c2 (fun e : g = w.heap.size => by omega); have E3 := U1.cellOf c3 (fun e : g = w.heap.size => by omega); have HW1 := Lib.hid hown1; have HU1 := Lib.hid U1; clear hown1 hg1 U1) | (refine wp_append_str (.tmp 36) (.tmp 38) 77 9 rfl 5 i0 (.int .u8 0) Tryz.underlying77 Tryz.underlying9 hi0 hz0 hz1 hz2 rfl k1 (16 + key.size) e1 _ rfl (by exact HW1.out) val rfl (by omega) ?_; intro k2 e2 w4 hown2 hg2 hk2; have U2 := ((Upd.refl (fun b => k1 = b) w3)).grown hg2 (fun k hk => .inl (by simpa using hk)); have HW2 := Lib.hid hown2; have HU2 := Lib.hid U2; have E2 := U2.cellOf E2 (fun e : k1 = w.heap.size => by have := HU1.out.size; simp at hk1; omega); have E3 := U2.cellOf E3 (fun e : k1 = w.heap.size => by have := HU1.out.size; simp at hk1; omega); clear hown2 hg2 U2))
 have e13 : g ≠ w1.heap.size := by omega
 have e23 : k1 ≠ w1.heap.size := by simp at hk1; omega
 have e33 : w1.heap.size + 1 ≤ k2 := by have := HU1.out.size; simp at hk1; omega
 have hk1f : w.heap.size ≤ k1 := by have := hlw0.out; simp at hk1; omega
 have hH4 := Lib.hid (HU2.out.has (HU1.out.has hH e13) e23)
 have O4 := Lib.hid (show Old w w4 from ((((O1.out.alloc _).trans HO1.out).after HU1.out (fun b hb hf => by omega)).after HU2.out (fun b hb hf => by omega)))
 have hsz4 : w1.heap.size + 1 ≤ w4.heap.size := by have := HU1.out.size; have := HU2.out.size; omega
 have hX : w4.ownsRow 0 5 1 (.slice (some ⟨k2, 0, none⟩) (16 + key.size + val.size) e2) (16 + key.size + val.size) ((hdrB 0 kind key.size val.size seq 5 ++ key.data.toList ++ val.data.toList).map bcell) := by
  rw [List.map_append, List.map_append, ← byteCells_bcell, ← byteCells_bcell]
  exact HW2.out
 have HX := Lib.hid hX
 have hcap := (own_cap hX).1
 have HL1 := Lib.hid hlw0.out
 clear hX HW2 HW1 HW HU1 HU2 HO1 O1 hlw0 c0 c1 c2 c3 E2 hk1 hk2 hH
 rename_i hHeld
 clear hHeld
 have L5 : ∀ k, w1.heap.size < w4.heap.size + k := fun k => by omega
 go_wp2_with (first | (go_at_call 180; refine (sum_own HX.out (by omega) (by omega)).mono ?_; rintro e w5 ⟨s, hs, rfl, hO5⟩; have H5 := hO5.has hH4.out; have d0 : w5.cell? ⟨w1.heap.size, 0, none⟩ = some (.int .u32 0) := H5.cell 0; have d1 : w5.cell? ⟨w1.heap.size, 1, none⟩ = some (.int .i64 ((kind : Nat) : Int)) := H5.cell 1; have d2 : w5.cell? ⟨w1.heap.size, 2, none⟩ = some (.int .i64 ((key.size : Nat) : Int)) := H5.cell 2; have d3 : w5.cell? ⟨w1.heap.size, 3, none⟩ = some (.int .i64 ((val.size : Nat) : Int)) := H5.cell 3; have d4 : w5.cell? ⟨w1.heap.size, 4, none⟩ = some (.int .i64 ((seq : Nat) : Int)) := H5.cell 4; have fz : w5.frozen? ⟨w1.heap.size, 0, none⟩ = false := H5.frozen 0; have HO5 := Lib.hid hO5; clear hO5 H5) | (go_at_call 179; refine (HEE.out s hs _).mono ?_; rintro e w6 ⟨v6, rfl, hown6, hO6, hfr6⟩; obtain ⟨g6, c6, rfl⟩ := own_block hown6 (by omega); have U6 := Lib.hid ((((HO5.out.mono (G := fun b => b = w1.heap.size) (fun _ _ h => h.elim)).setCell ⟨w1.heap.size, 0, none⟩ (.int .u32 ((s : Nat) : Int)) (.inl rfl))).after hO6 (fun _ _ h => h.elim)); have HX6 := Lib.hid (U6.out.own HX.out (fun b hb => (by simp [Value.ownBlock] at hb; omega))); have hg6 : w4.heap.size ≤ g6 := (by have := hfr6 g6 rfl; have := HO5.out.size; simp at *; omega); have HW6 := Lib.hid hown6; clear hown6 hO6 hfr6) | (at_builtin; refine wpList_append_mk rfl (.tmp 52) (.tmp 54) 77 rfl 5 i0 (.int .u8 0) 1 1 Tryz.underlying77 hi0 hz0 hz1 hz2 rfl (by decide) (.slice (some ⟨g6, 0, none⟩) 16 c6) 16 _ rfl (by exact HW6.out) ⟨k2, 16, none⟩ (16 + key.size + val.size - 16) (e2 - 16) (((hdrB 0 kind key.size val.size seq 5 ++ key.data.toList ++ val.data.toList).map bcell).drop 16) rfl (by have := HX6.out.1; simp at this; simp; omega) (own_src HX6.out) (fun u hu => bcell_one _ u (List.mem_of_mem_drop hu)) (by unfold maxLen; omega) (by omega) ?_; intro v7 w7 hown7 hgrow7 _ hfresh7; obtain ⟨g7, c7, rfl⟩ := own_block hown7 (by omega); have hcap7 := (own_cap hown7).1; have HW7 := Lib.hid hown7; have HG7 := Lib.hid hgrow7; clear hown7 hgrow7) | (go_at_call 181; refine (clip_walk hcap7).mono ?_; rintro e w8 ⟨rfl, rfl⟩))
 go_ret2
 have hlen : (hdrB s kind key.size val.size seq 5 ++ (hdrB 0 kind key.size val.size seq 5 ++ key.data.toList ++ val.data.toList).drop 16).length = 16 + key.size + val.size := by
  have h1 := HW7.out.1
  rw [← List.map_drop, ← List.map_append, List.length_map] at h1
  omega
 have U7 := U6.out.grown HG7.out (fun k hk => .inr (by simp [Value.ownBlock] at hk; omega))
 refine ⟨_, hdrB s kind key.size val.size seq 5 ++ (hdrB 0 kind key.size val.size seq 5 ++ key.data.toList ++ val.data.toList).drop 16, rfl, .inr ⟨⟨g7, 0, none⟩, 16 + key.size + val.size, by rw [hlen]; show Value.slice (some ⟨g7, 0, none⟩) (16 + (16 + key.size + val.size - 16)) (16 + (16 + key.size + val.size - 16)) = _; rw [show 16 + (16 + key.size + val.size - 16) = 16 + key.size + val.size by omega], ?_⟩, hlen, O4.out.after U7 (fun b hb hf => by have := HL1.out; omega), fun ad n c h => ?_⟩
 ·intro j u hj
  refine HW7.out.cells (g := g7) rfl j u ?_
  rw [← List.map_drop, ← List.map_append]
  exact hj
 ·injection h with h1 _ _
  injection h1 with h1
  subst h1
  have h2 := hfresh7 g7 rfl
  have h3 := HL1.out
  have h4 := U6.out.size
  simp [Value.ownBlock] at h2
  show w.heap.size ≤ g7
  omega
theorem results_cell_tmp {P : Program} {fn : Func} {p q : Tmp} {ty : TypeId} (h : fn.results = #[.cell p ty, .tmp q]) (tmps : Array Value) (w : World) (ad : Addr) (l : List Value) (d : TypeDesc)
 (hp : tmps.getD p undef = .pointer (some ad)) (hl : ∀ j v, l[j]? = some v → w.cell? (ad.add j) = some v)
 (hu : P.underlying ty = some d) (hd : (match d with | .struct _ | .array _ _ => true | _ => false) = true) (hi : (P.info? ty).map (·.size) = some l.length) :
 (results fn tmps).run P w = .ok (.tuple #[.agg l.toArray, tmps.getD q undef]) w := by
 have hc : (loadCells ad l.length).run P w = .ok l.toArray w := run_loadCells_list (P := P) w ad l hl
 have hv : (loadVar ty ad).run P w = .ok (.agg l.toArray) w := by
  cases hq : P.info? ty with
  | none => simp [hq] at hi
  | some i =>
   have hs : i.size = l.length := by simpa [hq] using hi
   have hagg : (isAgg ty).run P w = .ok true w := by
    unfold isAgg
    rw [Sem.run_bind, run_underlying hu w]
    cases d <;> simp_all
   simp [loadVar, Sem.run_bind, hagg, sizeOf, typeInfo, hq, hs, hc]
 have hp' : tmps[p]?.getD undef = .pointer (some ad) := by simpa using hp
 simp [results, h, hp', asAddr, hv]
theorem rsize {w : World} {kind seq : Nat} {key val : ByteArray} (hk2 : key.size ≤ 32) (hv : val.size ≤ 512)
 (HC : ∀ w : World, Calls Tryz.prog 178 #[.agg #[.int .i64 ((kind : Nat) : Int), .int .i64 ((seq : Nat) : Int), .string key, .string val]] w fun e w' => e = .returned (.int .i64 0) ∧ Old w w') :
 Calls Tryz.prog 184 #[.agg #[.int .i64 ((kind : Nat) : Int), .int .i64 ((seq : Nat) : Int), .string key, .string val]] w fun e w' => e = .returned (.tuple #[.int .i64 ((16 + key.size + val.size : Nat) : Int), .int .i64 0]) ∧ Old w w' := by
 have H := Lib.hid HC
 clear HC
 go_enter Tryz.func184, Tryz.ntmps184
 go_wp2_with (first | (go_at_call 178; refine (H.out _).mono ?_; rintro e w1 ⟨rfl, hO⟩; have c2 : w1.cell? ⟨w.heap.size, 2, none⟩ = some (.string key) := Old.cellOf' hO (by simp); have c3 : w1.cell? ⟨w.heap.size, 3, none⟩ = some (.string val) := Old.cellOf' hO (by simp); have O1 := Lib.hid ((Upd.alloc (Upd.refl (fun _ => False) w) _).trans hO); clear hO) | go_in)
 go_ret2
 exact ⟨by go_num, O1.out⟩
theorem rentry {w : World} {kind seq slot off : Nat} {key val : ByteArray} (hk2 : key.size ≤ 32) (hv : val.size ≤ 512) (hs : slot ≤ 15) (ho : off ≤ 8192)
 (HC : ∀ w : World, Calls Tryz.prog 178 #[.agg #[.int .i64 ((kind : Nat) : Int), .int .i64 ((seq : Nat) : Int), .string key, .string val]] w fun e w' => e = .returned (.int .i64 0) ∧ Old w w') :
 Calls Tryz.prog 106 #[.agg #[.int .i64 ((kind : Nat) : Int), .int .i64 ((seq : Nat) : Int), .string key, .string val], .int .i64 ((slot : Nat) : Int), .int .i64 ((off : Nat) : Int)] w fun e w' => e = .returned (.tuple #[.agg #[.int .i64 ((seq : Nat) : Int), .string key, .bool (((kind : Nat) : Int) == 2), .int .i64 ((slot : Nat) : Int), .int .i64 ((off : Nat) : Int), .int .i64 ((16 + key.size + val.size : Nat) : Int)], .int .i64 0]) ∧ Old w w' := by
 have h1 : ¬ ((slot : Int) < 0) := by omega
 have h2 : ¬ (32 ≤ (slot : Int)) := by omega
 have h3 : ¬ ((off : Int) < 0) := by omega
 have h4 : ¬ (8192 < (off : Int)) := by omega
 have H := Lib.hid (fun w : World => rsize (w := w) hk2 hv HC)
 clear HC
 go_enter Tryz.func106, Tryz.ntmps106
 go_wp2_with (first | (go_at_call 184; refine (H.out _).mono ?_; rintro e w1 ⟨rfl, hO⟩; have hR : Has w1 (w.heap.size + 1) 47 #[.int .i64 0, .string ⟨#[]⟩, .bool false, .int .i64 0, .int .i64 0, .int .i64 0] := Old.has hO (by have h := Has.new (w.alloc (.cells #[.int .i64 ((kind : Nat) : Int), .int .i64 ((seq : Nat) : Int), .string key, .string val] 170)) 47 #[.int .i64 0, .string ⟨#[]⟩, .bool false, .int .i64 0, .int .i64 0, .int .i64 0]; simpa using h); have c0 : w1.cell? ⟨w.heap.size, 0, none⟩ = some (.int .i64 ((kind : Nat) : Int)) := Old.cellOf' hO (by simp); have c1 : w1.cell? ⟨w.heap.size, 1, none⟩ = some (.int .i64 ((seq : Nat) : Int)) := Old.cellOf' hO (by simp); have c2 : w1.cell? ⟨w.heap.size, 2, none⟩ = some (.string key) := Old.cellOf' hO (by simp); have d0 : w1.cell? ⟨w.heap.size + 1, 0, none⟩ = some (.int .i64 0) := hR.cell 0; have f0 : w1.frozen? ⟨w.heap.size + 1, 0, none⟩ = false := hR.frozen 0; have d1 : w1.cell? ⟨w.heap.size + 1, 1, none⟩ = some (.string ⟨#[]⟩) := hR.cell 1; have f1 : w1.frozen? ⟨w.heap.size + 1, 1, none⟩ = false := hR.frozen 1; have d2 : w1.cell? ⟨w.heap.size + 1, 2, none⟩ = some (.bool false) := hR.cell 2; have f2 : w1.frozen? ⟨w.heap.size + 1, 2, none⟩ = false := hR.frozen 2; have d3 : w1.cell? ⟨w.heap.size + 1, 3, none⟩ = some (.int .i64 0) := hR.cell 3; have f3 : w1.frozen? ⟨w.heap.size + 1, 3, none⟩ = false := hR.frozen 3; have d4 : w1.cell? ⟨w.heap.size + 1, 4, none⟩ = some (.int .i64 0) := hR.cell 4; have f4 : w1.frozen? ⟨w.heap.size + 1, 4, none⟩ = false := hR.frozen 4; have d5 : w1.cell? ⟨w.heap.size + 1, 5, none⟩ = some (.int .i64 0) := hR.cell 5; have f5 : w1.frozen? ⟨w.heap.size + 1, 5, none⟩ = false := hR.frozen 5; have O1 := Lib.hid (((Upd.alloc (Upd.refl (fun _ => False) w) _).alloc _).trans hO); have HR := Lib.hid hR; clear hO hR))
 have HE := (((((HR.out.set 0 (.int .i64 ((seq : Nat) : Int))).set 1 (.string key)).set 2 (.bool (((kind : Nat) : Int) == 2))).set 3 (.int .i64 ((slot : Nat) : Int))).set 4 (.int .i64 ((off : Nat) : Int))).set 5 (.int .i64 (16 + (key.size : Int) + (val.size : Int)))
 refine bodyPost_ret (results_cell_tmp rfl _ _ ⟨w.heap.size + 1, 0, none⟩ [.int .i64 ((seq : Nat) : Int), .string key, .bool (((kind : Nat) : Int) == 2), .int .i64 ((slot : Nat) : Int), .int .i64 ((off : Nat) : Int), .int .i64 (16 + (key.size : Int) + (val.size : Int))] _ rfl ?_ Tryz.underlying47 rfl (by kernel_rfl)) rfl ?_
 ·intro j v hj
  have h := HE.cell j
  rw [Addr.add_lit]
  simp only [Nat.zero_add]
  refine h.trans ?_
  simpa using hj
 ·have hb : w.heap.size ≤ w.heap.size + 1 := by omega
  refine ⟨?_, (((((O1.out.setCell _ _ (.inr hb)).setCell _ _ (.inr hb)).setCell _ _ (.inr hb)).setCell _ _ (.inr hb)).setCell _ _ (.inr hb)).setCell _ _ (.inr hb)⟩
  show Ending.returned (.tuple #[.agg #[.int .i64 ((seq : Nat) : Int), .string key, .bool (((kind : Nat) : Int) == 2), .int .i64 ((slot : Nat) : Int), .int .i64 ((off : Nat) : Int), .int .i64 (16 + (key.size : Int) + (val.size : Int))], .int .i64 0]) = _
  have e : ((16 + key.size + val.size : Nat) : Int) = 16 + (key.size : Int) + (val.size : Int) := by omega
  rw [e]
theorem fcheck {w : World} {count last : Nat} (hc : count ≤ 65535) (hl : last ≤ 1099511627776) (hz : count = 0 ↔ last = 0) :
 Calls Tryz.prog 238 #[.agg #[.int .i64 ((count : Nat) : Int), .int .i64 ((last : Nat) : Int)]] w fun e w' => e = .returned (.int .i64 0) ∧ Old w w' := by
 have h1 : ¬ ((count : Int) < 0) := by omega
 have h2 : ¬ (65535 < (count : Int)) := by omega
 have h3 : ¬ ((last : Int) < 0) := by omega
 have h4 : ¬ (1099511627776 < (last : Int)) := by omega
 by_cases h0 : count = 0
 ·have h0' := hz.1 h0
  subst h0; subst h0'
  clear hz hc hl
  go_enter Tryz.func238, Tryz.ntmps238
  go_wp2
  go_ret
  exact ⟨rfl, (Upd.refl _ w).alloc _⟩
 ·have h5 : ((count : Int) == 0) = false := by rw [beq_eq_false_iff_ne]; omega
  have h6 : ((last : Int) == 0) = false := by rw [beq_eq_false_iff_ne]; omega
  clear hz hc hl h0
  go_enter Tryz.func238, Tryz.ntmps238
  go_wp2
  go_ret
  exact ⟨rfl, (Upd.refl _ w).alloc _⟩
theorem fencode {w : World} {count last : Nat} (hc : count ≤ 65535) (hl : last ≤ 1099511627776) (hz : count = 0 ↔ last = 0) :
 Calls Tryz.prog 176 #[.agg #[.int .i64 ((count : Nat) : Int), .int .i64 ((last : Nat) : Int)]] w fun e w' => ∃ v bs, e = .returned (.tuple #[v, .int .i64 0]) ∧ BytesAt w' v bs ∧ bs.length = 16 ∧ Old w w' ∧ Fresh w v := by
 have HE := Lib.hid (fun (s : Nat) (hs : s < 4294967296) (w : World) => hencode (w := w) (sum := s) (kind := 3) (key := 0) (val := count) (seq := last) hs (by omega) (by omega) (by omega) (by omega) (fun w => hcheck_foot (by omega) (by omega) (by omega) (by omega) (by omega) (by omega)))
 have HF := Lib.hid (fun w : World => fcheck (w := w) hc hl hz)
 clear hc hl hz
 go_enter Tryz.func176, Tryz.ntmps176
 go_wp2_with (first | (go_at_call 238; refine (HF.out _).mono ?_; rintro e w1 ⟨rfl, hO⟩; have c0 : w1.cell? ⟨w.heap.size, 0, none⟩ = some (.int .i64 ((count : Nat) : Int)) := Old.cellOf' hO (by simp); have c1 : w1.cell? ⟨w.heap.size, 1, none⟩ = some (.int .i64 ((last : Nat) : Int)) := Old.cellOf' hO (by simp); have hlw0 := Lib.hid (show w.heap.size + 1 ≤ w1.heap.size by simpa using hO.size); have O1 := Lib.hid ((Upd.alloc (Upd.refl (fun _ => False) w) _).trans hO); clear hO) | (go_at_call 179; refine (HE.out 0 (by omega) _).mono ?_; rintro e w2 ⟨v2, rfl, hown, hO, hfr⟩; obtain ⟨g, cap, rfl⟩ := own_block hown (by omega); have HH := Lib.hid (show Has w2 w1.heap.size 255 #[.int .u32 0, .int .i64 3, .int .i64 0, .int .i64 ((count : Nat) : Int), .int .i64 ((last : Nat) : Int)] from Old.has hO (Has.new _ _ _)); have O2 := Lib.hid ((O1.out.alloc _).trans hO); have HX := Lib.hid hown; have hcap := (own_cap hown).1; clear hown hO hfr) | (go_at_call 180; refine (sum_own (X := hdrB 0 3 0 count last 5) HX.out (by omega) (by omega)).mono ?_; rintro e w5 ⟨s, hs, rfl, hO5⟩; have H5 := hO5.has HH.out; have d0 : w5.cell? ⟨w1.heap.size, 0, none⟩ = some (.int .u32 0) := H5.cell 0; have d1 : w5.cell? ⟨w1.heap.size, 1, none⟩ = some (.int .i64 3) := H5.cell 1; have d2 : w5.cell? ⟨w1.heap.size, 2, none⟩ = some (.int .i64 0) := H5.cell 2; have d3 : w5.cell? ⟨w1.heap.size, 3, none⟩ = some (.int .i64 ((count : Nat) : Int)) := H5.cell 3; have d4 : w5.cell? ⟨w1.heap.size, 4, none⟩ = some (.int .i64 ((last : Nat) : Int)) := H5.cell 4; have fz : w5.frozen? ⟨w1.heap.size, 0, none⟩ = false := H5.frozen 0; have O5 := Lib.hid (O2.out.trans hO5); have HE2 := Lib.hid (HE.out s hs); clear hO5 H5 HE) | (go_at_call 179; refine (HE2.out _).mono ?_; rintro e w6 ⟨v6, rfl, hown6, hO6, hfr6⟩))
 go_ret2
 refine ⟨_, _, rfl, own_bytes hown6, by simp [hdrB, leB_length], (O5.out.setCell _ _ (.inr (by have := hlw0.out; simp; omega))).trans hO6, fun ad n c h => ?_⟩
 have h' : v6 = .slice (some ad) n c := h
 have h0 := hfr6 ad.block (by rw [h']; rfl)
 have h1 := O5.out.size
 simp at h0
 omega
theorem has_new1 (w : World) (a : Obj) (t : TypeId) (c : Array Value) : Has ((w.alloc a).alloc (.cells c t)) (w.heap.size + 1) t c := by
 have := Has.new (w.alloc a) t c
 simpa using this
theorem small {w : World} {n0 n1 n2 n3 n4 n5 n6 : Nat} (h0 : n0 < 256) (h1 : n1 < 256) (h2 : n2 < 256) (h3 : n3 < 256) (h4 : n4 < 256) (h5 : n5 < 256) (h6 : n6 < 256) :
 Calls Tryz.prog 36 #[.agg #[.int .u8 ((n0 : Nat) : Int), .int .u8 ((n1 : Nat) : Int), .int .u8 ((n2 : Nat) : Int), .int .u8 ((n3 : Nat) : Int), .int .u8 ((n4 : Nat) : Int), .int .u8 ((n5 : Nat) : Int), .int .u8 ((n6 : Nat) : Int)]] w fun e w' =>
  e = .returned (.agg #[.int .i64 ((2 + n0 % 2 + 2 + n4 % 5 : Nat) : Int), .int .i64 ((16 + (16 + (2 + n1 % 5) + n2 % 24) + n5 : Nat) : Int), .int .i64 ((2 + n0 % 2 : Nat) : Int), .int .i64 ((2 * (16 + (2 + n1 % 5) + n2 % 24 + 16) + n6 : Nat) : Int), .int .i64 ((2 + n1 % 5 : Nat) : Int), .int .i64 ((n2 % 24 : Nat) : Int), .int .i64 ((1 + n3 % 2 : Nat) : Int)]) ∧ Old w w' := by
 go_enter Tryz.func36, Tryz.ntmps36
 go_wp2
 refine bodyPost_ret (results_cell_row rfl _ _ (w.heap.size + 1) 36 #[.int .i64 (2 + (n0 : Int) % 2 + 2 + (n4 : Int) % 5), .int .i64 (16 + (16 + (2 + (n1 : Int) % 5) + (n2 : Int) % 24) + (n5 : Int)), .int .i64 (2 + (n0 : Int) % 2), .int .i64 (2 * (16 + (2 + (n1 : Int) % 5) + (n2 : Int) % 24 + 16) + (n6 : Int)), .int .i64 (2 + (n1 : Int) % 5), .int .i64 ((n2 : Int) % 24), .int .i64 (1 + (n3 : Int) % 2)] (0, 0) _ rfl ((has_new1 w _ _ _).alloc _) Tryz.underlying36 rfl (by kernel_rfl)) rfl ?_
 exact ⟨by simp, (((Upd.refl _ w).alloc _).alloc _).alloc _⟩
theorem set_new {w : World} {n : Nat} (h0 : 0 < n) (h1 : n ≤ 32) :
 Calls Tryz.prog 99 #[.int .i64 ((n : Nat) : Int)] w fun e w' => e = .returned (.tuple #[.pointer (some ⟨w.heap.size, 0, none⟩), .int .i64 0]) ∧ w.alloc (.cells #[.int .i64 ((n : Nat) : Int), .int .u64 0] 224) = w' := by
 go_enter Tryz.func99, Tryz.ntmps99
 go_wp2
 go_ret2
 exact ⟨rfl, by simp⟩
structure NewTab (w : World) (n r : Nat) (w' : World) : Prop where
 hB : Has w' w.heap.size 106 #[.int .i64 ((n : Nat) : Int), .int .i64 ((r : Nat) : Int), .pointer (some ⟨w.heap.size + 1, 0, none⟩), .pointer (some ⟨w.heap.size + 1 + 1, 0, none⟩), .pointer (some ⟨w.heap.size + 1 + 1 + 1, 0, none⟩), .pointer (some ⟨w.heap.size + 1 + 1 + 1 + 1, 0, none⟩), .pointer (some ⟨w.heap.size + 1 + 1 + 1 + 1 + 1, 0, none⟩)]
 z0 : Has w' (w.heap.size + 1) 224 #[.int .i64 ((n : Nat) : Int), .int .u64 ((2 ^ n - 1 : Nat) : Int)]
 z1 : Has w' (w.heap.size + 1 + 1) 224 #[.int .i64 ((n : Nat) : Int), .int .u64 0]
 z2 : Has w' (w.heap.size + 1 + 1 + 1) 224 #[.int .i64 ((n : Nat) : Int), .int .u64 0]
 z3 : Has w' (w.heap.size + 1 + 1 + 1 + 1) 224 #[.int .i64 ((n : Nat) : Int), .int .u64 0]
 z4 : Has w' (w.heap.size + 1 + 1 + 1 + 1 + 1) 224 #[.int .i64 ((n : Nat) : Int), .int .u64 0]
 old : Old w w'
theorem bits_next : ∀ j, j < 10 → (2 ^ j - 1) ||| 2 ^ j = 2 ^ (j + 1) - 1 := by decide
theorem new6 {w : World} {W : World} {o0 o1 o2 o3 o4 o5 : Array Value} {t s : TypeId} (h : (((((w.alloc (.cells o0 t)).alloc (.cells o1 s)).alloc (.cells o2 s)).alloc (.cells o3 s)).alloc (.cells o4 s)).alloc (.cells o5 s) = W) :
 Has W w.heap.size t o0 ∧ Has W (w.heap.size + 1) s o1 ∧ Has W (w.heap.size + 1 + 1) s o2 ∧ Has W (w.heap.size + 1 + 1 + 1) s o3 ∧ Has W (w.heap.size + 1 + 1 + 1 + 1) s o4 ∧ Has W (w.heap.size + 1 + 1 + 1 + 1 + 1) s o5 ∧ Old w W := by
 subst h
 have a0 := Has.new w t o0
 have a1 := Has.new (w.alloc (.cells o0 t)) s o1
 have a2 := Has.new ((w.alloc (.cells o0 t)).alloc (.cells o1 s)) s o2
 have a3 := Has.new (((w.alloc (.cells o0 t)).alloc (.cells o1 s)).alloc (.cells o2 s)) s o3
 have a4 := Has.new ((((w.alloc (.cells o0 t)).alloc (.cells o1 s)).alloc (.cells o2 s)).alloc (.cells o3 s)) s o4
 have a5 := Has.new (((((w.alloc (.cells o0 t)).alloc (.cells o1 s)).alloc (.cells o2 s)).alloc (.cells o3 s)).alloc (.cells o4 s)) s o5
 simp only [World.size_alloc] at a1 a2 a3 a4 a5
 exact ⟨(((((a0.alloc _).alloc _).alloc _).alloc _).alloc _), ((((a1.alloc _).alloc _).alloc _).alloc _), (((a2.alloc _).alloc _).alloc _), ((a3.alloc _).alloc _), (a4.alloc _), a5, ((((((Upd.refl _ w).alloc _).alloc _).alloc _).alloc _).alloc _).alloc _⟩
theorem tab_new {w : World} {n r : Nat} (h0 : 0 < n) (h1 : n ≤ 10) (hr : r ≤ n) :
 Calls Tryz.prog 38 #[.int .i64 ((n : Nat) : Int), .int .i64 ((r : Nat) : Int)] w fun e w' => e = .returned (.tuple #[.pointer (some ⟨w.heap.size, 0, none⟩), .int .i64 0]) ∧ NewTab w n r w' := by
 have HS := Lib.hid (fun w : World => set_new (w := w) h0 (show n ≤ 32 by omega))
 have q1 : ¬ ((n : Int) < 1) := by omega
 have q2 : ¬ (32 < (n : Int)) := by omega
 have q3 : ¬ ((r : Int) < 0) := by omega
 have q4 : ¬ ((n : Int) < (r : Int)) := by omega
 go_enter Tryz.func38, Tryz.ntmps38
 go_wp2
 refine wp_loop_rounds 6 ?_
 rw [rounds_succ]
 go_wp2_with (first | (go_at_call 99; refine (HS.out _).mono ?_; rintro e w1 ⟨rfl, rfl⟩))
 rw [rounds_succ]
 go_wp2_with (first | (go_at_call 99; refine (HS.out _).mono ?_; rintro e w1 ⟨rfl, rfl⟩))
 rw [rounds_succ]
 go_wp2_with (first | (go_at_call 99; refine (HS.out _).mono ?_; rintro e w1 ⟨rfl, rfl⟩))
 rw [rounds_succ]
 go_wp2_with (first | (go_at_call 99; refine (HS.out _).mono ?_; rintro e w1 ⟨rfl, rfl⟩))
 rw [rounds_succ]
 go_wp2_with (first | (go_at_call 99; refine (HS.out _).mono ?_; rintro e w1 ⟨rfl, rfl⟩))
 rw [rounds_succ]
 go_wp2
 generalize hW : World.alloc (World.alloc (World.alloc (World.alloc (World.alloc (World.alloc w _) _) _) _) _) _ = W
 obtain ⟨b0, b1, b2, b3, b4, b5, O⟩ := new6 hW
 clear hW
 have HB := Lib.hid (⟨b0, b1, b2, b3, b4, b5, O⟩ : _ ∧ _ ∧ _ ∧ _ ∧ _ ∧ _ ∧ _)
 clear b2 b3 b4 b5 O q1 q2 q3 q4 HS
 go_loopw [49] (fun i wr => ∃ j : Nat, j ≤ n ∧ i = .int .i64 j ∧ Has wr (w.heap.size + 1) 224 #[.int .i64 ((n : Nat) : Int), .int .u64 ((2 ^ j - 1 : Nat) : Int)] ∧ Upd (fun b => b = w.heap.size + 1) W wr) (fun i _ => n - (intOf i).toNat)
 case atStart => exact ⟨0, Nat.zero_le _, rfl, b1, Upd.refl _ _⟩
 case round =>
  obtain ⟨j, hj, rfl, hZ, hU⟩ := hrel
  clear b0 b1
  obtain ⟨b0, b1, b2, b3, b4, b5, O⟩ := HB.out
  have a0 := hU.has b0 (fun e : w.heap.size = w.heap.size + 1 => by omega)
  have c2 : wr.cell? ⟨w.heap.size, 2, none⟩ = some (.pointer (some ⟨w.heap.size + 1, 0, none⟩)) := a0.cell 2
  have HZ := Lib.hid hZ
  have HU := Lib.hid hU
  by_cases hlt : j < n
  ·have hx : 2 ^ j - 1 < 2 ^ 34 := by
    have : 2 ^ j ≤ 2 ^ 34 := Nat.pow_le_pow_right (by decide) (by omega)
    omega
   have HA := Lib.hid (set_add (i := j) (hZ.cell 0) (hZ.cell 1) (fun k => hZ.frozen k) h0 (by omega) hlt hx)
   clear a0 b0 b1 b2 b3 b4 b5 O hZ hU hx
   go_wp2_with (first | (go_at_call 100; refine HA.out.mono ?_; rintro e w1 ⟨rfl, rfl⟩))
   go_roundw
   case rel => exact ⟨j + 1, by omega, by go_num, by rw [← bits_next j (by omega)]; exact (HZ.out.set 1 _).drew, (HU.out.setCell _ _ (.inl rfl)).drew⟩
   case measure => simp [intOf]; omega
  ·obtain rfl : j = n := by omega
   clear c2 a0 hZ hU b0 b1 b2 b3 b4 b5 O
   go_wp2
   go_ret2
   obtain ⟨b0, b1, b2, b3, b4, b5, O⟩ := HB.out
   have hU := HU.out
   exact ⟨rfl, hU.has b0 (fun e : w.heap.size = w.heap.size + 1 => by omega), HZ.out, hU.has b2 (fun e : w.heap.size + 1 + 1 = w.heap.size + 1 => by omega), hU.has b3 (fun e : w.heap.size + 1 + 1 + 1 = w.heap.size + 1 => by omega), hU.has b4 (fun e : w.heap.size + 1 + 1 + 1 + 1 = w.heap.size + 1 => by omega), hU.has b5 (fun e : w.heap.size + 1 + 1 + 1 + 1 + 1 = w.heap.size + 1 => by omega), Upd.after O hU (fun b hb hf => by omega)⟩
theorem ddur_walk {w : World} {D K S T Mi : Nat} {n i len sz dur cap : Nat} {ops : Int} {va : Option Addr} {vc : Nat} (h : DevCells w D K S T Mi n i len sz dur cap ops false va vc) :
 Calls Tryz.prog 52 #[.pointer (some ⟨K, 0, none⟩), .int .i64 ((i : Nat) : Int)] w fun e w' => e = .returned (.tuple #[.int .i64 ((dur : Nat) : Int), .int .i64 0]) ∧ Old w w' := by
 obtain ⟨d0, -, d2, -, d4, k0, -, -, s0, m0, m1, m2, -, -, hD, hK, hS, -, hM, b0, p0, p1, p2, p3, p4, p5, p6, p7, -, -, -, -, -, -, -⟩ := h
 go_enter Tryz.func52, Tryz.ntmps52
 go_wp2
 go_ret2
 exact ⟨rfl, (((Upd.refl _ _).alloc _).alloc _)⟩
theorem uns_cells {w : World} {D K S T Mi : Nat} {n i len sz dur cap : Nat} {ops : Int} {va : Option Addr} {vc : Nat} (h : DevCells w D K S T Mi n i len sz dur cap ops false va vc) :
 Calls Tryz.prog 11 #[.pointer (some ⟨D, 0, none⟩), .int .i64 ((i : Nat) : Int)] w fun e w' => e = .returned (.tuple #[.int .i64 ((len : Int) - (dur : Int)), .int .i64 0]) ∧ Old w w' := by
 have HD := Lib.hid h
 have d0 := h.d0
 have hD := h.hD
 have q1 := h.p5
 have q2 := h.p6
 have q3 := h.p7
 clear h
 go_enter Tryz.func11, Tryz.ntmps11
 go_wp2_with (first | (go_at_call 12; refine (len_cells HD.out).mono ?_; rintro e1 w1 ⟨rfl, hO⟩; have H1 := Lib.hid hO; have HD1 := Lib.hid (HD.out.old hO); have c0 := HD1.out.d0; have hD1 := HD1.out.hD; clear hO) | (go_at_call 52; refine (ddur_walk HD1.out).mono ?_; rintro e2 w2 ⟨rfl, hO⟩; have H2 := Lib.hid (H1.out.trans hO); clear hO))
 have hw : IntKind.i64.wrap ((len : Int) - (dur : Int)) = (len : Int) - (dur : Int) := IntWalk.i64_in _ (by omega)
 go_ret2
 exact ⟨rfl, H2.out⟩
theorem own_ad {w : World} {e : TypeId} {size n c : Nat} {xs : List Value} {ad : Addr} (own : w.ownsRow 0 e size (.slice (some ad) n c) n xs) : ∃ g, ad = ⟨g, 0, none⟩ := by
 rcases own.2 with ⟨h1, _⟩ | ⟨g, c, cur, h1, _⟩
 ·cases h1
 ·injection h1 with h1
  injection h1 with h1
  exact ⟨_, h1⟩
theorem own_fresh {w w' : World} {e : TypeId} {size n : Nat} {v : Value} {xs : List Value} (own : w'.ownsRow 0 e size v n xs) (h : ∀ b, v.ownBlock = some b → w.heap.size ≤ b) : Fresh w v := by
 rintro ad m c rfl
 obtain ⟨a, c', h2⟩ := own_slice own
 injection h2 with _ h3 _
 subst h3
 obtain ⟨g, rfl⟩ := own_ad own
 exact h g rfl
def ReadPost (w : World) (bs : List UInt8) (e : Ending) (w' : World) : Prop := ∃ a n c, e = .returned (.tuple #[.slice a n c, .int .i64 0]) ∧ BytesAt w' (.slice a n c) bs ∧ Old w w' ∧ Fresh w (.slice a n c)
theorem iread {w : World} {Mi g vc sz : Nat} {bs : List UInt8} (m0 : w.cell? ⟨Mi, 0, none⟩ = some (.slice (some ⟨g, 0, none⟩) bs.length vc)) (m1 : w.cell? ⟨Mi, 1, none⟩ = some (.int .i64 ((sz : Nat) : Int)))
 (p2 : 0 < sz) (h2 : bs.length ≤ vc) (h3 : bs.length ≤ 8192) (hb : ∀ j u, (bs.map bcell)[j]? = some u → w.cell? ((⟨g, 0, none⟩ : Addr).add j) = some u) :
 Calls Tryz.prog 129 #[.pointer (some ⟨Mi, 0, none⟩), .int .i64 0, .int .i64 ((bs.length : Nat) : Int)] w (ReadPost w bs) := by
 have HB := Lib.hid (clone_walk (w := w) (v := .slice (some ⟨g, 0, none⟩) bs.length bs.length) (.inr ⟨_, _, rfl, hb⟩) (by omega : bs.length ≤ 100000))
 clear hb
 obtain ⟨n, hn⟩ : ∃ n, bs.length = n := ⟨_, rfl⟩
 rw [hn] at m0 h2 h3 HB ⊢
 have g2 : ¬ ((n : Int) < 0) := by omega
 have g3 : ¬ ((vc : Int) < (n : Int)) := by omega
 have hM := block_lt_of_cell m0
 simp only at hM
 clear hn
 go_enter Tryz.func129, Tryz.ntmps129
 go_wp2_with (first | (go_at_call 210; refine (HB.out).mono ?_; rintro e1 w1 ⟨v, rfl, hown, hO, hfr⟩; obtain ⟨va1, vc1, rfl⟩ := own_slice hown; have HR := Lib.hid (And.intro hown (And.intro hO (own_fresh hown hfr))); clear hown hO hfr) | go_in)
 go_ret2
 exact ⟨_, _, _, rfl, own_bytes HR.out.1, HR.out.2.1, HR.out.2.2⟩
theorem iread0 {w : World} {Mi sz : Nat} (m0 : w.cell? ⟨Mi, 0, none⟩ = some (.slice none 0 0)) (m1 : w.cell? ⟨Mi, 1, none⟩ = some (.int .i64 ((sz : Nat) : Int))) (p2 : 0 < sz) :
 Calls Tryz.prog 129 #[.pointer (some ⟨Mi, 0, none⟩), .int .i64 0, .int .i64 0] w (ReadPost w []) := by
 have HB := Lib.hid (clone_walk (w := w) (v := .slice none 0 0) (bs := []) (.inl ⟨rfl, rfl⟩) (by simp))
 have hM := block_lt_of_cell m0
 simp only at hM
 go_enter Tryz.func129, Tryz.ntmps129
 go_wp2_with (first | (go_at_call 210; refine (HB.out).mono ?_; rintro e1 w1 ⟨v, rfl, hown, hO, hfr⟩; obtain ⟨va1, vc1, rfl⟩ := own_slice hown; have HR := Lib.hid (And.intro hown (And.intro hO (own_fresh hown hfr))); clear hown hO hfr) | go_in)
 go_ret2
 exact ⟨_, _, _, rfl, own_bytes HR.out.1, HR.out.2.1, HR.out.2.2⟩
theorem dread_at {w : World} {col : Col} {q D : Nat} {s : DevS} {K S cap T : Nat} {M : Nat → Nat} {V : Nat → Value} (h : DevAt w col q D s K S cap T M V) (hup : s.down = false) {i : Nat} (hi : i < s.n + 2) {o n : Int} {rs : List UInt8}
 (hR : ∀ w', Old w w' → Calls Tryz.prog 129 #[.pointer (some ⟨M i, 0, none⟩), .int .i64 o, .int .i64 n] w' (ReadPost w' rs)) :
 Calls Tryz.prog 95 #[.pointer (some ⟨D, 0, none⟩), .int .i64 ((i : Nat) : Int), .int .i64 o, .int .i64 n] w (ReadPost w rs) := by
 obtain ⟨va, vc, hv, c⟩ := h.cells i hi
 rw [hup] at c
 have hm := h.fm i hi
 have HR := Lib.hid hR
 clear hR
 obtain ⟨d0, -, d2, -, d4, k0, -, -, s0, m0, m1, -, -, -, hD, hK, hS, -, hM, b0, p0, p1, p2, p3, p4, -, -, -, -, -, -, -, -, -, -⟩ := c
 clear h hm hv
 have kD : ∀ k, D < w.heap.size + k := fun k => by omega
 have kK : ∀ k, K < w.heap.size + k := fun k => by omega
 have kS : ∀ k, S < w.heap.size + k := fun k => by omega
 have kM : ∀ k, M i < w.heap.size + k := fun k => by omega
 go_enter Tryz.func95, Tryz.ntmps95
 go_wp2_with (first | (go_at_call 129; refine (HR.out _ ?_).mono ?_; (exact ((((Upd.refl _ _).alloc _).alloc _).alloc _)); rintro e1 w1 ⟨ra, rn, rc, rfl, hb, hO, hfr⟩; have c2 : w1.cell? ⟨w.heap.size + 1 + 1, 0, none⟩ = some (.slice none 0 0) := Old.cellOf' hO (by go_simp); have f2 : w1.frozen? ⟨w.heap.size + 1 + 1, 0, none⟩ = false := hO.frz (by go_simp) (by go_simp); have l2 := World.block_lt_of_cell? w1 _ c2; have HX := Lib.hid (And.intro hb (And.intro hO hfr)); clear hb hO hfr) | (go_at_call 129; refine Hid.out ?_) | go_in)
 go_ret2
 have hz : ((((w.alloc (.cells #[.int .i64 o] 3)).alloc (.cells #[.int .i64 n] 3)).alloc (.cells #[.slice none 0 0] 77))).heap.size = w.heap.size + 3 := by simp
 have U : Upd (fun b => b = w.heap.size + 1 + 1) w1 (w1.setCell ⟨w.heap.size + 1 + 1, 0, none⟩ (.slice ra rn rc)) := (Upd.refl _ w1).setCell _ _ (.inl rfl)
 refine ⟨ra, rn, rc, rfl, HX.out.1.upd U (fun ad n c e hb => ?_), ?_, fun ad n c e => ?_⟩
 ·have := HX.out.2.2 ad n c e; omega
 ·exact ((((Upd.refl _ w).alloc _).alloc _).alloc _ |>.trans HX.out.2.1).setCell _ _ (.inr (by simp; omega))
 ·have := HX.out.2.2 ad n c e; omega
theorem dread {w : World} {col : Col} {q D : Nat} {s : DevS} {K S cap T : Nat} {M : Nat → Nat} {V : Nat → Value} (h : DevAt w col q D s K S cap T M V) (hup : s.down = false) {i : Nat} (hi : i < s.n + 2) :
 Calls Tryz.prog 95 #[.pointer (some ⟨D, 0, none⟩), .int .i64 ((i : Nat) : Int), .int .i64 0, .int .i64 (((s.img i).bs.length : Nat) : Int)] w (ReadPost w (s.img i).bs) := by
 obtain ⟨va, vc, hv, c⟩ := h.cells i hi
 have hm := h.fm i hi
 refine dread_at h hup hi fun w' O => ?_
 have c' := c.old O
 have own := O.own hm.own (fun _ _ x => x)
 rcases own_bytes own with ⟨h1, h2⟩ | ⟨ad, cc, h1, h2⟩
 ·have m0 := c'.m0
  rw [hv] at h1
  rw [h1] at m0
  rw [h2]
  exact iread0 m0 c'.m1 c'.p2
 ·rw [hv] at h1
  injection h1 with h1 _ h3
  subst h1 h3
  rw [hv] at own
  obtain ⟨g, rfl⟩ := own_ad own
  exact iread c'.m0 c'.m1 c'.p2 (own_cap own).1 (by have := c'.p5; have := c'.p6; omega) h2
end Go.M
