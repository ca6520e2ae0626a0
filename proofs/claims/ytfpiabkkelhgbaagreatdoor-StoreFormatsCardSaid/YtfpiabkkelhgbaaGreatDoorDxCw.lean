/- crc.Update: what it returns, for every list of bytes. -/
import Derived.Test.YtfpiabkkelhgbaaGreatDoorProg
import Derived.Test.YtfpiabkkelhgbaaGreatDoorE13
import Derived.WalkKit
import Derived.Lib.Hide
import Derived.Laws.Tables
import Derived.Laws.Rows
import Derived.KernelRfl
namespace Go.X
open Go.Proofs Go.RowKit
set_option linter.unusedVariables false
set_option maxRecDepth 100000

theorem bits_xor_u32_nat (a b : Nat) (ha : a < 4294967296) (hb : b < 4294967296) : bits .xor .u32 (a : Int) (b : Int) = ((a ^^^ b : Nat) : Int) := by
  have hx : a ^^^ b < 2 ^ 32 := Nat.xor_lt_two_pow (by omega) (by omega)
  have h1 : (BitVec.ofInt 32 (a : Int)).toNat = a := by
    rw [BitVec.ofInt_natCast, BitVec.toNat_ofNat]; exact Nat.mod_eq_of_lt (by omega)
  have h2 : (BitVec.ofInt 32 (b : Int)).toNat = b := by
    rw [BitVec.ofInt_natCast, BitVec.toNat_ofNat]; exact Nat.mod_eq_of_lt (by omega)
  show IntKind.u32.wrap ((BitVec.ofInt 32 (a : Int) ^^^ BitVec.ofInt 32 (b : Int)).toNat : Int) = _
  rw [BitVec.toNat_xor, h1, h2, show ∀ n : Int, IntKind.u32.wrap n = n % 4294967296 from fun n => by simp [IntKind.wrap, IntKind.bits, IntKind.signed]]
  omega

theorem bits_xor_u8_nat (a b : Nat) (ha : a < 256) (hb : b < 256) : bits .xor .u8 (a : Int) (b : Int) = ((a ^^^ b : Nat) : Int) := by
  have hx : a ^^^ b < 2 ^ 8 := Nat.xor_lt_two_pow (by omega) (by omega)
  have h1 : (BitVec.ofInt 8 (a : Int)).toNat = a := by
    rw [BitVec.ofInt_natCast, BitVec.toNat_ofNat]; exact Nat.mod_eq_of_lt (by omega)
  have h2 : (BitVec.ofInt 8 (b : Int)).toNat = b := by
    rw [BitVec.ofInt_natCast, BitVec.toNat_ofNat]; exact Nat.mod_eq_of_lt (by omega)
  show IntKind.u8.wrap ((BitVec.ofInt 8 (a : Int) ^^^ BitVec.ofInt 8 (b : Int)).toNat : Int) = _
  rw [BitVec.toNat_xor, h1, h2, show ∀ n : Int, IntKind.u8.wrap n = n % 256 from fun n => by simp [IntKind.wrap, IntKind.bits, IntKind.signed]]
  omega

theorem ret_u32 {a b : Int} (h : a = b) : Ending.returned (.int .u32 a) = .returned (.int .u32 b) := by rw [h]

theorem update_walk {t : Array Value} (ht : TabOk t) (hT : ∀ w : World, Calls Tryz.prog 549 #[] w fun e w' => e = .returned (.agg t) ∧ Lk w w')
    (B o n c : Nat) (bs : List Nat) (w : World) (hn : bs.length = n) (hbig : n ≤ 9223372036854775807) (hb : ∀ b ∈ bs, b < 256)
    (hc : ∀ j b, bs[j]? = some b → w.cell? ⟨B, o + j, none⟩ = some (.int .u8 (Int.ofNat b))) :
    Calls Tryz.prog 423 #[.int .u32 0, .slice (some ⟨B, o, none⟩) n c] w fun e w' => e = .returned (.int .u32 (Int.ofNat (crcG bs))) ∧ Lk w w' := by
  have hts := ht.1
  have hta : (t.all fun x => x.oneCell') = true := by
    rw [Array.all_eq_true]
    intro i hi
    rw [hts] at hi
    have := ht.2 i hi
    rw [Array.getElem?_eq_getElem (by omega)] at this
    simp only [Option.some.injEq] at this
    rw [this]; rfl
  have hiA : Option.map (fun x => x.size) (Tryz.prog.info? 557) = some t.size := by rw [hts]; kernel_rfl
  have hzA : Tryz.zeroCells557.size = t.size := by rw [hts]; kernel_rfl
  go_enter Tryz.func423, Tryz.ntmps423
  go_wp2_with (first | (go_at_call 549; refine (hT _).mono ?_; rintro e w1 ⟨rfl, hk⟩) | (refine wpList_store_row rfl 557 (.tmp 5) (.tmp 9) rfl w1.heap.size t rfl rfl 557 _ (heap_alloc_new _ _) hiA hzA hta ?_))
  obtain ⟨W, hW⟩ : ∃ W, ((w1.alloc (Obj.cells Tryz.zeroCells557 557)).setRow w1.heap.size t) = W := ⟨_, rfl⟩
  rw [hW]
  have hold : ∀ C, C < w.heap.size → W.heap[C]? = w.heap[C]? := by
    intro C hC
    rw [← hW, setRow_other _ _ _ _ (by have := hk.1; omega), Go.heap_alloc_old _ _ (by have := hk.1; omega)]
    exact hk.2.1 C hC
  have hcb : ∀ j, j < n → W.cell? ⟨B, o + j, none⟩ = some (.int .u8 (Int.ofNat (bs.getD j 0))) := by
    intro j hj
    have h1 := hc j (bs.getD j 0) (by rw [List.getD_eq_getElem?_getD, List.getElem?_eq_getElem (by omega)]; rfl)
    have hB : B < w.heap.size := block_lt_of_cell h1
    have : W.cell? ⟨B, o + j, none⟩ = w.cell? ⟨B, o + j, none⟩ := by simp only [World.cell?, hold B hB]
    rw [this, h1]
  have hct : ∀ j, j < 256 → W.cell? ⟨w1.heap.size, j, none⟩ = some (.int .u32 (Int.ofNat (step8 j))) := by
    intro j hj
    rw [← hW, cell_setRow_same _ _ _ _ _ _ _ (heap_alloc_new _ _)]
    exact ht.2 j hj
  have hLk : Lk w W := by
    refine ⟨?_, hold, ?_, ?_, ?_⟩
    · rw [← hW]; simp; have := hk.1; omega
    · rw [← hW]; exact hk.2.2.1
    · rw [← hW]; exact hk.2.2.2.1
    · rw [← hW]; exact hk.2.2.2.2
  clear hk hW hold hT hc hiA hzA hta hts ht
  have HN := Lib.hid hn; clear hn
  have HBS := Lib.hid hb; clear hb
  have HCB := Lib.hid hcb; clear hcb
  have HCT := Lib.hid hct; clear hct
  go_loop [6, 8, 14] (fun x _ i => ∃ k : Nat, k ≤ n ∧ i = .int .i64 k ∧ x = .int .u32 (Int.ofNat ((bs.take k).foldl crcByte 4294967295))) (fun _ _ i => n - (intOf i).toNat)
  case atStart => exact ⟨0, Nat.zero_le _, rfl, by simp; decide⟩
  case round =>
    obtain ⟨k, hk, rfl, rfl⟩ := hrel
    have hX4 : (bs.take k).foldl crcByte 4294967295 < 4294967296 := crcFold_lt _ _ (by decide) (fun b hb => HBS.out b (List.mem_of_mem_take hb))
    by_cases hlt : k < n
    · have hcell := HCB.out k hlt
      have HS := Lib.hid (fold_take bs 4294967295 k (by rw [HN.out]; exact hlt))
      have hb4 : bs.getD k 0 < 256 := HBS.out _ (by rw [List.getD_eq_getElem?_getD, List.getElem?_eq_getElem (by rw [HN.out]; exact hlt)]; exact List.getElem_mem _)
      generalize hX : (bs.take k).foldl crcByte 4294967295 = X at *
      generalize hB : bs.getD k 0 = b at *
      clear hX hB
      have HT8 := Lib.hid (crcByte_table X b hb4)
      have e8 : bits .xor .u8 ((X : Int) % 256) (b : Int) = ((X % 256 ^^^ b : Nat) : Int) := bits_xor_u8_nat (X % 256) b (Nat.mod_lt _ (by decide)) hb4
      have h8 : X % 256 ^^^ b < 256 := Nat.xor_lt_two_pow (n := 8) (by omega) hb4
      have hcell2 := HCT.out (X % 256 ^^^ b) h8
      have hs4 : step8 (X % 256 ^^^ b) < 4294967296 := step8_lt (by omega)
      generalize hv : X % 256 ^^^ b = v at *
      have e32 : bits .xor .u32 (step8 v : Int) ((X : Int) / 256) = ((step8 v ^^^ X / 256 : Nat) : Int) := bits_xor_u32_nat (step8 v) (X / 256) hs4 (by omega)
      clear hv
      generalize hs : step8 v = s at *
      clear hs
      go_wp2_with fail
      refine ⟨⟨k + 1, by omega, by go_num, ?_⟩, by simp [intOf]; omega⟩
      rw [HS.out, HT8.out]
      rfl
    · obtain rfl : k = n := by omega
      have HF : Hid (List.foldl crcByte 4294967295 (List.take k bs) = List.foldl crcByte 4294967295 bs) := by rw [List.take_of_length_le (by rw [HN.out]; exact Nat.le_refl _)]; exact rfl
      have eF : bits .xor .u32 (Int.ofNat (List.foldl crcByte 4294967295 (List.take k bs))) 4294967295 = Int.ofNat (List.foldl crcByte 4294967295 (List.take k bs) ^^^ 4294967295) := bits_xor_u32_nat _ 4294967295 hX4 (by decide)
      have HE := Lib.hid eF; clear eF
      go_wp2_with fail
      go_ret
      refine ⟨ret_u32 ?_, hLk⟩
      rw [crcG, ← HF.out]
      exact HE.out

theorem sum_walk {t : Array Value} (ht : TabOk t) (hT : ∀ w : World, Calls Tryz.prog 549 #[] w fun e w' => e = .returned (.agg t) ∧ Lk w w')
    (B o n c : Nat) (bs : List Nat) (w : World) (hn : bs.length = n) (hbig : n ≤ 9223372036854775807) (hb : ∀ b ∈ bs, b < 256)
    (hc : ∀ j b, bs[j]? = some b → w.cell? ⟨B, o + j, none⟩ = some (.int .u8 (Int.ofNat b))) :
    Calls Tryz.prog 294 #[.slice (some ⟨B, o, none⟩) n c] w fun e w' => e = .returned (.int .u32 (Int.ofNat (crcG bs))) ∧ Lk w w' := by
  have HU := Lib.hid (update_walk ht hT B o n c bs w hn hbig hb hc)
  clear hT hn hb hc ht
  go_enter Tryz.func294, Tryz.ntmps294
  go_wp2_with (go_at_call 423; refine HU.out.mono ?_; rintro e w1 ⟨rfl, hk⟩)
  go_ret
  exact ⟨rfl, hk⟩
theorem bits_and1_u32 (a : Nat) (ha : a < 4294967296) : bits .and .u32 (a : Int) 1 = ((a % 2 : Nat) : Int) := by
  have h1 : (BitVec.ofInt 32 (a : Int)).toNat = a := by
    rw [BitVec.ofInt_natCast, BitVec.toNat_ofNat]; exact Nat.mod_eq_of_lt (by omega)
  have h2 : (BitVec.ofInt 32 (1 : Int)).toNat = 1 := by decide
  show IntKind.u32.wrap ((BitVec.ofInt 32 (a : Int) &&& BitVec.ofInt 32 (1 : Int)).toNat : Int) = _
  rw [BitVec.toNat_and, h1, h2, Nat.and_one_is_mod, show ∀ n : Int, IntKind.u32.wrap n = n % 4294967296 from fun n => by simp [IntKind.wrap, IntKind.bits, IntKind.signed]]
  omega

theorem ref_step_walk (x : Nat) (hx : x < 4294967296) (w : World) : Calls Tryz.prog 630 #[.int .u32 (((x : Nat) : Int))] w fun e w' => e = .returned (.int .u32 ((((crcStep x) : Nat) : Int))) ∧ w = w' := by
  have ha := bits_and1_u32 x hx
  have e32 : bits .xor .u32 ((x : Int) / 2) 3988292384 = ((x / 2 ^^^ 3988292384 : Nat) : Int) := bits_xor_u32_nat (x / 2) 3988292384 (by omega) (by decide)
  go_enter Tryz.func630, Tryz.ntmps630
  go_wp2_with fail
  · rename_i h
    go_ret
    have h1 : x % 2 = 1 := by simp at h; omega
    exact ⟨ret_u32 (by simp [crcStep, h1]), rfl⟩
  · rename_i h
    go_ret
    have h1 : ¬ x % 2 = 1 := by simp at h; omega
    exact ⟨ret_u32 (by simp [crcStep, h1]), rfl⟩

def stepN (x : Nat) : Nat → Nat
  | 0 => x
  | k + 1 => crcStep (stepN x k)

theorem stepN_lt {x : Nat} (h : x < 4294967296) (k : Nat) : stepN x k < 4294967296 := by
  induction k with
  | zero => exact h
  | succ k ih => unfold stepN; exact crcStep_lt ih

theorem ref_feed_walk (x b : Nat) (hx : x < 4294967296) (hb : b < 256) (w : World) : Calls Tryz.prog 550 #[.int .u32 (((x : Nat) : Int)), .int .u8 (((b : Nat) : Int))] w fun e w' => e = .returned (.int .u32 ((((crcByte x b) : Nat) : Int))) ∧ w = w' := by
  have e32 : bits .xor .u32 (x : Int) (b : Int) = ((x ^^^ b : Nat) : Int) := bits_xor_u32_nat x b hx (by omega)
  have hX : x ^^^ b < 4294967296 := Nat.xor_lt_two_pow (n := 32) hx (by omega)
  go_enter Tryz.func550, Tryz.ntmps550
  go_wp2_with fail
  go_loop [0, 5] (fun y i => ∃ k : Nat, k ≤ 8 ∧ i = .int .i64 k ∧ y = .int .u32 ((((stepN (x ^^^ b) k) : Nat) : Int))) (fun _ i => 8 - (intOf i).toNat)
  case atStart => exact ⟨0, by omega, rfl, rfl⟩
  case round =>
    obtain ⟨k, hk, rfl, rfl⟩ := hrel
    have hl := stepN_lt hX k
    by_cases hlt : k < 8
    · generalize hS : stepN (x ^^^ b) k = s at *
      have HS : Hid (stepN (x ^^^ b) (k + 1) = crcStep s) := by rw [← hS]; exact rfl
      clear hS
      go_wp2_with (go_at_call 630; refine (ref_step_walk _ hl _).mono ?_; rintro e w' ⟨rfl, rfl⟩)
      go_round
      case rel => exact ⟨k + 1, by omega, by go_num, by rw [HS.out]⟩
      case measure => simp [intOf]; omega
    · obtain rfl : k = 8 := by omega
      go_wp2_with fail
      go_ret
      exact ⟨ret_u32 rfl, rfl⟩

theorem ref_update_walk (B o n c : Nat) (bs : List Nat) (w : World) (hn : bs.length = n) (hbig : n ≤ 9223372036854775807) (hb : ∀ b ∈ bs, b < 256)
    (hc : ∀ j b, bs[j]? = some b → w.cell? ⟨B, o + j, none⟩ = some (.int .u8 (((b : Nat) : Int)))) :
    Calls Tryz.prog 433 #[.int .u32 0, .slice (some ⟨B, o, none⟩) n c] w fun e w' => e = .returned (.int .u32 ((((crcG bs) : Nat) : Int))) ∧ w = w' := by
  have HN := Lib.hid hn; clear hn
  have HBS := Lib.hid hb; clear hb
  have HCB := Lib.hid hc; clear hc
  go_enter Tryz.func433, Tryz.ntmps433
  go_wp2_with fail
  go_loop [5, 6] (fun x i => ∃ k : Nat, k ≤ n ∧ i = .int .i64 k ∧ x = .int .u32 (((bs.take k).foldl crcByte 4294967295 : Nat) : Int)) (fun _ i => n - (intOf i).toNat)
  case atStart => exact ⟨0, Nat.zero_le _, rfl, by simp; decide⟩
  case round =>
    obtain ⟨k, hk, rfl, rfl⟩ := hrel
    have hX4 : (bs.take k).foldl crcByte 4294967295 < 4294967296 := crcFold_lt _ _ (by decide) (fun b hb => HBS.out b (List.mem_of_mem_take hb))
    by_cases hlt : k < n
    · have hb4 : bs.getD k 0 < 256 := HBS.out _ (by rw [List.getD_eq_getElem?_getD, List.getElem?_eq_getElem (by rw [HN.out]; exact hlt)]; exact List.getElem_mem _)
      have hcell : w.cell? ⟨B, o + k, none⟩ = some (.int .u8 ((bs.getD k 0 : Nat) : Int)) := HCB.out k (bs.getD k 0) (by rw [List.getD_eq_getElem?_getD, List.getElem?_eq_getElem (by rw [HN.out]; exact hlt)]; rfl)
      have HS := Lib.hid (fold_take bs 4294967295 k (by rw [HN.out]; exact hlt))
      generalize hX : (bs.take k).foldl crcByte 4294967295 = X at *
      generalize hB : bs.getD k 0 = b at *
      clear hX hB
      go_wp2_with (go_at_call 550; refine (ref_feed_walk _ _ hX4 hb4 _).mono ?_; rintro e w' ⟨rfl, rfl⟩)
      go_round
      case rel => exact ⟨k + 1, by omega, by go_num, by rw [HS.out]⟩
      case measure => simp [intOf]; omega
    · obtain rfl : k = n := by omega
      have HF : Hid (List.foldl crcByte 4294967295 (List.take k bs) = List.foldl crcByte 4294967295 bs) := by rw [List.take_of_length_le (by rw [HN.out]; exact Nat.le_refl _)]; exact rfl
      have eF : bits .xor .u32 ((List.foldl crcByte 4294967295 (List.take k bs) : Nat) : Int) 4294967295 = ((List.foldl crcByte 4294967295 (List.take k bs) ^^^ 4294967295 : Nat) : Int) := bits_xor_u32_nat _ 4294967295 hX4 (by decide)
      have HE := Lib.hid eF; clear eF
      go_wp2_with fail
      go_ret
      refine ⟨ret_u32 ?_, rfl⟩
      rw [crcG, ← HF.out]
      exact HE.out

theorem ref_sum_walk (B o n c : Nat) (bs : List Nat) (w : World) (hn : bs.length = n) (hbig : n ≤ 9223372036854775807) (hb : ∀ b ∈ bs, b < 256)
    (hc : ∀ j b, bs[j]? = some b → w.cell? ⟨B, o + j, none⟩ = some (.int .u8 (Int.ofNat b))) :
    Calls Tryz.prog 309 #[.slice (some ⟨B, o, none⟩) n c] w fun e w' => e = .returned (.int .u32 (Int.ofNat (crcG bs))) ∧ Lk w w' := by
  have HU := Lib.hid (ref_update_walk B o n c bs w hn hbig hb hc)
  clear hn hb hc
  go_enter Tryz.func309, Tryz.ntmps309
  go_wp2_with (go_at_call 433; refine HU.out.mono ?_; rintro e w1 ⟨rfl, rfl⟩)
  go_ret
  exact ⟨rfl, Nat.le_refl _, fun _ _ => rfl, rfl, rfl, rfl⟩
theorem ref_valid_walk (B o n : Nat) (w : World) (hn : 0 < n) (h0 : w.cell? ⟨B, o, none⟩ = some (.int .i64 ((n : Nat) : Int))) :
    Calls Tryz.prog 224 #[.pointer (some ⟨B, o, none⟩)] w fun e w' => e = .returned (.bool true) ∧ w = w' := by
  go_enter Tryz.func224, Tryz.ntmps224
  go_wp2_with fail
  go_ret
  refine ⟨?_, rfl⟩
  first | rfl | (simp; omega) | simp

theorem ref_slot_walk (B o n : Nat) (s : Int) (a : Option Addr) (c : Nat) (w : World) (hn : 0 < n) (h0 : w.cell? ⟨B, o, none⟩ = some (.int .i64 ((n : Nat) : Int))) (h1 : w.cell? ⟨B, o + 1, none⟩ = some (.slice a 0 c)) :
    Calls Tryz.prog 132 #[.pointer (some ⟨B, o, none⟩), .int .i64 s] w fun e w' => e = .returned (.slice none 0 0) ∧ w = w' := by
  have HV := Lib.hid (ref_valid_walk B o n w hn h0)
  go_enter Tryz.func132, Tryz.ntmps132
  go_wp2_with (go_at_call 224; refine HV.out.mono ?_; rintro e w1 ⟨rfl, rfl⟩)
  go_loop [5, 6, 7] (fun x off _ => x = .slice none 0 0 ∧ ∃ k : Nat, k ≤ 8192 ∧ off = .int .i64 k) (fun _ off _ => 8192 - (intOf off).toNat)
  case atStart => exact ⟨rfl, 0, Nat.zero_le _, rfl⟩
  case round =>
    obtain ⟨rfl, k, hk, rfl⟩ := hrel
    by_cases hlt : k < 8192
    · go_wp2_with fail
      go_loop [5, 6, 7] (fun x off i => x = .slice none 0 0 ∧ off = .int .i64 k ∧ i = .int .i64 0) (fun _ _ _ => 0)
      case atStart => exact ⟨rfl, rfl, rfl⟩
      case round =>
        obtain ⟨rfl, rfl, rfl⟩ := hrel
        go_wp2_with fail
        refine ⟨⟨rfl, k + 1, by omega, by go_num⟩, ?_⟩
        simp [intOf]; omega
    · obtain rfl : k = 8192 := by omega
      go_wp2_with fail
      go_ret
      exact ⟨rfl, rfl⟩
end Go.X

