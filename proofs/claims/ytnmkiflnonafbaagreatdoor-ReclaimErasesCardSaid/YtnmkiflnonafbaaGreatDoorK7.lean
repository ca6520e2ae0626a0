/- Walks 7. -/
import Derived.Test.YtnmkiflnonafbaaGreatDoorProg
import Derived.Test.YtnmkiflnonafbaaGreatDoorK1
import Derived.Test.YtnmkiflnonafbaaGreatDoorK4
import Derived.Test.YtnmkiflnonafbaaGreatDoorK6
set_option linter.unusedVariables false
set_option linter.unusedSimpArgs false
set_option maxRecDepth 100000
namespace Go.M
open Go.Proofs Go.RowKit
def ZqU (t : Array Value) : Prop := t.size = 256 ∧ ∀ i, i < 256 → t[i]? = some (.int .u32 (Int.ofNat (Zcl i)))
def Lk (w w' : World) : Prop := w.heap.size ≤ w'.heap.size ∧ (∀ C, C < w.heap.size → w'.heap[C]? = w.heap[C]?) ∧ w'.os = w.os ∧ w'.tape = w.tape ∧ w'.output = w.output
theorem Zbg (a b : Nat) (ha : a < 4294967296) (hb : b < 4294967296) : bits .xor .u32 (a : Int) (b : Int) = ((a ^^^ b : Nat) : Int) := by
 have hx : a ^^^ b < 2 ^ 32 := Nat.xor_lt_two_pow (by omega) (by omega)
 have h1 : (BitVec.ofInt 32 (a : Int)).toNat = a := by
  rw [BitVec.ofInt_natCast, BitVec.toNat_ofNat]; exact Nat.mod_eq_of_lt (by omega)
 have h2 : (BitVec.ofInt 32 (b : Int)).toNat = b := by
  rw [BitVec.ofInt_natCast, BitVec.toNat_ofNat]; exact Nat.mod_eq_of_lt (by omega)
 show IntKind.u32.wrap ((BitVec.ofInt 32 (a : Int) ^^^ BitVec.ofInt 32 (b : Int)).toNat : Int) = _;rw [BitVec.toNat_xor, h1, h2, show ∀ n : Int, IntKind.u32.wrap n = n % 4294967296 from fun n => by simp [IntKind.wrap, IntKind.bits, IntKind.signed]]
 omega
theorem Ze7 (a b : Nat) (ha : a < 256) (hb : b < 256) : bits .xor .u8 (a : Int) (b : Int) = ((a ^^^ b : Nat) : Int) := by
 have hx : a ^^^ b < 2 ^ 8 := Nat.xor_lt_two_pow (by omega) (by omega)
 have h1 : (BitVec.ofInt 8 (a : Int)).toNat = a := by
  rw [BitVec.ofInt_natCast, BitVec.toNat_ofNat]; exact Nat.mod_eq_of_lt (by omega)
 have h2 : (BitVec.ofInt 8 (b : Int)).toNat = b := by
  rw [BitVec.ofInt_natCast, BitVec.toNat_ofNat]; exact Nat.mod_eq_of_lt (by omega)
 show IntKind.u8.wrap ((BitVec.ofInt 8 (a : Int) ^^^ BitVec.ofInt 8 (b : Int)).toNat : Int) = _;rw [BitVec.toNat_xor, h1, h2, show ∀ n : Int, IntKind.u8.wrap n = n % 256 from fun n => by simp [IntKind.wrap, IntKind.bits, IntKind.signed]]
 omega
theorem ZpD {a b : Int} (h : a = b) : Ending.returned (.int .u32 a) = .returned (.int .u32 b) := by rw [h]
theorem Zgz (a : Nat) (ha : a < 4294967296) : bits .and .u32 (a : Int) 1 = ((a % 2 : Nat) : Int) := by
 have h1 : (BitVec.ofInt 32 (a : Int)).toNat = a := by
  rw [BitVec.ofInt_natCast, BitVec.toNat_ofNat]; exact Nat.mod_eq_of_lt (by omega)
 have h2 : (BitVec.ofInt 32 (1 : Int)).toNat = 1 := by decide
 show IntKind.u32.wrap ((BitVec.ofInt 32 (a : Int) &&& BitVec.ofInt 32 (1 : Int)).toNat : Int) = _;rw [BitVec.toNat_and, h1, h2, Nat.and_one_is_mod, show ∀ n : Int, IntKind.u32.wrap n = n % 4294967296 from fun n => by simp [IntKind.wrap, IntKind.bits, IntKind.signed]]
 omega
def ZkH (x : Nat) : Nat → Nat
 | 0 => x
 | k + 1 => Zan (ZkH x k)
theorem ZnR {x : Nat} (h : x < 4294967296) (k : Nat) : ZkH x k < 4294967296 := by
 induction k with
 | zero => exact h
 | succ k ih => unfold ZkH; exact ZaP ih
theorem ZkI {w : World} : Calls Tryz.prog 215 #[] w fun e w' => ∃ t, e = .returned (.agg t) ∧ ZqU t ∧ Lk w w' := by
 go_enter Tryz.func215, Tryz.ntmps215
 go_wp2;have hz : Tryz.zeroCells277.size = 256 := by kernel_rfl
 have h0 : Has ((w.alloc (Obj.cells Tryz.zeroCells277 277)).alloc (Obj.cells Tryz.zeroCells277 277)) (w.heap.size + 1) 277 Tryz.zeroCells277 := by
  have := Has.new (w.alloc (Obj.cells Tryz.zeroCells277 277)) 277 Tryz.zeroCells277;simpa using this
 have h1 : Has ((w.alloc (Obj.cells Tryz.zeroCells277 277)).alloc (Obj.cells Tryz.zeroCells277 277)) w.heap.size 277 Tryz.zeroCells277 := (Has.new w 277 Tryz.zeroCells277).alloc _;have hO : Old w ((w.alloc (Obj.cells Tryz.zeroCells277 277)).alloc (Obj.cells Tryz.zeroCells277 277)) := ((Upd.refl _ w).alloc _).alloc _;generalize ((w.alloc (Obj.cells Tryz.zeroCells277 277)).alloc (Obj.cells Tryz.zeroCells277 277)) = W at *
 go_loopw [4] (fun i wr => ∃ k : Nat, k ≤ 256 ∧ i = .int .i64 k ∧ Has wr w.heap.size 277 Tryz.zeroCells277 ∧ (∃ cur : Array Value, Has wr (w.heap.size + 1) 277 cur ∧ cur.size = 256 ∧ ∀ j, j < k → cur[j]? = some (.int .u32 (Int.ofNat (Zcl j)))) ∧ Old w wr) (fun i _ => 256 - (intOf i).toNat)
 case atStart => exact ⟨0, by omega, rfl, h1, ⟨_, h0, hz, fun j hj => by omega⟩, hO⟩
 case round =>
  obtain ⟨k, hk, rfl, hR, ⟨cur, hT, hcs, hcj⟩, hO2⟩ := hrel;clear h0 h1 hO
  by_cases hlt : k < 256
  ·have cT : wr.cell? ⟨w.heap.size + 1, k, none⟩ = some cur[k] := by rw [hT.cell, Array.getElem?_eq_getElem (by omega)]
   have fT : wr.frozen? ⟨w.heap.size + 1, k, none⟩ = false := hT.frozen k;have HR := Lib.hid hR;have HT := Lib.hid hT;have HJ := Lib.hid hcj;have HO := Lib.hid hO2;clear hR hcj hO2 hT;go_wp2
   go_loop [3, 9] (fun x i => ∃ j : Nat, j ≤ 8 ∧ i = .int .i64 j ∧ x = .int .u32 (((ZkH k j) : Nat) : Int)) (fun _ i => 8 - (intOf i).toNat)
   case atStart => exact ⟨0, by omega, rfl, rfl⟩
   case round =>
    obtain ⟨j, hj, rfl, rfl⟩ := hrel;have hl := ZnR (show k < 4294967296 by omega) j
    by_cases hj8 : j < 8
    ·generalize hS : ZkH k j = x at *
     have HS : Hid (ZkH k (j + 1) = Zan x) := by rw [← hS]; exact rfl
     clear hS;have ha := Zgz x hl;have e32 : bits .xor .u32 ((x : Int) / 2) 3988292384 = ((x / 2 ^^^ 3988292384 : Nat) : Int) := Zbg (x / 2) 3988292384 (by omega) (by decide)
     go_wp2_with fail
     ·rename_i h
      go_round
      case rel =>
       have h1 : x % 2 = 1 := by simp at h; omega
       exact ⟨j + 1, by omega, by go_num, by rw [HS.out]; simp [Zan, h1]⟩
      case measure => simp [intOf]; omega
     ·rename_i h
      go_round
      case rel =>
       have h1 : ¬ x % 2 = 1 := by simp at h; omega
       exact ⟨j + 1, by omega, by go_num, by rw [HS.out]; simp [Zan, h1]⟩
      case measure => simp [intOf]; omega
    ·obtain rfl : j = 8 := by omega
     go_wp2_with fail
     go_roundw
     case rel => exact ⟨k + 1, by omega, by go_num, HR.out.setOther (by simp) _, ⟨_, HT.out.set k _, by simpa using hcs, fun j hj => by
      by_cases e : j = k
      ·subst e;rw [Array.getElem?_setIfInBounds_self_of_lt (by omega)]
       rfl
      ·rw [Array.getElem?_setIfInBounds_ne (by omega)]
       exact HJ.out j (by omega)⟩, HO.out.setCell _ _ (.inr (by simp))⟩
     case measure => simp [intOf]; omega
  ·obtain rfl : k = 256 := by omega
   have HR := Lib.hid hR;have HT := Lib.hid hT;have HJ := Lib.hid hcj;have HO := Lib.hid hO2;clear hR hT hcj hO2
   go_wp2_with (first | (refine wpList_load_row rfl 277 (.tmp 1) rfl (w.heap.size + 1) rfl 277 cur (0, 0) _ HT.out Tryz.underlying277 rfl (by rw [hcs]; kernel_rfl) ?_) | (refine wpList_store_row rfl 277 (.tmp 0) (.tmp 24) rfl w.heap.size cur rfl rfl 277 _ HR.out (by rw [hcs]; kernel_rfl) (by rw [hcs, hz]) ?c1 ?_))
   case c1 =>
    rw [Array.all_eq_true];intro i hi;have := HJ.out i (by omega)
    rw [Array.getElem?_eq_getElem hi] at this;simp only [Option.some.injEq] at this;rw [this]; rfl
   refine bodyPost_ret (results_cell_row rfl _ _ w.heap.size 277 cur (0, 0) _ rfl (setRow_heap _ _ _ _ _ _ HR.out) Tryz.underlying277 rfl (by rw [hcs]; kernel_rfl)) rfl ?_
   refine ⟨cur, rfl, ⟨hcs, HJ.out⟩, ?_⟩;have hO3 : Old w (wr.setRow w.heap.size cur) := ⟨by simpa using HO.out.size, fun b hb _ => by rw [setRow_other _ _ _ _ (by omega)]; exact HO.out.keep b hb (fun x => x), HO.out.tape, HO.out.os, HO.out.out⟩
   exact ⟨hO3.size, fun C hC => hO3.keep C hC (fun x => x), hO3.os, hO3.tape, hO3.out⟩
theorem ZpE {t : Array Value} (ht : ZqU t) : (t.all fun x => x.oneCell') = true := by
 rw [Array.all_eq_true];intro i hi;have := ht.2 i (by have := ht.1; omega)
 rw [Array.getElem?_eq_getElem hi] at this;simp only [Option.some.injEq] at this;rw [this]; rfl
theorem ZiJ (B o n c : Nat) (bs : List Nat) (w : World) (hn : bs.length = n) (hbig : n ≤ 9223372036854775807) (hb : ∀ b ∈ bs, b < 256)
 (hc : ∀ j b, bs[j]? = some b → w.cell? ⟨B, o + j, none⟩ = some (.int .u8 (Int.ofNat b))) :
 Calls Tryz.prog 179 #[.int .u32 0, .slice (some ⟨B, o, none⟩) n c] w fun e w' => e = .returned (.int .u32 (Int.ofNat (Zri bs))) ∧ Lk w w' := by
 go_enter Tryz.func179, Tryz.ntmps179
 go_wp2_with (first | (go_at_call 215; refine ZkI.mono ?_; rintro e w1 ⟨t, rfl, ht, hk⟩; have hts := ht.1; have hta := ZpE ht; have hiA : Option.map (fun x => x.size) (Tryz.prog.info? 277) = some t.size := (by rw [hts]; kernel_rfl); have hzA : Tryz.zeroCells277.size = t.size := (by rw [hts]; kernel_rfl)) | (refine wpList_store_row rfl 277 (.tmp 5) (.tmp 9) rfl w1.heap.size t rfl rfl 277 _ (heap_alloc_new _ _) hiA hzA hta ?_))
 obtain ⟨W, hW⟩ : ∃ W, ((w1.alloc (Obj.cells Tryz.zeroCells277 277)).setRow w1.heap.size t) = W := ⟨_, rfl⟩;rw [hW];have hold : ∀ C, C < w.heap.size → W.heap[C]? = w.heap[C]? := by
  intro C hC;rw [← hW, setRow_other _ _ _ _ (by have := hk.1; omega), Go.heap_alloc_old _ _ (by have := hk.1; omega)]
  exact hk.2.1 C hC
 have hcb : ∀ j, j < n → W.cell? ⟨B, o + j, none⟩ = some (.int .u8 (Int.ofNat (bs.getD j 0))) := by
  intro j hj;have h1 := hc j (bs.getD j 0) (by rw [List.getD_eq_getElem?_getD, List.getElem?_eq_getElem (by omega)]; rfl)
  have hB : B < w.heap.size := block_lt_of_cell h1;have : W.cell? ⟨B, o + j, none⟩ = w.cell? ⟨B, o + j, none⟩ := by simp only [World.cell?, hold B hB]
  rw [this, h1]
 have hct : ∀ j, j < 256 → W.cell? ⟨w1.heap.size, j, none⟩ = some (.int .u32 (Int.ofNat (Zcl j))) := by
  intro j hj;rw [← hW, cell_setRow_same _ _ _ _ _ _ _ (heap_alloc_new _ _)];exact ht.2 j hj
 have hLk : Lk w W := by
  refine ⟨?_, hold, ?_, ?_, ?_⟩
  ·rw [← hW]; simp; have := hk.1; omega
  ·rw [← hW]; exact hk.2.2.1
  ·rw [← hW]; exact hk.2.2.2.1
  ·rw [← hW]; exact hk.2.2.2.2
 clear hk hW hold hc hiA hzA hta hts;have HN := Lib.hid hn; clear hn;have HBS := Lib.hid hb; clear hb;have HCB := Lib.hid hcb; clear hcb;have HCT := Lib.hid hct; clear hct
 go_loop [6, 8, 14] (fun x _ i => ∃ k : Nat, k ≤ n ∧ i = .int .i64 k ∧ x = .int .u32 (Int.ofNat ((bs.take k).foldl ZaX 4294967295))) (fun _ _ i => n - (intOf i).toNat)
 case atStart => exact ⟨0, Nat.zero_le _, rfl, by simp; decide⟩
 case round =>
  obtain ⟨k, hk, rfl, rfl⟩ := hrel;have hX4 : (bs.take k).foldl ZaX 4294967295 < 4294967296 := ZdJ _ _ (by decide) (fun b hb => HBS.out b (List.mem_of_mem_take hb))
  by_cases hlt : k < n
  ·have hcell := HCB.out k hlt;have HS := Lib.hid (ZlQ bs 4294967295 k (by rw [HN.out]; exact hlt))
   have hb4 : bs.getD k 0 < 256 := HBS.out _ (by rw [List.getD_eq_getElem?_getD, List.getElem?_eq_getElem (by rw [HN.out]; exact hlt)]; exact List.getElem_mem _)
   generalize hX : (bs.take k).foldl ZaX 4294967295 = X at *
   generalize hB : bs.getD k 0 = b at *
   clear hX hB;have HT8 := Lib.hid (Zgi X b hb4);have e8 : bits .xor .u8 ((X : Int) % 256) (b : Int) = ((X % 256 ^^^ b : Nat) : Int) := Ze7 (X % 256) b (Nat.mod_lt _ (by decide)) hb4
   have h8 : X % 256 ^^^ b < 256 := Nat.xor_lt_two_pow (n := 8) (by omega) hb4
   have hcell2 := HCT.out (X % 256 ^^^ b) h8;have hs4 : Zcl (X % 256 ^^^ b) < 4294967296 := Zjn (by omega)
   generalize hv : X % 256 ^^^ b = v at *
   have e32 : bits .xor .u32 (Zcl v : Int) ((X : Int) / 256) = ((Zcl v ^^^ X / 256 : Nat) : Int) := Zbg (Zcl v) (X / 256) hs4 (by omega)
   clear hv;generalize hs : Zcl v = s at *
   clear hs
   go_wp2_with fail
   refine ⟨⟨k + 1, by omega, by go_num, ?_⟩, by simp [intOf]; omega⟩
   rw [HS.out, HT8.out];rfl
  ·obtain rfl : k = n := by omega
   have HF : Hid (List.foldl ZaX 4294967295 (List.take k bs) = List.foldl ZaX 4294967295 bs) := by rw [List.take_of_length_le (by rw [HN.out]; exact Nat.le_refl _)]; exact rfl
   have eF : bits .xor .u32 (Int.ofNat (List.foldl ZaX 4294967295 (List.take k bs))) 4294967295 = Int.ofNat (List.foldl ZaX 4294967295 (List.take k bs) ^^^ 4294967295) := Zbg _ 4294967295 hX4 (by decide)
   have HE := Lib.hid eF; clear eF
   go_wp2_with fail
   go_ret;refine ⟨ZpD ?_, hLk⟩;rw [Zri, ← HF.out];exact HE.out
theorem ZnS (B o n c : Nat) (bs : List Nat) (w : World) (hn : bs.length = n) (hbig : n ≤ 9223372036854775807) (hb : ∀ b ∈ bs, b < 256)
 (hc : ∀ j b, bs[j]? = some b → w.cell? ⟨B, o + j, none⟩ = some (.int .u8 (Int.ofNat b))) :
 Calls Tryz.prog 117 #[.slice (some ⟨B, o, none⟩) n c] w fun e w' => e = .returned (.int .u32 (Int.ofNat (Zri bs))) ∧ Lk w w' := by
 have HU := Lib.hid (ZiJ B o n c bs w hn hbig hb hc);clear hn hb hc
 go_enter Tryz.func117, Tryz.ntmps117
 go_wp2_with (go_at_call 179; refine HU.out.mono ?_; rintro e w1 ⟨rfl, hk⟩)
 go_ret;exact ⟨rfl, hk⟩
def Zr8 (sum kind key val seq : Nat) : Prop := ∀ w : World, Calls Tryz.prog 116 #[.agg #[.int .u32 ((sum : Nat) : Int), .int .i64 ((kind : Nat) : Int), .int .i64 ((key : Nat) : Int), .int .i64 ((val : Nat) : Int), .int .i64 ((seq : Nat) : Int)]] w (ZiG w 5 1 16 ((Zea sum kind key val seq 5).map Zav))
theorem Zct (s : ByteArray) : byteCells s = s.data.toList.map Zav := by
 unfold byteCells Zav;rfl
theorem ZgA {w : World} {e : TypeId} {size n g c : Nat} {xs : List Value} (own : w.ownsRow 0 e size (.slice (some ⟨g, 0, none⟩) n c) n xs) : n ≤ c ∧ c ≤ maxLen := by
 rcases own.2 with ⟨h1, h2⟩ | ⟨g', c', cur, h1, _, _, h2, h3, _⟩
 ·cases h1
 ·injection h1 with _ _ e3;subst e3;exact ⟨h2, h3⟩
theorem ZpF {w : World} {k n c o : Nat} {xs : List Value} {e : TypeId} {size : Nat} (own : w.ownsRow 0 e size (.slice (some ⟨k, 0, none⟩) n c) n xs) : ∀ j u, (xs.drop o)[j]? = some u → w.cell? ((⟨k, o, none⟩ : Addr).add j) = some u := by
 intro j u hj;rw [List.getElem?_drop] at hj;have h := own.cells (g := k) rfl _ _ hj;rw [Addr.add_lit] at h ⊢;simpa using h
theorem Zmu {w : World} {k n c o m c' : Nat} {X : List UInt8} (own : w.ownsRow 0 5 1 (.slice (some ⟨k, 0, none⟩) n c) n (X.map Zav)) (hm : o + m = n) (hn : n ≤ 100000) :
 Calls Tryz.prog 117 #[.slice (some ⟨k, o, none⟩) m c'] w fun e w' => ∃ s : Nat, s < 4294967296 ∧ e = .returned (.int .u32 ((s : Nat) : Int)) ∧ Old w w' := by
 have hl : X.length = n := by simpa using own.1
 have hb : ∀ b ∈ (X.drop o).map UInt8.toNat, b < 256 := by
  intro b hb;obtain ⟨x, _, rfl⟩ := List.mem_map.1 hb;exact x.toNat_lt
 have hcell := own.cells (g := k) rfl;refine (ZnS k o m c' ((X.drop o).map UInt8.toNat) w (by simp; omega) (by omega) hb ?_).mono ?_
 ·intro j b hj;have h1 : (X.map Zav)[o + j]? = some (.int .u8 (Int.ofNat b)) := by
   rw [List.getElem?_map, List.getElem?_drop] at hj;rw [List.getElem?_map];cases h : X[o + j]? with
   | none => simp [h] at hj
   | some x =>
    simp only [h, Option.map_some, Option.some.injEq] at hj;subst hj;rfl
  have h2 := hcell _ _ h1;rw [Addr.add_lit] at h2;simpa using h2
 ·rintro e w' ⟨rfl, h⟩;exact ⟨_, Zo8 _ hb, rfl, h.1, fun b hb _ => h.2.1 b hb, h.2.2.2.1, h.2.2.1, h.2.2.2.2⟩
theorem Zmv {w : World} {ad : Addr} {n c : Nat} (h : n ≤ c) :
 Calls Tryz.prog 118 #[.slice (some ad) n c] w fun e w' => e = .returned (.slice (some ad) n n) ∧ w = w' := by
 go_enter Tryz.func118, Tryz.ntmps118
 go_wp2;go_ret;exact ⟨by simp, rfl⟩
def Zmw (w : World) (v : Value) : Prop := ∀ ad n c, v = .slice (some ad) n c → w.heap.size ≤ ad.block
theorem Zmx {w : World} {kind seq : Nat} {key val : ByteArray} (hk : 0 < key.size) (hk2 : key.size ≤ 32) (hv : val.size ≤ 512)
 (HC : ∀ w : World, Calls Tryz.prog 115 #[.agg #[.int .i64 ((kind : Nat) : Int), .int .i64 ((seq : Nat) : Int), .string key, .string val]] w fun e w' => e = .returned (.int .i64 0) ∧ Old w w')
 (HE : ∀ sum, sum < 4294967296 → Zr8 sum kind key.size val.size seq) :
 Calls Tryz.prog 64 #[.agg #[.int .i64 ((kind : Nat) : Int), .int .i64 ((seq : Nat) : Int), .string key, .string val]] w fun e w' => ∃ v bs, e = .returned (.tuple #[v, .int .i64 0]) ∧ BytesAt w' v bs ∧ bs.length = 16 + key.size + val.size ∧ Old w w' ∧ Zmw w v := by
 have H := Lib.hid HC;have HEE := Lib.hid HE;clear HC HE;obtain ⟨i0, hi0, hz0, hz1, hz2⟩ := info_parts Zgw
 go_enter Tryz.func64, Tryz.ntmps64
 go_wp2_with (first | (go_at_call 115; refine (H.out _).mono ?_; rintro e w1 ⟨rfl, hO⟩; have c0 : w1.cell? ⟨w.heap.size, 0, none⟩ = some (.int .i64 ((kind : Nat) : Int)) := Old.cellOf' hO (by simp); have c1 : w1.cell? ⟨w.heap.size, 1, none⟩ = some (.int .i64 ((seq : Nat) : Int)) := Old.cellOf' hO (by simp); have c2 : w1.cell? ⟨w.heap.size, 2, none⟩ = some (.string key) := Old.cellOf' hO (by simp); have c3 : w1.cell? ⟨w.heap.size, 3, none⟩ = some (.string val) := Old.cellOf' hO (by simp); have hlw0 := Lib.hid (show w.heap.size + 1 ≤ w1.heap.size by simpa using hO.size); have O1 := Lib.hid ((Upd.alloc (Upd.refl (fun _ => False) w) _).trans hO); clear hO) | (go_at_call 116; refine (HEE.out 0 (by omega) _).mono ?_; rintro e w2 ⟨v2, rfl, hown, hO, hfr⟩))
 have c2 := Old.cellOf' hO (Old.cellOf' ((Upd.refl _ w1).alloc _) c2);have c3 := Old.cellOf' hO (Old.cellOf' ((Upd.refl _ w1).alloc _) c3);have hH : Has w2 w1.heap.size 189 #[.int .u32 0, .int .i64 ((kind : Nat) : Int), .int .i64 ((key.size : Nat) : Int), .int .i64 ((val.size : Nat) : Int), .int .i64 ((seq : Nat) : Int)] := Old.has hO (Has.new _ _ _);obtain ⟨g, cap, rfl⟩ := ZaU hown (by omega)
 have hgf : w1.heap.size + 1 ≤ g := by have := hfr g rfl; simpa using this
 have hlw : w.heap.size + 1 ≤ w1.heap.size := hlw0.out;have hl2 : w1.heap.size + 1 ≤ w2.heap.size := by simpa using hO.size
 have HO1 := Lib.hid hO;have HW := Lib.hid hown;clear hO hfr hown H
 go_region_held3 (fun x => x.cell? ⟨w.heap.size, 2, none⟩ = some (.string key) ∧ x.cell? ⟨w.heap.size, 3, none⟩ = some (.string val))
  (first | go_keep | (exact ⟨E2, E3⟩))
  (first | (refine Zdu (.tmp 33) (.tmp 35) 41 9 rfl 5 i0 (.int .u8 0) Tryz.underlying41 Tryz.underlying9 hi0 hz0 hz1 hz2 rfl g 16 cap _ rfl (by exact HW.out) key rfl (by omega) ?_; intro k1 e1 w3 hown1 hg1 hk1; have U1 := ((Upd.refl (fun b => g = b) w2).drew).grown hg1 (fun k hk => .inl (by simpa using hk)); have E2 := U1.cellOf c2 (fun e : g = w.heap.size => by omega); have E3 := U1.cellOf c3 (fun e : g = w.heap.size => by omega); have HW1 := Lib.hid hown1; have HU1 := Lib.hid U1; clear hown1 hg1 U1) | (refine Zdu (.tmp 36) (.tmp 38) 41 9 rfl 5 i0 (.int .u8 0) Tryz.underlying41 Tryz.underlying9 hi0 hz0 hz1 hz2 rfl k1 (16 + key.size) e1 _ rfl (by exact HW1.out) val rfl (by omega) ?_; intro k2 e2 w4 hown2 hg2 hk2; have U2 := ((Upd.refl (fun b => k1 = b) w3)).grown hg2 (fun k hk => .inl (by simpa using hk)); have HW2 := Lib.hid hown2; have HU2 := Lib.hid U2; have E2 := U2.cellOf E2 (fun e : k1 = w.heap.size => by have := HU1.out.size; simp at hk1; omega); have E3 := U2.cellOf E3 (fun e : k1 = w.heap.size => by have := HU1.out.size; simp at hk1; omega); clear hown2 hg2 U2))
 have e13 : g ≠ w1.heap.size := by omega
 have e23 : k1 ≠ w1.heap.size := by simp at hk1; omega
 have e33 : w1.heap.size + 1 ≤ k2 := by have := HU1.out.size; simp at hk1; omega
 have hk1f : w.heap.size ≤ k1 := by have := hlw0.out; simp at hk1; omega
 have hH4 := Lib.hid (HU2.out.has (HU1.out.has hH e13) e23);have O4 := Lib.hid (show Old w w4 from ((((O1.out.alloc _).trans HO1.out).after HU1.out (fun b hb hf => by omega)).after HU2.out (fun b hb hf => by omega)))
 have hsz4 : w1.heap.size + 1 ≤ w4.heap.size := by have := HU1.out.size; have := HU2.out.size; omega
 have hX : w4.ownsRow 0 5 1 (.slice (some ⟨k2, 0, none⟩) (16 + key.size + val.size) e2) (16 + key.size + val.size) ((Zea 0 kind key.size val.size seq 5 ++ key.data.toList ++ val.data.toList).map Zav) := by
  rw [List.map_append, List.map_append, ← Zct, ← Zct];exact HW2.out
 have HX := Lib.hid hX;have hcap := (ZgA hX).1;have HL1 := Lib.hid hlw0.out;clear hX HW2 HW1 HW HU1 HU2 HO1 O1 hlw0 c0 c1 c2 c3 E2 hk1 hk2 hH;rename_i hHeld;clear hHeld;have L5 : ∀ k, w1.heap.size < w4.heap.size + k := fun k => by omega
 go_wp2_with (first | (go_at_call 117; refine (Zmu HX.out (by omega) (by omega)).mono ?_; rintro e w5 ⟨s, hs, rfl, hO5⟩; have H5 := hO5.has hH4.out; have d0 : w5.cell? ⟨w1.heap.size, 0, none⟩ = some (.int .u32 0) := H5.cell 0; have d1 : w5.cell? ⟨w1.heap.size, 1, none⟩ = some (.int .i64 ((kind : Nat) : Int)) := H5.cell 1; have d2 : w5.cell? ⟨w1.heap.size, 2, none⟩ = some (.int .i64 ((key.size : Nat) : Int)) := H5.cell 2; have d3 : w5.cell? ⟨w1.heap.size, 3, none⟩ = some (.int .i64 ((val.size : Nat) : Int)) := H5.cell 3; have d4 : w5.cell? ⟨w1.heap.size, 4, none⟩ = some (.int .i64 ((seq : Nat) : Int)) := H5.cell 4; have fz : w5.frozen? ⟨w1.heap.size, 0, none⟩ = false := H5.frozen 0; have HO5 := Lib.hid hO5; clear hO5 H5) | (go_at_call 116; refine (HEE.out s hs _).mono ?_; rintro e w6 ⟨v6, rfl, hown6, hO6, hfr6⟩; obtain ⟨g6, c6, rfl⟩ := ZaU hown6 (by omega); have U6 := Lib.hid ((((HO5.out.mono (G := fun b => b = w1.heap.size) (fun _ _ h => h.elim)).setCell ⟨w1.heap.size, 0, none⟩ (.int .u32 ((s : Nat) : Int)) (.inl rfl))).after hO6 (fun _ _ h => h.elim)); have HX6 := Lib.hid (U6.out.own HX.out (fun b hb => (by simp [Value.ownBlock] at hb; omega))); have hg6 : w4.heap.size ≤ g6 := (by have := hfr6 g6 rfl; have := HO5.out.size; simp at *; omega); have HW6 := Lib.hid hown6; clear hown6 hO6 hfr6) | (at_builtin; refine Zam rfl (.tmp 52) (.tmp 54) 41 rfl 5 i0 (.int .u8 0) 1 1 Tryz.underlying41 hi0 hz0 hz1 hz2 rfl (by decide) (.slice (some ⟨g6, 0, none⟩) 16 c6) 16 _ rfl (by exact HW6.out) ⟨k2, 16, none⟩ (16 + key.size + val.size - 16) (e2 - 16) (((Zea 0 kind key.size val.size seq 5 ++ key.data.toList ++ val.data.toList).map Zav).drop 16) rfl (by have := HX6.out.1; simp at this; simp; omega) (ZpF HX6.out) (fun u hu => ZhJ _ u (List.mem_of_mem_drop hu)) (by unfold maxLen; omega) (by omega) ?_; intro v7 w7 hown7 hgrow7 _ hfresh7; obtain ⟨g7, c7, rfl⟩ := ZaU hown7 (by omega); have hcap7 := (ZgA hown7).1; have HW7 := Lib.hid hown7; have HG7 := Lib.hid hgrow7; clear hown7 hgrow7) | (go_at_call 118; refine (Zmv hcap7).mono ?_; rintro e w8 ⟨rfl, rfl⟩))
 go_ret2;have hlen : (Zea s kind key.size val.size seq 5 ++ (Zea 0 kind key.size val.size seq 5 ++ key.data.toList ++ val.data.toList).drop 16).length = 16 + key.size + val.size := by
  have h1 := HW7.out.1;rw [← List.map_drop, ← List.map_append, List.length_map] at h1;omega
 have U7 := U6.out.grown HG7.out (fun k hk => .inr (by simp [Value.ownBlock] at hk; omega))
 refine ⟨_, Zea s kind key.size val.size seq 5 ++ (Zea 0 kind key.size val.size seq 5 ++ key.data.toList ++ val.data.toList).drop 16, rfl, .inr ⟨⟨g7, 0, none⟩, 16 + key.size + val.size, by rw [hlen]; show Value.slice (some ⟨g7, 0, none⟩) (16 + (16 + key.size + val.size - 16)) (16 + (16 + key.size + val.size - 16)) = _; rw [show 16 + (16 + key.size + val.size - 16) = 16 + key.size + val.size by omega], ?_⟩, hlen, O4.out.after U7 (fun b hb hf => by have := HL1.out; omega), fun ad n c h => ?_⟩
 ·intro j u hj;refine HW7.out.cells (g := g7) rfl j u ?_;rw [← List.map_drop, ← List.map_append];exact hj
 ·injection h with h1 _ _;injection h1 with h1;subst h1;have h2 := hfresh7 g7 rfl;have h3 := HL1.out;have h4 := U6.out.size;simp [Value.ownBlock] at h2;show w.heap.size ≤ g7;omega
theorem results_cell_tmp {P : Program} {fn : Func} {p q : Tmp} {ty : TypeId} (h : fn.results = #[.cell p ty, .tmp q]) (tmps : Array Value) (w : World) (ad : Addr) (l : List Value) (d : TypeDesc)
 (hp : tmps.getD p undef = .pointer (some ad)) (hl : ∀ j v, l[j]? = some v → w.cell? (ad.add j) = some v)
 (hu : P.underlying ty = some d) (hd : (match d with | .struct _ | .array _ _ => true | _ => false) = true) (hi : (P.info? ty).map (·.size) = some l.length) :
 (results fn tmps).run P w = .ok (.tuple #[.agg l.toArray, tmps.getD q undef]) w := by
 have hc : (loadCells ad l.length).run P w = .ok l.toArray w := run_loadCells_list (P := P) w ad l hl;have hv : (loadVar ty ad).run P w = .ok (.agg l.toArray) w := by
  cases hq : P.info? ty with
  | none => simp [hq] at hi
  | some i =>
   have hs : i.size = l.length := by simpa [hq] using hi
   have hagg : (isAgg ty).run P w = .ok true w := by
    unfold isAgg;rw [Sem.run_bind, run_underlying hu w];cases d <;> simp_all
   simp [loadVar, Sem.run_bind, hagg, sizeOf, typeInfo, hq, hs, hc]
 have hp' : tmps[p]?.getD undef = .pointer (some ad) := by simpa using hp
 simp [results, h, hp', asAddr, hv]
theorem ZrI {w : World} {kind seq : Nat} {key val : ByteArray} (hk2 : key.size ≤ 32) (hv : val.size ≤ 512)
 (HC : ∀ w : World, Calls Tryz.prog 115 #[.agg #[.int .i64 ((kind : Nat) : Int), .int .i64 ((seq : Nat) : Int), .string key, .string val]] w fun e w' => e = .returned (.int .i64 0) ∧ Old w w') :
 Calls Tryz.prog 121 #[.agg #[.int .i64 ((kind : Nat) : Int), .int .i64 ((seq : Nat) : Int), .string key, .string val]] w fun e w' => e = .returned (.tuple #[.int .i64 ((16 + key.size + val.size : Nat) : Int), .int .i64 0]) ∧ Old w w' := by
 have H := Lib.hid HC;clear HC
 go_enter Tryz.func121, Tryz.ntmps121
 go_wp2_with (first | (go_at_call 115; refine (H.out _).mono ?_; rintro e w1 ⟨rfl, hO⟩; have c2 : w1.cell? ⟨w.heap.size, 2, none⟩ = some (.string key) := Old.cellOf' hO (by simp); have c3 : w1.cell? ⟨w.heap.size, 3, none⟩ = some (.string val) := Old.cellOf' hO (by simp); have O1 := Lib.hid ((Upd.alloc (Upd.refl (fun _ => False) w) _).trans hO); clear hO) | go_in)
 go_ret2;exact ⟨by go_num, O1.out⟩
theorem ZqV {w : World} {kind seq slot off : Nat} {key val : ByteArray} (hk2 : key.size ≤ 32) (hv : val.size ≤ 512) (hs : slot ≤ 15) (ho : off ≤ 8192)
 (HC : ∀ w : World, Calls Tryz.prog 115 #[.agg #[.int .i64 ((kind : Nat) : Int), .int .i64 ((seq : Nat) : Int), .string key, .string val]] w fun e w' => e = .returned (.int .i64 0) ∧ Old w w') :
 Calls Tryz.prog 67 #[.agg #[.int .i64 ((kind : Nat) : Int), .int .i64 ((seq : Nat) : Int), .string key, .string val], .int .i64 ((slot : Nat) : Int), .int .i64 ((off : Nat) : Int)] w fun e w' => e = .returned (.tuple #[.agg #[.int .i64 ((seq : Nat) : Int), .string key, .bool (((kind : Nat) : Int) == 2), .int .i64 ((slot : Nat) : Int), .int .i64 ((off : Nat) : Int), .int .i64 ((16 + key.size + val.size : Nat) : Int)], .int .i64 0]) ∧ Old w w' := by
 have h1 : ¬ ((slot : Int) < 0) := by omega
 have h2 : ¬ (32 ≤ (slot : Int)) := by omega
 have h3 : ¬ ((off : Int) < 0) := by omega
 have h4 : ¬ (8192 < (off : Int)) := by omega
 have H := Lib.hid (fun w : World => ZrI (w := w) hk2 hv HC)
 clear HC
 go_enter Tryz.func67, Tryz.ntmps67
 go_wp2_with (first | (go_at_call 121; refine (H.out _).mono ?_; rintro e w1 ⟨rfl, hO⟩; have hR : Has w1 (w.heap.size + 1) 111 #[.int .i64 0, .string ⟨#[]⟩, .bool false, .int .i64 0, .int .i64 0, .int .i64 0] := Old.has hO (by have h := Has.new (w.alloc (.cells #[.int .i64 ((kind : Nat) : Int), .int .i64 ((seq : Nat) : Int), .string key, .string val] 125)) 111 #[.int .i64 0, .string ⟨#[]⟩, .bool false, .int .i64 0, .int .i64 0, .int .i64 0]; simpa using h); have c0 : w1.cell? ⟨w.heap.size, 0, none⟩ = some (.int .i64 ((kind : Nat) : Int)) := Old.cellOf' hO (by simp); have c1 : w1.cell? ⟨w.heap.size, 1, none⟩ = some (.int .i64 ((seq : Nat) : Int)) := Old.cellOf' hO (by simp); have c2 : w1.cell? ⟨w.heap.size, 2, none⟩ = some (.string key) := Old.cellOf' hO (by simp); have d0 : w1.cell? ⟨w.heap.size + 1, 0, none⟩ = some (.int .i64 0) := hR.cell 0; have f0 : w1.frozen? ⟨w.heap.size + 1, 0, none⟩ = false := hR.frozen 0; have d1 : w1.cell? ⟨w.heap.size + 1, 1, none⟩ = some (.string ⟨#[]⟩) := hR.cell 1; have f1 : w1.frozen? ⟨w.heap.size + 1, 1, none⟩ = false := hR.frozen 1; have d2 : w1.cell? ⟨w.heap.size + 1, 2, none⟩ = some (.bool false) := hR.cell 2; have f2 : w1.frozen? ⟨w.heap.size + 1, 2, none⟩ = false := hR.frozen 2; have d3 : w1.cell? ⟨w.heap.size + 1, 3, none⟩ = some (.int .i64 0) := hR.cell 3; have f3 : w1.frozen? ⟨w.heap.size + 1, 3, none⟩ = false := hR.frozen 3; have d4 : w1.cell? ⟨w.heap.size + 1, 4, none⟩ = some (.int .i64 0) := hR.cell 4; have f4 : w1.frozen? ⟨w.heap.size + 1, 4, none⟩ = false := hR.frozen 4; have d5 : w1.cell? ⟨w.heap.size + 1, 5, none⟩ = some (.int .i64 0) := hR.cell 5; have f5 : w1.frozen? ⟨w.heap.size + 1, 5, none⟩ = false := hR.frozen 5; have O1 := Lib.hid (((Upd.alloc (Upd.refl (fun _ => False) w) _).alloc _).trans hO); have HR := Lib.hid hR; clear hO hR))
 have HE := (((((HR.out.set 0 (.int .i64 ((seq : Nat) : Int))).set 1 (.string key)).set 2 (.bool (((kind : Nat) : Int) == 2))).set 3 (.int .i64 ((slot : Nat) : Int))).set 4 (.int .i64 ((off : Nat) : Int))).set 5 (.int .i64 (16 + (key.size : Int) + (val.size : Int)));refine bodyPost_ret (results_cell_tmp rfl _ _ ⟨w.heap.size + 1, 0, none⟩ [.int .i64 ((seq : Nat) : Int), .string key, .bool (((kind : Nat) : Int) == 2), .int .i64 ((slot : Nat) : Int), .int .i64 ((off : Nat) : Int), .int .i64 (16 + (key.size : Int) + (val.size : Int))] _ rfl ?_ Tryz.underlying111 rfl (by kernel_rfl)) rfl ?_
 ·intro j v hj;have h := HE.cell j;rw [Addr.add_lit];simp only [Nat.zero_add];refine h.trans ?_;simpa using hj
 ·have hb : w.heap.size ≤ w.heap.size + 1 := by omega
  refine ⟨?_, (((((O1.out.setCell _ _ (.inr hb)).setCell _ _ (.inr hb)).setCell _ _ (.inr hb)).setCell _ _ (.inr hb)).setCell _ _ (.inr hb)).setCell _ _ (.inr hb)⟩;show Ending.returned (.tuple #[.agg #[.int .i64 ((seq : Nat) : Int), .string key, .bool (((kind : Nat) : Int) == 2), .int .i64 ((slot : Nat) : Int), .int .i64 ((off : Nat) : Int), .int .i64 (16 + (key.size : Int) + (val.size : Int))], .int .i64 0]) = _;have e : ((16 + key.size + val.size : Nat) : Int) = 16 + (key.size : Int) + (val.size : Int) := by omega
  rw [e]
theorem ZqW {w : World} {count last : Nat} (hc : count ≤ 65535) (hl : last ≤ 1099511627776) (hz : count = 0 ↔ last = 0) :
 Calls Tryz.prog 168 #[.agg #[.int .i64 ((count : Nat) : Int), .int .i64 ((last : Nat) : Int)]] w fun e w' => e = .returned (.int .i64 0) ∧ Old w w' := by
 have h1 : ¬ ((count : Int) < 0) := by omega
 have h2 : ¬ (65535 < (count : Int)) := by omega
 have h3 : ¬ ((last : Int) < 0) := by omega
 have h4 : ¬ (1099511627776 < (last : Int)) := by omega
 by_cases h0 : count = 0
 ·have h0' := hz.1 h0;subst h0; subst h0';clear hz hc hl
  go_enter Tryz.func168, Tryz.ntmps168
  go_wp2;go_ret;exact ⟨rfl, (Upd.refl _ w).alloc _⟩
 ·have h5 : ((count : Int) == 0) = false := by rw [beq_eq_false_iff_ne]; omega
  have h6 : ((last : Int) == 0) = false := by rw [beq_eq_false_iff_ne]; omega
  clear hz hc hl h0
  go_enter Tryz.func168, Tryz.ntmps168
  go_wp2;go_ret;exact ⟨rfl, (Upd.refl _ w).alloc _⟩
theorem ZpG {w : World} {count last : Nat} (hc : count ≤ 65535) (hl : last ≤ 1099511627776) (hz : count = 0 ↔ last = 0) :
 Calls Tryz.prog 113 #[.agg #[.int .i64 ((count : Nat) : Int), .int .i64 ((last : Nat) : Int)]] w fun e w' => ∃ v bs, e = .returned (.tuple #[v, .int .i64 0]) ∧ BytesAt w' v bs ∧ bs.length = 16 ∧ Old w w' ∧ Zmw w v := by
 have HE := Lib.hid (fun (s : Nat) (hs : s < 4294967296) (w : World) => ZiI (w := w) (sum := s) (kind := 3) (key := 0) (val := count) (seq := last) hs (by omega) (by omega) (by omega) (by omega) (fun w => ZiH (by omega) (by omega) (by omega) (by omega) (by omega) (by omega)))
 have HF := Lib.hid (fun w : World => ZqW (w := w) hc hl hz)
 clear hc hl hz
 go_enter Tryz.func113, Tryz.ntmps113
 go_wp2_with (first | (go_at_call 168; refine (HF.out _).mono ?_; rintro e w1 ⟨rfl, hO⟩; have c0 : w1.cell? ⟨w.heap.size, 0, none⟩ = some (.int .i64 ((count : Nat) : Int)) := Old.cellOf' hO (by simp); have c1 : w1.cell? ⟨w.heap.size, 1, none⟩ = some (.int .i64 ((last : Nat) : Int)) := Old.cellOf' hO (by simp); have hlw0 := Lib.hid (show w.heap.size + 1 ≤ w1.heap.size by simpa using hO.size); have O1 := Lib.hid ((Upd.alloc (Upd.refl (fun _ => False) w) _).trans hO); clear hO) | (go_at_call 116; refine (HE.out 0 (by omega) _).mono ?_; rintro e w2 ⟨v2, rfl, hown, hO, hfr⟩; obtain ⟨g, cap, rfl⟩ := ZaU hown (by omega); have HH := Lib.hid (show Has w2 w1.heap.size 189 #[.int .u32 0, .int .i64 3, .int .i64 0, .int .i64 ((count : Nat) : Int), .int .i64 ((last : Nat) : Int)] from Old.has hO (Has.new _ _ _)); have O2 := Lib.hid ((O1.out.alloc _).trans hO); have HX := Lib.hid hown; have hcap := (ZgA hown).1; clear hown hO hfr) | (go_at_call 117; refine (Zmu (X := Zea 0 3 0 count last 5) HX.out (by omega) (by omega)).mono ?_; rintro e w5 ⟨s, hs, rfl, hO5⟩; have H5 := hO5.has HH.out; have d0 : w5.cell? ⟨w1.heap.size, 0, none⟩ = some (.int .u32 0) := H5.cell 0; have d1 : w5.cell? ⟨w1.heap.size, 1, none⟩ = some (.int .i64 3) := H5.cell 1; have d2 : w5.cell? ⟨w1.heap.size, 2, none⟩ = some (.int .i64 0) := H5.cell 2; have d3 : w5.cell? ⟨w1.heap.size, 3, none⟩ = some (.int .i64 ((count : Nat) : Int)) := H5.cell 3; have d4 : w5.cell? ⟨w1.heap.size, 4, none⟩ = some (.int .i64 ((last : Nat) : Int)) := H5.cell 4; have fz : w5.frozen? ⟨w1.heap.size, 0, none⟩ = false := H5.frozen 0; have O5 := Lib.hid (O2.out.trans hO5); have HE2 := Lib.hid (HE.out s hs); clear hO5 H5 HE) | (go_at_call 116; refine (HE2.out _).mono ?_; rintro e w6 ⟨v6, rfl, hown6, hO6, hfr6⟩))
 go_ret2;refine ⟨_, _, rfl, Za6 hown6, by simp [Zea, ZaG], (O5.out.setCell _ _ (.inr (by have := hlw0.out; simp; omega))).trans hO6, fun ad n c h => ?_⟩
 have h' : v6 = .slice (some ad) n c := h;have h0 := hfr6 ad.block (by rw [h']; rfl)
 have h1 := O5.out.size;simp at h0;omega
end Go.M
