/- Walks 17. -/
import Derived.Test.YtjadmbkmlehfdaaGreatDoorProg
import Derived.Test.YtjadmbkmlehfdaaGreatDoorK16
import Derived.Test.YtjadmbkmlehfdaaGreatDoorK14
import Derived.Laws.BytesString
set_option linter.unusedVariables false
set_option linter.unusedSimpArgs false
set_option maxRecDepth 100000
namespace Go.M
open Go.Proofs Go.RowKit
def mkeyS (q : Nat) : ByteArray := match q with | 0 => ⟨#[97]⟩ | 1 => ⟨#[98]⟩ | 2 => ⟨#[99]⟩ | 3 => ⟨#[107, 49]⟩ | 4 => ⟨#[107, 50]⟩ | _ => ⟨#[45]⟩
def RecPost (w : World) (seq q val : Nat) (e : Ending) (w' : World) : Prop := ∃ (kd : Nat) (v : ByteArray), e = .returned (.agg #[.int .i64 ((kd : Nat) : Int), .int .i64 ((seq : Nat) : Int), .string (mkeyS q), .string v]) ∧ v.size ≤ val ∧ ((kd = 1) ∨ (kd = 2 ∧ v = ⟨#[]⟩)) ∧ Old w w'
theorem has_new2 (w : World) (a b : Obj) (t : TypeId) (c : Array Value) : Has (((w.alloc a).alloc b).alloc (.cells c t)) (w.heap.size + 1 + 1) t c := by
 have := Has.new ((w.alloc a).alloc b) t c
 simpa using this
theorem has_new4 (w : World) (a b d e : Obj) (t : TypeId) (c : Array Value) : Has (((((w.alloc a).alloc b).alloc d).alloc e).alloc (.cells c t)) (w.heap.size + 1 + 1 + 1 + 1) t c := by
 have := Has.new ((((w.alloc a).alloc b).alloc d).alloc e) t c
 simpa using this
theorem conv_one (W : World) (b : Int) (t : TypeId) (g : Nat) (hg : g = W.heap.size) : (convert 77 9 (.slice (some ⟨g, 0, none⟩) 1 1)).run Tryz.prog ((W.alloc (.cells #[.int .u8 b] t)).drew) = .ok (.string ⟨#[UInt8.ofNat b.toNat]⟩) ((W.alloc (.cells #[.int .u8 b] t)).drew) := by
 subst hg
 rw [run_convert_bytes_string _ _ _ 5 _ _ _ Tryz.underlying77 Tryz.underlying5 Tryz.underlying9, run_bytesToString _ _ _ _ [b]]
 ·rfl
 ·exact run_loadCells_list (P := Tryz.prog) _ ⟨W.heap.size, 0, none⟩ [.int .u8 b] (one_new W _ _)
def ro5 : Oper := { dst := some 27, op := .convert 77 9 (.tmp 26), type := 9, pos := "law.go:58", after := #[{ on := 4, ground := .data }], guard := none }
theorem ro5_eq : ro5 = { dst := some 27, op := .convert 77 9 (.tmp 26), type := 9, pos := "law.go:58", after := #[{ on := 4, ground := .data }], guard := none } := rfl
theorem old_below {w w' : World} (h : Below w.heap.size w w') : Old w w' := ⟨h.size, fun b hb _ => h.block b hb, h.tape, h.os, h.output⟩
theorem rec_after {W w1 : World} {o : Obj} {n key size val seq : Nat} {k : ByteArray} (U1 : Old ((W.alloc o).drew) w1) (c1 : W.cell? ⟨n, 1, none⟩ = some (.int .u8 ((key : Nat) : Int))) (c2 : W.cell? ⟨n, 2, none⟩ = some (.int .u8 ((size : Nat) : Int))) (c3 : W.cell? ⟨n + 1, 5, none⟩ = some (.int .i64 ((val : Nat) : Int)))
 (Hr : Has W (n + 1 + 1 + 1 + 1) 170 #[.int .i64 1, .int .i64 ((seq : Nat) : Int), .string k, .string ⟨#[]⟩]) (HR : Has W (n + 1 + 1) 170 #[.int .i64 0, .int .i64 0, .string ⟨#[]⟩, .string ⟨#[]⟩]) :
 w1.cell? ⟨n, 1, none⟩ = some (.int .u8 ((key : Nat) : Int)) ∧ w1.cell? ⟨n, 2, none⟩ = some (.int .u8 ((size : Nat) : Int)) ∧ w1.cell? ⟨n + 1, 5, none⟩ = some (.int .i64 ((val : Nat) : Int)) ∧
 w1.cell? ⟨n + 1 + 1 + 1 + 1, 0, none⟩ = some (.int .i64 1) ∧ w1.cell? ⟨n + 1 + 1 + 1 + 1, 1, none⟩ = some (.int .i64 ((seq : Nat) : Int)) ∧ w1.cell? ⟨n + 1 + 1 + 1 + 1, 2, none⟩ = some (.string k) ∧ w1.cell? ⟨n + 1 + 1 + 1 + 1, 3, none⟩ = some (.string ⟨#[]⟩) ∧ w1.frozen? ⟨n + 1 + 1 + 1 + 1, 3, none⟩ = false ∧
 Hid (Has w1 (n + 1 + 1) 170 #[.int .i64 0, .int .i64 0, .string ⟨#[]⟩, .string ⟨#[]⟩]) ∧ Hid (Has w1 (n + 1 + 1 + 1 + 1) 170 #[.int .i64 1, .int .i64 ((seq : Nat) : Int), .string k, .string ⟨#[]⟩]) ∧ Hid (Old W w1) := by
 have U : Old W w1 := (((Upd.refl _ W).alloc o).drew).trans U1
 have H1 := Old.has U Hr
 exact ⟨Old.cellOf' U c1, Old.cellOf' U c2, Old.cellOf' U c3, H1.cell 0, H1.cell 1, H1.cell 2, H1.cell 3, H1.frozen 3, Old.has U HR, H1, U⟩
set_option maxHeartbeats 2000000 in
theorem mrec_del {w : World} {kind key size val : Nat} {slots sz reserve work kk policy : Int} {seq : Nat} (hk : kind < 256) (hy : key < 256) (hs : size < 256) (hv : val ≤ 512) (h5 : ((kind : Int) % 8 == 5) = true) (hq : (key % 6 = 0 ∧ (key : Int) % 6 = 0) ∨ (key % 6 = 1 ∧ (key : Int) % 6 = 1) ∨ (key % 6 = 2 ∧ (key : Int) % 6 = 2) ∨ (key % 6 = 3 ∧ (key : Int) % 6 = 3) ∨ (key % 6 = 4 ∧ (key : Int) % 6 = 4) ∨ (key % 6 = 5 ∧ (key : Int) % 6 = 5)) :
 Calls Tryz.prog 102 #[.agg #[.int .u8 ((kind : Nat) : Int), .int .u8 ((key : Nat) : Int), .int .u8 ((size : Nat) : Int)], .agg #[.int .i64 slots, .int .i64 sz, .int .i64 reserve, .int .i64 work, .int .i64 kk, .int .i64 ((val : Nat) : Int), .int .i64 policy], .int .i64 ((seq : Nat) : Int)] w (RecPost w seq (key % 6) val) := by
 go_enter Tryz.func102, Tryz.ntmps102
 rcases hq with ⟨hq, hqi⟩ | ⟨hq, hqi⟩ | ⟨hq, hqi⟩ | ⟨hq, hqi⟩ | ⟨hq, hqi⟩ | ⟨hq, hqi⟩
 all_goals
  go_wp2
  refine bodyPost_ret (results_cell_row rfl _ _ (w.heap.size + 1 + 1) 170 #[.int .i64 2, .int .i64 ((seq : Nat) : Int), .string (mkeyS (key % 6)), .string ⟨#[]⟩] (0, 0) _ rfl ?_ Tryz.underlying170 rfl (by kernel_rfl)) rfl ?_
  ·rw [hq]; exact ((has_new2 w _ _ _ _).alloc _).alloc _
  ·exact ⟨2, ⟨#[]⟩, rfl, Nat.zero_le _, .inr ⟨rfl, rfl⟩, (((((Upd.refl _ w).alloc _).alloc _).alloc _).alloc _).alloc _⟩
set_option maxHeartbeats 4000000 in
theorem mrec_put {w : World} {kind key size val : Nat} {slots sz reserve work kk policy : Int} {seq : Nat} (hk : kind < 256) (hy : key < 256) (hs : size < 256) (hv : val ≤ 512) (h5 : ((kind : Int) % 8 == 5) = false) (hq : (key % 6 = 0 ∧ (key : Int) % 6 = 0) ∨ (key % 6 = 1 ∧ (key : Int) % 6 = 1) ∨ (key % 6 = 2 ∧ (key : Int) % 6 = 2) ∨ (key % 6 = 3 ∧ (key : Int) % 6 = 3) ∨ (key % 6 = 4 ∧ (key : Int) % 6 = 4) ∨ (key % 6 = 5 ∧ (key : Int) % 6 = 5)) :
 Calls Tryz.prog 102 #[.agg #[.int .u8 ((kind : Nat) : Int), .int .u8 ((key : Nat) : Int), .int .u8 ((size : Nat) : Int)], .agg #[.int .i64 slots, .int .i64 sz, .int .i64 reserve, .int .i64 work, .int .i64 kk, .int .i64 ((val : Nat) : Int), .int .i64 policy], .int .i64 ((seq : Nat) : Int)] w (RecPost w seq (key % 6) val) := by
 have hv0 : ¬ ((val : Int) + 1 = 0) := by omega
 go_enter Tryz.func102, Tryz.ntmps102
 rcases hq with ⟨hq, hqi⟩ | ⟨hq, hqi⟩ | ⟨hq, hqi⟩ | ⟨hq, hqi⟩ | ⟨hq, hqi⟩ | ⟨hq, hqi⟩
 all_goals
  go_wp2
  generalize hW : World.alloc (World.alloc (World.alloc (World.alloc (World.alloc w _) _) _) _) _ = W
  have c1 : W.cell? ⟨w.heap.size, 1, none⟩ = some (.int .u8 ((key : Nat) : Int)) := by subst hW; go_simp
  have c2 : W.cell? ⟨w.heap.size, 2, none⟩ = some (.int .u8 ((size : Nat) : Int)) := by subst hW; go_simp
  have c3 : W.cell? ⟨w.heap.size + 1, 5, none⟩ = some (.int .i64 ((val : Nat) : Int)) := by subst hW; go_simp
  have hO : Old w W := by subst hW; exact (((((Upd.refl _ w).alloc _).alloc _).alloc _).alloc _).alloc _
  have hz : W.heap.size = w.heap.size + 5 := by subst hW; simp
  have hR : Has W (w.heap.size + 1 + 1) 170 #[.int .i64 0, .int .i64 0, .string ⟨#[]⟩, .string ⟨#[]⟩] := by subst hW; exact ((has_new2 w _ _ _ _).alloc _).alloc _
  have hr : Has W (w.heap.size + 1 + 1 + 1 + 1) 170 #[.int .i64 1, .int .i64 ((seq : Nat) : Int), .string (mkeyS (key % 6)), .string ⟨#[]⟩] := by rw [hq]; subst hW; exact has_new4 w _ _ _ _ _ _
  clear hW
  have HO := Lib.hid hO
  have HR := Lib.hid hR
  have Hr := Lib.hid hr
  clear hO hR hr hq hqi
  have g1 : ((key : Int)).tmod 26 = ((key % 26 : Nat) : Int) := by rw [Int.tmod_eq_emod_of_nonneg (by omega)]; omega
  have hb26 : key % 26 < 26 := Nat.mod_lt _ (by decide)
  generalize key % 26 = b at g1 hb26
  have g2 : IntKind.u8.wrap (65 + (b : Int)) = ((65 + b : Nat) : Int) := by simp [IntKind.wrap, IntKind.bits, IntKind.signed]; omega
  have g3 : IntKind.i64.wrap (size : Int) = ((size : Nat) : Int) := IntWalk.i64_in _ (by omega)
  have g4 : IntKind.i64.wrap ((val : Int) + 1) = ((val + 1 : Nat) : Int) := IntWalk.i64_in _ (by omega)
  have g5 : ((size : Int)).tmod (((val + 1 : Nat)) : Int) = ((size % (val + 1) : Nat) : Int) := by rw [Int.tmod_eq_emod_of_nonneg (by omega)]; simp
  have g6 : ¬ ((((val + 1 : Nat)) : Int) = 0) := by omega
  have g7 : IntKind.i64.wrap (((size % (val + 1) : Nat)) : Int) = ((size % (val + 1) : Nat) : Int) := IntWalk.i64_in _ (by have := Nat.mod_lt size (show 0 < val + 1 by omega); omega)
  have gm : size % (val + 1) ≤ val := by have := Nat.mod_lt size (show 0 < val + 1 by omega); omega
  have g9 : ∀ x : UInt8, (ByteArray.mk #[x]).size * (size % (val + 1)) ≤ 140737488355328 := fun x => by show 1 * (size % (val + 1)) ≤ _; omega
  have g8 := conv_one W (65 + (b : Int)) 5 (w.heap.size + 5) hz.symm
  have hro := ro5_eq
  rw [← ro5_eq]
  go_region_held3 (fun x => x.cell? ⟨w.heap.size, 1, none⟩ = some (.int .u8 ((key : Nat) : Int)) ∧ x.cell? ⟨w.heap.size, 2, none⟩ = some (.int .u8 ((size : Nat) : Int)) ∧ x.cell? ⟨w.heap.size + 1, 5, none⟩ = some (.int .i64 ((val : Nat) : Int)))
   (first | go_keep | (exact ⟨E1, E2, E3⟩) | (exact ⟨Upd.cellOf ((Upd.refl (fun b => b = w.heap.size + 1 + 1 + 1 + 1) w1).setCell ⟨w.heap.size + 1 + 1 + 1 + 1, 3, none⟩ _ (.inl rfl)) E1 (fun e => by omega), Upd.cellOf ((Upd.refl (fun b => b = w.heap.size + 1 + 1 + 1 + 1) w1).setCell ⟨w.heap.size + 1 + 1 + 1 + 1, 3, none⟩ _ (.inl rfl)) E2 (fun e => by omega), Upd.cellOf ((Upd.refl (fun b => b = w.heap.size + 1 + 1 + 1 + 1) w1).setCell ⟨w.heap.size + 1 + 1 + 1 + 1, 3, none⟩ _ (.inl rfl)) E3 (fun e => by omega)⟩))
   (first | (go_at_call 177; refine (Tryz.strings_Repeat _ (size % (val + 1)) _ (Nat.le_trans gm (by omega)) (g9 _)).mono ?_; rintro e w1 ⟨rfl, hB⟩; obtain ⟨E1, E2, E3, d0, d1, d2, d3, fz, R1, r1, O1⟩ := rec_after (old_below hB) c1 c2 c3 Hr.out HR.out; clear hB))
  rename_i hHeld
  clear hHeld E1 E2 E3 g1 g2 g3 g4 g5 g6 g7 g8
  have hlen : (ByteArray.mk (Lib.repeatL [UInt8.ofNat (65 + (b : Int)).toNat] (size % (val + 1))).toArray).size ≤ val := by
   show (Lib.repeatL [UInt8.ofNat (65 + (b : Int)).toNat] (size % (val + 1))).toArray.size ≤ val
   simp [Lib.repeatL_length]
   exact gm
  generalize ByteArray.mk (Lib.repeatL [UInt8.ofNat (65 + (b : Int)).toNat] (size % (val + 1))).toArray = str at *
  have O2 := Lib.hid ((HO.out.trans O1.out).setCell ⟨w.heap.size + 1 + 1 + 1 + 1, 3, none⟩ (.string str) (.inr (by simp; omega)))
  have r2 := r1.out.set 3 (.string str)
  have R2 := R1.out.setOther (a := ⟨w.heap.size + 1 + 1 + 1 + 1, 3, none⟩) (by show w.heap.size + 1 + 1 + 1 + 1 ≠ _; omega) (.string str)
  generalize w1.setCell ⟨w.heap.size + 1 + 1 + 1 + 1, 3, none⟩ (.string str) = w2 at *
  clear d0 d1 d2 d3 fz
  have d0 : w2.cell? ⟨w.heap.size + 1 + 1 + 1 + 1, 0, none⟩ = some (.int .i64 1) := r2.cell 0
  have d1 : w2.cell? ⟨w.heap.size + 1 + 1 + 1 + 1, 1, none⟩ = some (.int .i64 ((seq : Nat) : Int)) := r2.cell 1
  have d2 : w2.cell? ⟨w.heap.size + 1 + 1 + 1 + 1, 2, none⟩ = some (.string (mkeyS (key % 6))) := r2.cell 2
  have d3 : w2.cell? ⟨w.heap.size + 1 + 1 + 1 + 1, 3, none⟩ = some (.string str) := r2.cell 3
  clear r2 r1 R1
  go_wp2_with (first | (refine wpList_store_row rfl 170 (.tmp 6) (.tmp 37) rfl (w.heap.size + 1 + 1) #[.int .i64 1, .int .i64 ((seq : Nat) : Int), .string (mkeyS (key % 6)), .string str] rfl rfl 170 _ R2 (by kernel_rfl) rfl (by simp [Value.oneCell']) ?_))
  refine bodyPost_ret (results_cell_row rfl _ _ (w.heap.size + 1 + 1) 170 #[.int .i64 1, .int .i64 ((seq : Nat) : Int), .string (mkeyS (key % 6)), .string str] (0, 0) _ rfl (setRow_heap _ _ _ _ _ _ R2) Tryz.underlying170 rfl (by kernel_rfl)) rfl ?_
  refine ⟨1, str, rfl, hlen, .inl rfl, ⟨by simpa using O2.out.size, fun b hb _ => by rw [setRow_other _ _ _ _ (by omega)]; exact O2.out.keep b hb (fun x => x), O2.out.tape, O2.out.os, O2.out.out⟩⟩
theorem ok1 (a : UInt8) (h : isLet a = true) : KeyOk ⟨#[a]⟩ := ⟨Nat.zero_lt_one, (by decide : (1 : Nat) ≤ 32), fun i hi => by
 have h2 : i < 1 := hi
 have : i = 0 := by omega
 subst this
 exact h⟩
theorem ok2 (a b : UInt8) (ha : isLet a = true) (hb : isLet b = true) : KeyOk ⟨#[a, b]⟩ := ⟨(by decide : (0 : Nat) < 2), (by decide : (2 : Nat) ≤ 32), fun i hi => by
 have h2 : i < 2 := hi
 have : i = 0 ∨ i = 1 := by omega
 rcases this with rfl | rfl
 ·exact ha
 ·exact hb⟩
theorem mkeyS_ok (q : Nat) : KeyOk (mkeyS q) := by
 unfold mkeyS
 split
 ·exact ok1 _ (by decide +kernel)
 ·exact ok1 _ (by decide +kernel)
 ·exact ok1 _ (by decide +kernel)
 ·exact ok2 _ _ (by decide +kernel) (by decide +kernel)
 ·exact ok2 _ _ (by decide +kernel) (by decide +kernel)
 ·exact ok1 _ (by decide +kernel)
theorem mrec {w : World} {kind key size val : Nat} {slots sz reserve work kk policy : Int} {seq : Nat} (hk : kind < 256) (hy : key < 256) (hs : size < 256) (hv : val ≤ 512) :
 Calls Tryz.prog 102 #[.agg #[.int .u8 ((kind : Nat) : Int), .int .u8 ((key : Nat) : Int), .int .u8 ((size : Nat) : Int)], .agg #[.int .i64 slots, .int .i64 sz, .int .i64 reserve, .int .i64 work, .int .i64 kk, .int .i64 ((val : Nat) : Int), .int .i64 policy], .int .i64 ((seq : Nat) : Int)] w (RecPost w seq (key % 6) val) := by
 have hq : (key % 6 = 0 ∧ (key : Int) % 6 = 0) ∨ (key % 6 = 1 ∧ (key : Int) % 6 = 1) ∨ (key % 6 = 2 ∧ (key : Int) % 6 = 2) ∨ (key % 6 = 3 ∧ (key : Int) % 6 = 3) ∨ (key % 6 = 4 ∧ (key : Int) % 6 = 4) ∨ (key % 6 = 5 ∧ (key : Int) % 6 = 5) := by omega
 cases h5 : ((kind : Int) % 8 == 5) with
 | true => exact mrec_del hk hy hs hv h5 hq
 | false => exact mrec_put hk hy hs hv h5 hq
end Go.M
