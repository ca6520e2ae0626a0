/- Walks 18. -/
import Derived.Test.YtfkpfgnigiijnaaGreatDoorProg
import Derived.Test.YtfkpfgnigiijnaaGreatDoorK1
import Derived.Test.YtfkpfgnigiijnaaGreatDoorK3
import Derived.Test.YtfkpfgnigiijnaaGreatDoorK17
set_option linter.unusedVariables false
set_option linter.unusedSimpArgs false
set_option maxRecDepth 100000
namespace Go.M
open Go.Proofs Go.RowKit
def DSl (w : World) (v : Value) (n : Nat) : Prop := (v = .pointer none ∧ n = 0) ∨ ∃ D, v = .pointer (some ⟨D, 0, none⟩) ∧ w.cell? ⟨D, 2, none⟩ = some (.int .i64 ((n : Nat) : Int)) ∧ w.cell? ⟨D, 4, none⟩ = some (.bool false)
def TSl (w : World) (v : Value) (n : Nat) : Prop := (v = .pointer none ∧ n = 0) ∨ ∃ B r, v = .pointer (some ⟨B, 0, none⟩) ∧ w.cell? ⟨B, 0, none⟩ = some (.int .i64 ((n : Nat) : Int)) ∧ w.cell? ⟨B, 1, none⟩ = some (.int .i64 r)
def XSl (w : World) (v : Value) (n : Nat) : Prop := (v = .pointer none ∧ n = 0) ∨ ∃ X a c, v = .pointer (some ⟨X, 0, none⟩) ∧ w.cell? ⟨X, 1, none⟩ = some (.slice a n c)
theorem DSl.old {w w' : World} {v : Value} {n : Nat} (h : DSl w v n) (U : Old w w') : DSl w' v n := by
 rcases h with h | ⟨D, h1, h2, h3⟩
 ·exact .inl h
 ·exact .inr ⟨D, h1, Old.cellOf' U h2, Old.cellOf' U h3⟩
theorem TSl.old {w w' : World} {v : Value} {n : Nat} (h : TSl w v n) (U : Old w w') : TSl w' v n := by
 rcases h with h | ⟨D, r, h1, h2, h3⟩
 ·exact .inl h
 ·exact .inr ⟨D, r, h1, Old.cellOf' U h2, Old.cellOf' U h3⟩
theorem XSl.old {w w' : World} {v : Value} {n : Nat} (h : XSl w v n) (U : Old w w') : XSl w' v n := by
 rcases h with h | ⟨D, a, c, h1, h2⟩
 ·exact .inl h
 ·exact .inr ⟨D, a, c, h1, Old.cellOf' U h2⟩
theorem t_sizes {w : World} {v : Value} {n : Nat} (h : TSl w v n) (hn : n ≤ 100) :
 Calls Tryz.prog 77 #[v] w fun e w' => ∃ r, e = .returned (.tuple #[.int .i64 ((n : Nat) : Int), .int .i64 r]) ∧ Old w w' := by
 rcases h with ⟨rfl, rfl⟩ | ⟨D, r, rfl, h2, h3⟩
 ·go_enter Tryz.func77, Tryz.ntmps77
  go_wp2
  go_ret2
  exact ⟨0, rfl, Upd.refl _ _⟩
 ·rcases Nat.eq_zero_or_pos n with rfl | hp
  ·go_enter Tryz.func77, Tryz.ntmps77
   go_wp2
   go_ret2
   exact ⟨0, rfl, Upd.refl _ _⟩
  ·have g1 : (0 : Int) < (n : Int) := by omega
   go_enter Tryz.func77, Tryz.ntmps77
   go_wp2
   go_quiet (fail)
   go_wp2
   go_ret2
   exact ⟨r, rfl, (Upd.refl _ _).drewN _⟩
theorem x_slots {w : World} {v : Value} {n : Nat} (h : XSl w v n) (hn : n ≤ 100) :
 Calls Tryz.prog 94 #[v] w fun e w' => e = .returned (.int .i64 ((n : Nat) : Int)) ∧ w = w' := by
 rcases h with ⟨rfl, rfl⟩ | ⟨D, a, c, rfl, h2⟩
 ·go_enter Tryz.func94, Tryz.ntmps94
  go_wp2
  go_ret
  exact ⟨rfl, rfl⟩
 ·rcases Nat.eq_zero_or_pos n with rfl | hp
  ·go_enter Tryz.func94, Tryz.ntmps94
   go_wp2
   go_ret
   exact ⟨rfl, rfl⟩
  ·have g1 : (0 : Int) < (n : Int) := by omega
   go_enter Tryz.func94, Tryz.ntmps94
   go_wp2
   go_ret
   exact ⟨rfl, rfl⟩
theorem safe_b1 (w : World) (a : Obj) (t : TypeId) (c : Array Value) : Has ((w.alloc a).alloc (.cells c t)) (w.heap.size + 1) t c := by
 have := Has.new (w.alloc a) t c
 rwa [World.size_alloc] at this
theorem safe_b2 (w : World) (a b : Obj) (t : TypeId) (c : Array Value) : Has (((w.alloc a).alloc b).alloc (.cells c t)) (w.heap.size + 1 + 1) t c := by
 have := Has.new ((w.alloc a).alloc b) t c
 rwa [World.size_alloc, World.size_alloc] at this
theorem safe_of {w : World} {d t x : Value} {sl z : Int} (hz : (z == 0) = false) (HS : Hid (∀ w' : World, Old w w' → Calls Tryz.prog 34 #[d, t, x, .int .i64 sl] w' fun e w'' => e = .returned (.tuple #[.int .i64 0, .int .i64 z]) ∧ Old w' w'')) :
 Calls Tryz.prog 10 #[d, t, x, .int .i64 sl] w fun e w' => e = .returned (.tuple #[.bool false, .int .i64 z]) ∧ Old w w' := by
 go_enter Tryz.func10, Tryz.ntmps10
 go_wp2_with (first | (go_at_call 34; refine (HS.out _ ?_).mono ?_; (exact ((((Upd.refl _ w).alloc _).alloc _).alloc _)); rintro e w1 ⟨rfl, hU⟩; have b8 := Old.has hU ((safe_b1 w _ 4 #[.bool false]).alloc _); have b9 := Old.has hU (safe_b2 w _ _ 32 #[.int .i64 0]); have c8 : w1.cell? ⟨w.heap.size + 1, 0, none⟩ = some (.bool false) := b8.cell 0; have c9 : w1.cell? ⟨w.heap.size + 1 + 1, 0, none⟩ = some (.int .i64 0) := b9.cell 0; have f8 := b8.frozen 0; have f9 := b9.frozen 0; clear b8 b9; have HU := Lib.hid hU; clear hU))
 have d8 : ((w1.setCell ⟨w.heap.size + 1, 0, none⟩ (.bool false)).setCell ⟨w.heap.size + 1 + 1, 0, none⟩ (.int .i64 z)).cell? ⟨w.heap.size + 1, 0, none⟩ = some (.bool false) := by
  rw [World.cell?_setCell_far _ _ _ _ (by simp)]
  exact World.cell?_setCell_same' _ _ _ (by rw [c8]; rfl)
 have d9 : ((w1.setCell ⟨w.heap.size + 1, 0, none⟩ (.bool false)).setCell ⟨w.heap.size + 1 + 1, 0, none⟩ (.int .i64 z)).cell? ⟨w.heap.size + 1 + 1, 0, none⟩ = some (.int .i64 z) :=
  World.cell?_setCell_same' _ _ _ (by rw [World.cell?_setCell_far _ _ _ _ (by simp), c9]; rfl)
 refine bodyPost_ret (v := .tuple #[.bool false, .int .i64 z]) ?_ rfl ⟨rfl, ((((Upd.refl (fun _ => False) w).alloc _).alloc _).alloc _ |>.trans HU.out).setCell _ _ (.inr (by simp)) |>.setCell _ _ (.inr (by simp; omega))⟩
 simp [results, Tryz.f10, go_sem, d8, d9]
theorem DSl.ptr {w : World} {v : Value} {n : Nat} (h : DSl w v n) : ∃ p, v = .pointer p := by rcases h with ⟨h, _⟩ | ⟨D, h, _⟩ <;> exact ⟨_, h⟩
theorem TSl.ptr {w : World} {v : Value} {n : Nat} (h : TSl w v n) : ∃ p, v = .pointer p := by rcases h with ⟨h, _⟩ | ⟨D, r, h, _⟩ <;> exact ⟨_, h⟩
theorem XSl.ptr {w : World} {v : Value} {n : Nat} (h : XSl w v n) : ∃ p, v = .pointer p := by rcases h with ⟨h, _⟩ | ⟨D, a, c, h, _⟩ <;> exact ⟨_, h⟩
theorem erase_of {w : World} {pd pt px : Option Addr} {sl z : Int} (hz : (z == 0) = false) (HS : Hid (∀ w' : World, Old w w' → Calls Tryz.prog 34 #[.pointer pd, .pointer pt, .pointer px, .int .i64 sl] w' fun e w'' => e = .returned (.tuple #[.int .i64 0, .int .i64 z]) ∧ Old w' w'')) :
 Calls Tryz.prog 12 #[.pointer pd, .pointer pt, .pointer px, .int .i64 sl] w fun e w' => e = .returned (.int .i64 z) ∧ Old w w' := by
 go_enter Tryz.func12, Tryz.ntmps12
 go_wp2_with (first | (go_at_call 34; refine (HS.out _ ?_).mono ?_; (exact ((((Upd.refl _ w).alloc _).alloc _).alloc _)); rintro e w1 ⟨rfl, hU⟩; have HU := Lib.hid hU; clear hU))
 go_ret
 exact ⟨rfl, (((Upd.refl _ w).alloc _).alloc _).alloc _ |>.trans HU.out⟩
theorem sync_of {w : World} {pd : Option Addr} {t : Value} {z : Int} (hz : (z == 0) = false) (HS : Hid (∀ w' : World, Old w w' → Calls Tryz.prog 37 #[.pointer pd, t] w' fun e w'' => e = .returned (.int .i64 z) ∧ Old w' w'')) :
 Calls Tryz.prog 11 #[.pointer pd, t] w fun e w' => e = .returned (.int .i64 z) ∧ Old w w' := by
 go_enter Tryz.func11, Tryz.ntmps11
 go_wp2_with (first | (go_at_call 37; refine (HS.out _ ?_).mono ?_; (exact (((Upd.refl _ w).alloc _).alloc _)); rintro e w1 ⟨rfl, hU⟩; have b9 := Old.has hU (safe_b1 w _ 32 #[.int .i64 0]); have c9 : w1.cell? ⟨w.heap.size + 1, 0, none⟩ = some (.int .i64 0) := b9.cell 0; have f9 := b9.frozen 0; clear b9; have HU := Lib.hid hU; clear hU))
 have d9 : (w1.setCell ⟨w.heap.size + 1, 0, none⟩ (.int .i64 z)).cell? ⟨w.heap.size + 1, 0, none⟩ = some (.int .i64 z) := World.cell?_setCell_same' _ _ _ (by rw [c9]; rfl)
 refine bodyPost_ret (v := .int .i64 z) ?_ rfl ⟨rfl, (((Upd.refl (fun _ => False) w).alloc _).alloc _ |>.trans HU.out).setCell _ _ (.inr (by simp))⟩
 simp [results, Tryz.f11, go_sem, d9]
structure Kpt (w w' : World) : Prop where
 heap : ∀ b, b < w.heap.size → w'.heap[b]? = w.heap[b]?
 os : w'.os = w.os
 out : w'.output = w.output
theorem Kpt.cell {w w' : World} (h : Kpt w w') {a : Addr} {v : Value} (hc : w.cell? a = some v) : w'.cell? a = some v := by
 have hl := World.block_lt_of_cell? w a hc
 unfold World.cell? at *
 rw [h.heap a.block hl]
 exact hc
theorem Upd.kpt {w w1 w2 : World} (h : Old w w1) (k : Kpt w1 w2) : Kpt w w2 :=
 ⟨fun b hb => (k.heap b (Nat.lt_of_lt_of_le hb h.size)).trans (h.keep b hb (fun x => x)), k.os.trans h.os, k.out.trans h.out⟩
theorem Kpt.kept {w w' : World} (h : Kpt w w') (may : MemPlace → Prop) : w.keptBut w' may := by
 refine ⟨h.os, h.out, fun i hi => ?_⟩
 rw [h.heap i hi]
 cases w.heap[i]? with
 | none => rfl
 | some o => cases o <;> simp
theorem Kpt.of {w w' : World} (h : ∀ B, B < w.heap.size → w'.heap[B]? = w.heap[B]?) (k : ∀ may, w.keptBut w' may) : Kpt w w' := ⟨h, (k fun _ => False).1, (k fun _ => False).2.1⟩
structure RnSt (w : World) (PP n : Nat) (d t x : Value) : Prop where
 n1 : 4 ≤ n
 n9 : n ≤ 9
 c0 : w.cell? ⟨PP, 0, none⟩ = some (.int .i64 ((n : Nat) : Int))
 c7 : w.cell? ⟨PP, 7, none⟩ = some d
 c8 : w.cell? ⟨PP, 8, none⟩ = some t
 c9 : w.cell? ⟨PP, 9, none⟩ = some x
 d : DSl w d n
 t : TSl w t n
 x : XSl w x n
theorem RnSt.old {w w' : World} {PP n : Nat} {d t x : Value} (h : RnSt w PP n d t x) (U : Old w w') : RnSt w' PP n d t x :=
 ⟨h.n1, h.n9, Old.cellOf' U h.c0, Old.cellOf' U h.c7, Old.cellOf' U h.c8, Old.cellOf' U h.c9, h.d.old U, h.t.old U, h.x.old U⟩
end Go.M
