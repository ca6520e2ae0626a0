/- Walks 18. -/
import Derived.Test.YtfkpfgnigiijnaaGreatDoorProg
import Derived.Test.YtfkpfgnigiijnaaGreatDoorK1
import Derived.Test.YtfkpfgnigiijnaaGreatDoorK3
import Derived.Test.YtfkpfgnigiijnaaGreatDoorK17
set_option linter.unusedVariables false
set_option linter.unusedSimpArgs false
set_option maxRecDepth 100000
namespace Go.M
open Go.Proofs Go.RowKit
def DSl (w : World) (v : Value) (n : Nat) : Prop := (v = .pointer none ∧ n = 0) ∨ ∃ D, v = .pointer (some ⟨D, 0, none⟩) ∧ w.cell? ⟨D, 2, none⟩ = some (.int .i64 ((n : Nat) : Int)) ∧ w.cell? ⟨D, 4, none⟩ = some (.bool false)
def TSl (w : World) (v : Value) (n : Nat) : Prop := (v = .pointer none ∧ n = 0) ∨ ∃ B r, v = .pointer (some ⟨B, 0, none⟩) ∧ w.cell? ⟨B, 0, none⟩ = some (.int .i64 ((n : Nat) : Int)) ∧ w.cell? ⟨B, 1, none⟩ = some (.int .i64 r)
def XSl (w : World) (v : Value) (n : Nat) : Prop := (v = .pointer none ∧ n = 0) ∨ ∃ X a c, v = .pointer (some ⟨X, 0, none⟩) ∧ w.cell? ⟨X, 1, none⟩ = some (.slice a n c)
theorem DSl.old {w w' : World} {v : Value} {n : Nat} (h : DSl w v n) (U : Old w w') : DSl w' v n := by
 rcases h with h | ⟨D, h1, h2, h3⟩
 ·exact .inl h
 ·exact .inr ⟨D, h1, Old.cellOf' U h2, Old.cellOf' U h3⟩
theorem TSl.old {w w' : World} {v : Value} {n : Nat} (h : TSl w v n) (U : Old w w') : TSl w' v n := by
 rcases h with h | ⟨D, r, h1, h2, h3⟩
 ·exact .inl h
 ·exact .inr ⟨D, r, h1, Old.cellOf' U h2, Old.cellOf' U h3⟩
theorem XSl.old {w w' : World} {v : Value} {n : Nat} (h : XSl w v n) (U : Old w w') : XSl w' v n := by
 rcases h with h | ⟨D, a, c, h1, h2⟩
 ·exact .inl h
 ·exact .inr ⟨D, a, c, h1, Old.cellOf' U h2⟩
theorem d_slots {w : World} {v : Value} {n : Nat} (h : DSl w v n) (hn : n ≤ 100) :
 Calls Tryz.prog 95 #[v] w fun e w' => e = .returned (.int .i64 ((n : Nat) : Int)) ∧ w = w' := by
 rcases h with ⟨rfl, rfl⟩ | ⟨D, rfl, h2, h3⟩
 ·go_enter Tryz.func95, Tryz.ntmps95
  go_wp2
  go_ret
  exact ⟨rfl, rfl⟩
 ·rcases Nat.eq_zero_or_pos n with rfl | hp
  ·go_enter Tryz.func95, Tryz.ntmps95
   go_wp2
   go_ret
   exact ⟨rfl, rfl⟩
  ·have g1 : (0 : Int) < (n : Int) := by omega
   go_enter Tryz.func95, Tryz.ntmps95
   go_wp2
   go_ret
   exact ⟨rfl, rfl⟩
theorem t_sizes {w : World} {v : Value} {n : Nat} (h : TSl w v n) (hn : n ≤ 100) :
 Calls Tryz.prog 77 #[v] w fun e w' => ∃ r, e = .returned (.tuple #[.int .i64 ((n : Nat) : Int), .int .i64 r]) ∧ Old w w' := by
 rcases h with ⟨rfl, rfl⟩ | ⟨D, r, rfl, h2, h3⟩
 ·go_enter Tryz.func77, Tryz.ntmps77
  go_wp2
  go_ret2
  exact ⟨0, rfl, Upd.refl _ _⟩
 ·rcases Nat.eq_zero_or_pos n with rfl | hp
  ·go_enter Tryz.func77, Tryz.ntmps77
   go_wp2
   go_ret2
   exact ⟨0, rfl, Upd.refl _ _⟩
  ·have g1 : (0 : Int) < (n : Int) := by omega
   go_enter Tryz.func77, Tryz.ntmps77
   go_wp2
   go_quiet (fail)
   go_wp2
   go_ret2
   exact ⟨r, rfl, (Upd.refl _ _).drewN _⟩
theorem x_slots {w : World} {v : Value} {n : Nat} (h : XSl w v n) (hn : n ≤ 100) :
 Calls Tryz.prog 94 #[v] w fun e w' => e = .returned (.int .i64 ((n : Nat) : Int)) ∧ w = w' := by
 rcases h with ⟨rfl, rfl⟩ | ⟨D, a, c, rfl, h2⟩
 ·go_enter Tryz.func94, Tryz.ntmps94
  go_wp2
  go_ret
  exact ⟨rfl, rfl⟩
 ·rcases Nat.eq_zero_or_pos n with rfl | hp
  ·go_enter Tryz.func94, Tryz.ntmps94
   go_wp2
   go_ret
   exact ⟨rfl, rfl⟩
  ·have g1 : (0 : Int) < (n : Int) := by omega
   go_enter Tryz.func94, Tryz.ntmps94
   go_wp2
   go_ret
   exact ⟨rfl, rfl⟩
def chk (dn tn : Nat) : Int := if dn = 0 ∨ tn = 0 then 1 else 2
theorem r_check {w : World} {d t : Value} {dn tn : Nat} (hd : DSl w d dn) (ht : TSl w t tn) (h1 : dn ≤ 100) (h2 : tn ≤ 100) (hne : dn = 0 ∨ tn = 0 ∨ dn ≠ tn) :
 Calls Tryz.prog 37 #[d, t] w fun e w' => e = .returned (.int .i64 (chk dn tn)) ∧ Old w w' := by
 have HD := Lib.hid (fun (w' : World) (U : Old w w') => d_slots (hd.old U) h1)
 have HT := Lib.hid (t_sizes ht h2)
 clear hd ht
 by_cases d0 : dn = 0
 ·subst d0
  rw [show chk 0 tn = 1 by simp [chk]]
  clear hne h1 h2
  go_enter Tryz.func37, Tryz.ntmps37
  go_wp2_with (first | (go_at_call 77; refine HT.out.mono ?_; rintro e w1 ⟨r, rfl, hU⟩; have HU := Lib.hid hU; clear hU) | (go_at_call 95; refine (HD.out _ HU.out).mono ?_; rintro e w2 ⟨rfl, rfl⟩))
  all_goals
   go_ret
   exact ⟨rfl, HU.out⟩
 ·by_cases t0 : tn = 0
  ·subst t0
   rw [show chk dn 0 = 1 by simp [chk]]
   have g1 : ((dn : Int) == 0) = false := by rw [beq_eq_false_iff_ne]; omega
   clear hne h1 h2 d0
   go_enter Tryz.func37, Tryz.ntmps37
   go_wp2_with (first | (go_at_call 77; refine HT.out.mono ?_; rintro e w1 ⟨r, rfl, hU⟩; have HU := Lib.hid hU; clear hU) | (go_at_call 95; refine (HD.out _ HU.out).mono ?_; rintro e w2 ⟨rfl, rfl⟩))
   all_goals
    go_ret
    exact ⟨rfl, HU.out⟩
  ·rw [show chk dn tn = 2 by simp [chk, d0, t0]]
   have g1 : ((dn : Int) == 0) = false := by rw [beq_eq_false_iff_ne]; omega
   have g2 : ((tn : Int) == 0) = false := by rw [beq_eq_false_iff_ne]; omega
   have g3 : ((dn : Int) == (tn : Int)) = false := by rw [beq_eq_false_iff_ne]; omega
   have g4 : ¬ dn = tn := by omega
   clear hne h1 h2
   go_enter Tryz.func37, Tryz.ntmps37
   go_wp2_with (first | (go_at_call 77; refine HT.out.mono ?_; rintro e w1 ⟨r, rfl, hU⟩; have HU := Lib.hid hU; clear hU) | (go_at_call 95; refine (HD.out _ HU.out).mono ?_; rintro e w2 ⟨rfl, rfl⟩))
   all_goals
    go_ret
    exact ⟨rfl, HU.out⟩
theorem d_down {w : World} {v : Value} {n : Nat} (h : DSl w v n) (hn : n ≤ 100) (hp : 0 < n) :
 Calls Tryz.prog 100 #[v] w fun e w' => e = .returned (.bool false) ∧ Old w w' := by
 rcases h with ⟨rfl, rfl⟩ | ⟨D, rfl, h2, h3⟩
 ·omega
 ·have g1 : (0 : Int) < (n : Int) := by omega
  go_enter Tryz.func100, Tryz.ntmps100
  go_wp2
  go_ret
  exact ⟨rfl, Upd.refl _ _⟩
theorem r_check_ok {w : World} {d t : Value} {dn : Nat} (hd : DSl w d dn) (ht : TSl w t dn) (h1 : dn ≤ 100) (hp : 0 < dn) :
 Calls Tryz.prog 37 #[d, t] w fun e w' => e = .returned (.int .i64 0) ∧ Old w w' := by
 have HD := Lib.hid (fun (w' : World) (U : Old w w') => d_slots (hd.old U) h1)
 have HO := Lib.hid (fun (w' : World) (U : Old w w') => d_down (hd.old U) h1 hp)
 have HT := Lib.hid (t_sizes ht h1)
 have g1 : ((dn : Int) == 0) = false := by rw [beq_eq_false_iff_ne]; omega
 clear hd ht h1 hp
 go_enter Tryz.func37, Tryz.ntmps37
 go_wp2_with (first | (go_at_call 77; refine HT.out.mono ?_; rintro e w1 ⟨r, rfl, hU⟩; have HU := Lib.hid hU; clear hU) | (go_at_call 95; refine (HD.out _ HU.out).mono ?_; rintro e w2 ⟨rfl, rfl⟩) | (go_at_call 100; refine (HO.out _ HU.out).mono ?_; rintro e w3 ⟨rfl, hU3⟩; have HU3 := Lib.hid hU3; clear hU3))
 all_goals
  go_ret
  exact ⟨rfl, HU.out.trans HU3.out⟩
def ste (dn tn xn : Nat) : Int := if dn = 0 ∨ tn = 0 ∨ xn = 0 then 1 else 2
theorem r_state {w : World} {d t x s : Value} {dn tn xn : Nat} {sl : Int} (hd : DSl w d dn) (ht : TSl w t tn) (hx : XSl w x xn) (h1 : dn ≤ 100) (h2 : tn ≤ 100) (h3 : xn ≤ 100) (hne : dn = 0 ∨ tn = 0 ∨ xn = 0 ∨ dn ≠ tn ∨ xn ≠ dn) :
 Calls Tryz.prog 34 #[d, t, x, .int .i64 sl] w fun e w' => e = .returned (.tuple #[.int .i64 0, .int .i64 (ste dn tn xn)]) ∧ Old w w' := by
 have HD := Lib.hid (fun (w' : World) (U : Old w w') => d_slots (hd.old U) h1)
 have HX := Lib.hid (fun (w' : World) (U : Old w w') => x_slots (hx.old U) h3)
 by_cases a0 : dn = 0 ∨ tn = 0
 ·have HC := Lib.hid (r_check hd ht h1 h2 (by omega))
  rw [show chk dn tn = 1 by simp [chk, a0]] at HC
  rw [show ste dn tn xn = 1 by rcases a0 with h | h <;> simp [ste, h]]
  clear hd ht hx hne a0
  go_enter Tryz.func34, Tryz.ntmps34
  go_wp2_with (first | (go_at_call 37; refine HC.out.mono ?_; rintro e w1 ⟨rfl, hU⟩; have HU := Lib.hid hU; clear hU) | (go_at_call 94; refine (HX.out _ HU.out).mono ?_; rintro e w2 ⟨rfl, rfl⟩) | (go_at_call 95; refine (HD.out _ HU.out).mono ?_; rintro e w2 ⟨rfl, rfl⟩))
  all_goals
   go_ret2
   exact ⟨rfl, HU.out⟩
 ·by_cases x0 : xn = 0
  ·subst x0
   rw [show ste dn tn 0 = 1 by simp [ste]]
   by_cases e0 : dn = tn
   ·subst e0
    have HC := Lib.hid (r_check_ok hd ht h1 (by omega))
    clear hd ht hx hne a0
    go_enter Tryz.func34, Tryz.ntmps34
    go_wp2_with (first | (go_at_call 37; refine HC.out.mono ?_; rintro e w1 ⟨rfl, hU⟩; have HU := Lib.hid hU; clear hU) | (go_at_call 94; refine (HX.out _ HU.out).mono ?_; rintro e w2 ⟨rfl, rfl⟩) | (go_at_call 95; refine (HD.out _ HU.out).mono ?_; rintro e w2 ⟨rfl, rfl⟩))
    all_goals
     go_ret2
     exact ⟨rfl, HU.out⟩
   ·have HC := Lib.hid (r_check hd ht h1 h2 (by omega))
    rw [show chk dn tn = 2 by simp [chk, a0]] at HC
    clear hd ht hx hne a0
    go_enter Tryz.func34, Tryz.ntmps34
    go_wp2_with (first | (go_at_call 37; refine HC.out.mono ?_; rintro e w1 ⟨rfl, hU⟩; have HU := Lib.hid hU; clear hU) | (go_at_call 94; refine (HX.out _ HU.out).mono ?_; rintro e w2 ⟨rfl, rfl⟩) | (go_at_call 95; refine (HD.out _ HU.out).mono ?_; rintro e w2 ⟨rfl, rfl⟩))
    all_goals
     go_ret2
     exact ⟨rfl, HU.out⟩
  ·rw [show ste dn tn xn = 2 by unfold ste; rw [if_neg (by omega)]]
   have g1 : ((xn : Int) == 0) = false := by rw [beq_eq_false_iff_ne]; omega
   by_cases e0 : dn = tn
   ·subst e0
    have HC := Lib.hid (r_check_ok hd ht h1 (by omega))
    have g2 : ((xn : Int) == (dn : Int)) = false := by rw [beq_eq_false_iff_ne]; omega
    have g3 : ¬ xn = dn := by omega
    clear hd ht hx hne a0
    go_enter Tryz.func34, Tryz.ntmps34
    go_wp2_with (first | (go_at_call 37; refine HC.out.mono ?_; rintro e w1 ⟨rfl, hU⟩; have HU := Lib.hid hU; clear hU) | (go_at_call 94; refine (HX.out _ HU.out).mono ?_; rintro e w2 ⟨rfl, rfl⟩) | (go_at_call 95; refine (HD.out _ HU.out).mono ?_; rintro e w2 ⟨rfl, rfl⟩))
    all_goals
     go_ret2
     exact ⟨rfl, HU.out⟩
   ·have HC := Lib.hid (r_check hd ht h1 h2 (by omega))
    rw [show chk dn tn = 2 by simp [chk, a0]] at HC
    clear hd ht hx hne a0
    go_enter Tryz.func34, Tryz.ntmps34
    go_wp2_with (first | (go_at_call 37; refine HC.out.mono ?_; rintro e w1 ⟨rfl, hU⟩; have HU := Lib.hid hU; clear hU) | (go_at_call 94; refine (HX.out _ HU.out).mono ?_; rintro e w2 ⟨rfl, rfl⟩) | (go_at_call 95; refine (HD.out _ HU.out).mono ?_; rintro e w2 ⟨rfl, rfl⟩))
    all_goals
     go_ret2
     exact ⟨rfl, HU.out⟩
theorem ste_ne (dn tn xn : Nat) : (ste dn tn xn == 0) = false := by unfold ste; split <;> rfl
theorem chk_ne (dn tn : Nat) : (chk dn tn == 0) = false := by unfold chk; split <;> rfl
theorem safe_b1 (w : World) (a : Obj) (t : TypeId) (c : Array Value) : Has ((w.alloc a).alloc (.cells c t)) (w.heap.size + 1) t c := by
 have := Has.new (w.alloc a) t c
 rwa [World.size_alloc] at this
theorem safe_b2 (w : World) (a b : Obj) (t : TypeId) (c : Array Value) : Has (((w.alloc a).alloc b).alloc (.cells c t)) (w.heap.size + 1 + 1) t c := by
 have := Has.new ((w.alloc a).alloc b) t c
 rwa [World.size_alloc, World.size_alloc] at this
theorem r_safe {w : World} {d t x : Value} {dn tn xn : Nat} {sl : Int} (hd : DSl w d dn) (ht : TSl w t tn) (hx : XSl w x xn) (h1 : dn ≤ 100) (h2 : tn ≤ 100) (h3 : xn ≤ 100) (hne : dn = 0 ∨ tn = 0 ∨ xn = 0 ∨ dn ≠ tn ∨ xn ≠ dn) :
 Calls Tryz.prog 10 #[d, t, x, .int .i64 sl] w fun e w' => e = .returned (.tuple #[.bool false, .int .i64 (ste dn tn xn)]) ∧ Old w w' := by
 have HS := Lib.hid (fun (w' : World) (U : Old w w') => r_state (s := d) (sl := sl) (hd.old U) (ht.old U) (hx.old U) h1 h2 h3 hne)
 have hz := ste_ne dn tn xn
 generalize ste dn tn xn = z at *
 clear hd ht hx h1 h2 h3 hne
 go_enter Tryz.func10, Tryz.ntmps10
 go_wp2_with (first | (go_at_call 34; refine (HS.out _ ?_).mono ?_; (exact ((((Upd.refl _ w).alloc _).alloc _).alloc _)); rintro e w1 ⟨rfl, hU⟩; have b8 := Old.has hU ((safe_b1 w _ 4 #[.bool false]).alloc _); have b9 := Old.has hU (safe_b2 w _ _ 32 #[.int .i64 0]); have c8 : w1.cell? ⟨w.heap.size + 1, 0, none⟩ = some (.bool false) := b8.cell 0; have c9 : w1.cell? ⟨w.heap.size + 1 + 1, 0, none⟩ = some (.int .i64 0) := b9.cell 0; have f8 := b8.frozen 0; have f9 := b9.frozen 0; clear b8 b9; have HU := Lib.hid hU; clear hU))
 have d8 : ((w1.setCell ⟨w.heap.size + 1, 0, none⟩ (.bool false)).setCell ⟨w.heap.size + 1 + 1, 0, none⟩ (.int .i64 z)).cell? ⟨w.heap.size + 1, 0, none⟩ = some (.bool false) := by
  rw [World.cell?_setCell_far _ _ _ _ (by simp)]
  exact World.cell?_setCell_same' _ _ _ (by rw [c8]; rfl)
 have d9 : ((w1.setCell ⟨w.heap.size + 1, 0, none⟩ (.bool false)).setCell ⟨w.heap.size + 1 + 1, 0, none⟩ (.int .i64 z)).cell? ⟨w.heap.size + 1 + 1, 0, none⟩ = some (.int .i64 z) :=
  World.cell?_setCell_same' _ _ _ (by rw [World.cell?_setCell_far _ _ _ _ (by simp), c9]; rfl)
 refine bodyPost_ret (v := .tuple #[.bool false, .int .i64 z]) ?_ rfl ⟨rfl, ((((Upd.refl (fun _ => False) w).alloc _).alloc _).alloc _ |>.trans HU.out).setCell _ _ (.inr (by simp)) |>.setCell _ _ (.inr (by simp; omega))⟩
 simp [results, Tryz.f10, go_sem, d8, d9]
theorem DSl.ptr {w : World} {v : Value} {n : Nat} (h : DSl w v n) : ∃ p, v = .pointer p := by rcases h with ⟨h, _⟩ | ⟨D, h, _⟩ <;> exact ⟨_, h⟩
theorem TSl.ptr {w : World} {v : Value} {n : Nat} (h : TSl w v n) : ∃ p, v = .pointer p := by rcases h with ⟨h, _⟩ | ⟨D, r, h, _⟩ <;> exact ⟨_, h⟩
theorem XSl.ptr {w : World} {v : Value} {n : Nat} (h : XSl w v n) : ∃ p, v = .pointer p := by rcases h with ⟨h, _⟩ | ⟨D, a, c, h, _⟩ <;> exact ⟨_, h⟩
theorem r_erase {w : World} {d t x : Value} {dn tn xn : Nat} {sl : Int} (hd : DSl w d dn) (ht : TSl w t tn) (hx : XSl w x xn) (h1 : dn ≤ 100) (h2 : tn ≤ 100) (h3 : xn ≤ 100) (hne : dn = 0 ∨ tn = 0 ∨ xn = 0 ∨ dn ≠ tn ∨ xn ≠ dn) :
 Calls Tryz.prog 12 #[d, t, x, .int .i64 sl] w fun e w' => e = .returned (.int .i64 (ste dn tn xn)) ∧ Old w w' := by
 obtain ⟨pd, rfl⟩ := hd.ptr
 obtain ⟨pt, rfl⟩ := ht.ptr
 obtain ⟨px, rfl⟩ := hx.ptr
 have HS := Lib.hid (fun (w' : World) (U : Old w w') => r_state (s := .bool true) (sl := sl) (hd.old U) (ht.old U) (hx.old U) h1 h2 h3 hne)
 have hz := ste_ne dn tn xn
 generalize ste dn tn xn = z at *
 clear hd ht hx h1 h2 h3 hne
 go_enter Tryz.func12, Tryz.ntmps12
 go_wp2_with (first | (go_at_call 34; refine (HS.out _ ?_).mono ?_; (exact ((((Upd.refl _ w).alloc _).alloc _).alloc _)); rintro e w1 ⟨rfl, hU⟩; have HU := Lib.hid hU; clear hU))
 go_ret
 exact ⟨rfl, (((Upd.refl _ w).alloc _).alloc _).alloc _ |>.trans HU.out⟩
theorem r_sync {w : World} {d t : Value} {dn tn : Nat} (hd : DSl w d dn) (ht : TSl w t tn) (h1 : dn ≤ 100) (h2 : tn ≤ 100) (hne : dn = 0 ∨ tn = 0 ∨ dn ≠ tn) :
 Calls Tryz.prog 11 #[d, t] w fun e w' => e = .returned (.int .i64 (chk dn tn)) ∧ Old w w' := by
 obtain ⟨pd, rfl⟩ := hd.ptr
 have HS := Lib.hid (fun (w' : World) (U : Old w w') => r_check (hd.old U) (ht.old U) h1 h2 hne)
 have hz := chk_ne dn tn
 generalize chk dn tn = z at *
 clear hd ht h1 h2 hne
 go_enter Tryz.func11, Tryz.ntmps11
 go_wp2_with (first | (go_at_call 37; refine (HS.out _ ?_).mono ?_; (exact (((Upd.refl _ w).alloc _).alloc _)); rintro e w1 ⟨rfl, hU⟩; have b9 := Old.has hU (safe_b1 w _ 32 #[.int .i64 0]); have c9 : w1.cell? ⟨w.heap.size + 1, 0, none⟩ = some (.int .i64 0) := b9.cell 0; have f9 := b9.frozen 0; clear b9; have HU := Lib.hid hU; clear hU))
 have d9 : (w1.setCell ⟨w.heap.size + 1, 0, none⟩ (.int .i64 z)).cell? ⟨w.heap.size + 1, 0, none⟩ = some (.int .i64 z) := World.cell?_setCell_same' _ _ _ (by rw [c9]; rfl)
 refine bodyPost_ret (v := .int .i64 z) ?_ rfl ⟨rfl, (((Upd.refl (fun _ => False) w).alloc _).alloc _ |>.trans HU.out).setCell _ _ (.inr (by simp))⟩
 simp [results, Tryz.f11, go_sem, d9]
structure Kpt (w w' : World) : Prop where
 heap : ∀ b, b < w.heap.size → w'.heap[b]? = w.heap[b]?
 os : w'.os = w.os
 out : w'.output = w.output
theorem Kpt.cell {w w' : World} (h : Kpt w w') {a : Addr} {v : Value} (hc : w.cell? a = some v) : w'.cell? a = some v := by
 have hl := World.block_lt_of_cell? w a hc
 unfold World.cell? at *
 rw [h.heap a.block hl]
 exact hc
theorem Upd.kpt {w w1 w2 : World} (h : Old w w1) (k : Kpt w1 w2) : Kpt w w2 :=
 ⟨fun b hb => (k.heap b (Nat.lt_of_lt_of_le hb h.size)).trans (h.keep b hb (fun x => x)), k.os.trans h.os, k.out.trans h.out⟩
theorem Kpt.kept {w w' : World} (h : Kpt w w') (may : MemPlace → Prop) : w.keptBut w' may := by
 refine ⟨h.os, h.out, fun i hi => ?_⟩
 rw [h.heap i hi]
 cases w.heap[i]? with
 | none => rfl
 | some o => cases o <;> simp
theorem Kpt.of {w w' : World} (h : ∀ B, B < w.heap.size → w'.heap[B]? = w.heap[B]?) (k : ∀ may, w.keptBut w' may) : Kpt w w' := ⟨h, (k fun _ => False).1, (k fun _ => False).2.1⟩
structure RnSt (w : World) (PP n : Nat) (d t x : Value) : Prop where
 n1 : 4 ≤ n
 n9 : n ≤ 9
 c0 : w.cell? ⟨PP, 0, none⟩ = some (.int .i64 ((n : Nat) : Int))
 c7 : w.cell? ⟨PP, 7, none⟩ = some d
 c8 : w.cell? ⟨PP, 8, none⟩ = some t
 c9 : w.cell? ⟨PP, 9, none⟩ = some x
 d : DSl w d n
 t : TSl w t n
 x : XSl w x n
theorem RnSt.old {w w' : World} {PP n : Nat} {d t x : Value} (h : RnSt w PP n d t x) (U : Old w w') : RnSt w' PP n d t x :=
 ⟨h.n1, h.n9, Old.cellOf' U h.c0, Old.cellOf' U h.c7, Old.cellOf' U h.c8, Old.cellOf' U h.c9, h.d.old U, h.t.old U, h.x.old U⟩
theorem rn_of {w wr : World} {k : Cf} {PP D B X it : Nat} (h : MadeRel w k PP D B X it wr) : RnSt wr PP k.n (.pointer (some ⟨D, 0, none⟩)) (.pointer (some ⟨B, 0, none⟩)) (.pointer (some ⟨X, 0, none⟩)) ∧ Old w wr := by
 obtain ⟨col, next, used, act, lens, ops, hp, h1, h2, h3, h4⟩ := h
 obtain ⟨t, p⟩ := hp.p
 obtain ⟨s, K, S, cap, T, M, V, hd, e1, e2, e3, e4⟩ := hp.dev
 obtain ⟨td, fd⟩ := hd.fd
 obtain ⟨ts, Z, ht, a1, a2, a3⟩ := hp.tab
 obtain ⟨tb, fb⟩ := ht.fB
 obtain ⟨si, hi⟩ := hp.idx
 obtain ⟨tx, fx⟩ := hi.fX
 rw [e1, e2] at fd
 rw [a1] at fb
 exact ⟨⟨hp.n4, hp.n9, p.cell 0, p.cell 7, p.cell 8, p.cell 9, .inr ⟨D, rfl, fd.cell 2, fd.cell 4⟩, .inr ⟨B, _, rfl, fb.cell 0, fb.cell 1⟩, .inr ⟨X, _, _, rfl, fx.cell 1⟩⟩, h4⟩
theorem rn_tab {n : Nat} (h1 : 4 ≤ n) (h2 : n ≤ 9) (W : World) : Calls Tryz.prog 8 #[.int .i64 ((n : Int) + 1), .int .i64 2] W fun e w' => ∃ p, e = .returned (.tuple #[.pointer (some p), .int .i64 0]) ∧ TSl w' (.pointer (some p)) (n + 1) ∧ Old W w' := by
 refine (tab_new (w := W) (n := n + 1) (r := 2) (by omega) (by omega) (by omega)).mono ?_
 rintro e w' ⟨rfl, ht⟩
 exact ⟨_, rfl, .inr ⟨_, _, rfl, ht.hB.cell 0, ht.hB.cell 1⟩, ht.old⟩
theorem rn_idx {n : Nat} (h1 : 4 ≤ n) (h2 : n ≤ 9) (W : World) : Calls Tryz.prog 9 #[.int .i64 ((n : Int) + 1)] W fun e w' => ∃ p, e = .returned (.tuple #[.pointer (some p), .int .i64 0]) ∧ XSl w' (.pointer (some p)) (n + 1) ∧ Old W w' := by
 refine (idx_new (w := W) (n := n + 1) (by omega) (by omega)).mono ?_
 rintro e w' ⟨X, O, S, rfl, hX, hO, hS, _, _, _, _, _, _, hU⟩
 exact ⟨_, rfl, .inr ⟨_, _, _, rfl, hX.cell 1⟩, hU⟩
set_option maxHeartbeats 2000000 in
theorem reclaimNil_walk {w : World} {n0 n1 n2 n3 n4 n5 n6 ll lc : Nat} {al : Option Addr} {sl : Int} (h0 : n0 < 256) (h1 : n1 < 256) (h2 : n2 < 256) (h3 : n3 < 256) (h4 : n4 < 256) (h5 : n5 < 256) (h6 : n6 < 256) (hdb : DbAt w) (hse : SealAt w) (hll : ll ≤ lc) (hlc : lc ≤ 9223372036854775807) (hal : ll = 0 ∨ al.isSome = true) (hL : ∀ j, j < ll → j < 60 → ∃ lb lo, al = some ⟨lb, lo, none⟩ ∧ MoveAt w lb lo j)
 (hW : ∀ w' : World, Old w w' → Calls Tryz.prog 13 #[] w' fun e w'' => e = .returned (.bool true) ∧ Kpt w' w'') :
 Calls Tryz.prog 3 #[.agg #[.int .u8 ((n0 : Nat) : Int), .int .u8 ((n1 : Nat) : Int), .int .u8 ((n2 : Nat) : Int), .int .u8 ((n3 : Nat) : Int), .int .u8 ((n4 : Nat) : Int), .int .u8 ((n5 : Nat) : Int), .int .u8 ((n6 : Nat) : Int), .slice al ll lc], .int .i64 sl] w fun e w' => e = .returned (.bool true) ∧ Kpt w w' := by
 have HMD : Hid (∀ W : World, Old w W → Calls Tryz.prog 7 #[.agg #[.int .u8 ((n0 : Nat) : Int), .int .u8 ((n1 : Nat) : Int), .int .u8 ((n2 : Nat) : Int), .int .u8 ((n3 : Nat) : Int), .int .u8 ((n4 : Nat) : Int), .int .u8 ((n5 : Nat) : Int), .int .u8 ((n6 : Nat) : Int), .slice al ll lc]] W fun e w1 => ∃ PP n d t x, e = .returned (.tuple #[.pointer (some ⟨PP, 0, none⟩), .bool true]) ∧ RnSt w1 PP n d t x ∧ Old w w1) := fun W U => by
  refine (made h0 h1 h2 h3 h4 h5 h6 (hdb.upd U (fun x => x)) (hse.upd U (fun x => x)) hll hlc hal (fun j a b => by obtain ⟨lb, lo, ha, kd, ky, sz, q1, q2, q3, m0, m1, m2⟩ := hL j a b; exact ⟨lb, lo, ha, kd, ky, sz, q1, q2, q3, Old.cellOf' U m0, Old.cellOf' U m1, Old.cellOf' U m2⟩)).mono ?_
  rintro e w1 ⟨PP, D, B, X, it, rfl, _, hm⟩
  obtain ⟨r1, r2⟩ := rn_of hm
  exact ⟨PP, _, _, _, _, rfl, r1, U.trans r2⟩
 have HWK := Lib.hid hW
 clear hdb hse hL hW
 go_enter Tryz.func3, Tryz.ntmps3
 go_wp2_with (first | (go_at_call 7; refine (HMD.out _ ?_).mono ?_; (first | with_reducible exact (Upd.refl _ w) | exact ((Upd.refl _ w).alloc _) | exact (((Upd.refl _ w).alloc _).alloc _)); rintro e w1 ⟨PP, n, d, t, x, rfl, hr1, hU1⟩; have HR1 := Lib.hid hr1; have HU1 := Lib.hid hU1; clear hr1 hU1; refine Hid.out ?_))
 have hn1 := HR1.out.n1
 have hn9 := HR1.out.n9
 have c0 := HR1.out.c0
 have HTN := Lib.hid (rn_tab hn1 hn9)
 have HIN := Lib.hid (rn_idx hn1 hn9)
 refine Lib.hid ?_
 go_wp2_with (first | (go_at_call 8; refine (HTN.out _).mono ?_; rintro e w2 ⟨pt, rfl, ht2, hU2⟩; have d0 : w2.cell? ⟨PP, 0, none⟩ = some (.int .i64 ((n : Nat) : Int)) := Old.cellOf' hU2 c0; have HT2 := Lib.hid ht2; have HU2 := Lib.hid hU2; clear ht2 hU2 HTN c0) | (go_at_call 9; refine (HIN.out _).mono ?_; rintro e w3 ⟨px, rfl, hx3, hU3⟩; have HX3 := Lib.hid hx3; have HU3 := Lib.hid hU3; clear hx3 hU3 HIN d0; refine Hid.out ?_))
 have hU13 := HU2.out.trans HU3.out
 have hR3 := HR1.out.old hU13
 have hT3 := HT2.out.old HU3.out
 have hX3 := HX3.out
 obtain ⟨pd, rfl⟩ := hR3.d.ptr
 obtain ⟨pt1, rfl⟩ := hR3.t.ptr
 obtain ⟨px1, rfl⟩ := hR3.x.ptr
 have HSAFE : Hid (∀ (W : World), Old w3 W → ∀ (d t x : Value) (dn tn xn : Nat), DSl w3 d dn → TSl w3 t tn → XSl w3 x xn → dn ≤ 100 → tn ≤ 100 → xn ≤ 100 → (dn = 0 ∨ tn = 0 ∨ xn = 0 ∨ dn ≠ tn ∨ xn ≠ dn) → Calls Tryz.prog 10 #[d, t, x, .int .i64 sl] W fun e w' => e = .returned (.tuple #[.bool false, .int .i64 (ste dn tn xn)]) ∧ Old w3 w') := fun W U d t x dn tn xn hd ht hx a b c hne =>
  (r_safe (hd.old U) (ht.old U) (hx.old U) a b c hne).mono fun e w' ⟨h1, h2⟩ => ⟨h1, U.trans h2⟩
 have HER : Hid (∀ (W : World), Old w3 W → ∀ (d t x : Value) (dn tn xn : Nat), DSl W d dn → TSl W t tn → XSl W x xn → dn ≤ 100 → tn ≤ 100 → xn ≤ 100 → (dn = 0 ∨ tn = 0 ∨ xn = 0 ∨ dn ≠ tn ∨ xn ≠ dn) → Calls Tryz.prog 12 #[d, t, x, .int .i64 sl] W fun e w' => e = .returned (.int .i64 (ste dn tn xn)) ∧ Old w3 w') := fun W U d t x dn tn xn hd ht hx a b c hne =>
  (r_erase hd ht hx a b c hne).mono fun e w' ⟨h1, h2⟩ => ⟨h1, U.trans h2⟩
 have HSY : Hid (∀ (W : World), Old w3 W → ∀ (d t : Value) (dn tn : Nat), DSl W d dn → TSl W t tn → dn ≤ 100 → tn ≤ 100 → (dn = 0 ∨ tn = 0 ∨ dn ≠ tn) → Calls Tryz.prog 11 #[d, t] W fun e w' => e = .returned (.int .i64 (chk dn tn)) ∧ Old w3 w') := fun W U d t dn tn hd ht a b hne =>
  (r_sync hd ht a b hne).mono fun e w' ⟨h1, h2⟩ => ⟨h1, U.trans h2⟩
 have c7 := hR3.c7
 have c8 := hR3.c8
 have c9 := hR3.c9
 have HR3 := Lib.hid hR3
 have HT3 := Lib.hid hT3
 have HX3' := Lib.hid hX3
 have h3l : PP < w3.heap.size := World.block_lt_of_cell? w3 _ c7
 clear hR3 hT3 hX3 hU13
 have s1 : ste 0 n n = 1 := by simp [ste]
 have s2 : ste n 0 n = 1 := by simp [ste]
 have s3 : ste n n 0 = 1 := by simp [ste]
 have s4 : ste n n (n + 1) = 2 := by unfold ste; rw [if_neg (by omega)]
 have s5 : ste n (n + 1) n = 2 := by unfold ste; rw [if_neg (by omega)]
 have P3 : ∀ W : World, Old w3 W → W.cell? ⟨PP, 7, none⟩ = some (.pointer pd) ∧ W.cell? ⟨PP, 8, none⟩ = some (.pointer pt1) ∧ W.cell? ⟨PP, 9, none⟩ = some (.pointer px1) := fun W U => ⟨Old.cellOf' U c7, Old.cellOf' U c8, Old.cellOf' U c9⟩
 refine Lib.hid ?_
 have HO0 := Lib.hid (Upd.refl (fun _ => False) w3)
 have Q0 := P3 _ HO0.out
 go_wp2
 go_region_held3 (fun x => x.cell? ⟨PP, 7, none⟩ = some (.pointer pd) ∧ x.cell? ⟨PP, 8, none⟩ = some (.pointer pt1) ∧ x.cell? ⟨PP, 9, none⟩ = some (.pointer px1)) (first | (with_reducible exact Q1) | go_keep) (first | (go_at_call 10; refine (HSAFE.out _ ?_ _ _ _ 0 n n ?_ ?_ ?_ (by omega) (by omega) (by omega) (by omega)).mono ?_; (exact HO0.out.drew); (exact .inl ⟨rfl, rfl⟩); (exact HR3.out.t); (exact HR3.out.x); rintro e0 w10 ⟨rfl, hU⟩; have Q1 := P3 _ hU; have HO1 := Lib.hid hU; clear hU Q0))
 rename_i hHeld
 clear hHeld
 have c7 := Q1.1
 have c8 := Q1.2.1
 have c9 := Q1.2.2
 go_wp2
 go_region_held3 (fun x => x.cell? ⟨PP, 7, none⟩ = some (.pointer pd) ∧ x.cell? ⟨PP, 8, none⟩ = some (.pointer pt1) ∧ x.cell? ⟨PP, 9, none⟩ = some (.pointer px1)) (first | (with_reducible exact Q2) | go_keep) (first | (go_at_call 10; refine (HSAFE.out _ ?_ _ _ _ n 0 n ?_ ?_ ?_ (by omega) (by omega) (by omega) (by omega)).mono ?_; (exact HO1.out.drew); (exact HR3.out.d); (exact .inl ⟨rfl, rfl⟩); (exact HR3.out.x); rintro e1 w11 ⟨rfl, hU⟩; have Q2 := P3 _ hU; have HO2 := Lib.hid hU; clear hU Q1))
 rename_i hHeld
 clear hHeld
 have c7 := Q2.1
 have c8 := Q2.2.1
 have c9 := Q2.2.2
 go_wp2
 go_region_held3 (fun x => x.cell? ⟨PP, 7, none⟩ = some (.pointer pd) ∧ x.cell? ⟨PP, 8, none⟩ = some (.pointer pt1) ∧ x.cell? ⟨PP, 9, none⟩ = some (.pointer px1)) (first | (with_reducible exact Q3) | go_keep) (first | (go_at_call 10; refine (HSAFE.out _ ?_ _ _ _ n n 0 ?_ ?_ ?_ (by omega) (by omega) (by omega) (by omega)).mono ?_; (exact HO2.out.drew); (exact HR3.out.d); (exact HR3.out.t); (exact .inl ⟨rfl, rfl⟩); rintro e2 w12 ⟨rfl, hU⟩; have Q3 := P3 _ hU; have HO3 := Lib.hid hU; clear hU Q2))
 rename_i hHeld
 clear hHeld
 have c7 := Q3.1
 have c8 := Q3.2.1
 have c9 := Q3.2.2
 go_wp2
 go_region_held3 (fun x => x.cell? ⟨PP, 7, none⟩ = some (.pointer pd) ∧ x.cell? ⟨PP, 8, none⟩ = some (.pointer pt1) ∧ x.cell? ⟨PP, 9, none⟩ = some (.pointer px1)) (first | (with_reducible exact Q4) | go_keep) (first | (go_at_call 10; refine (HSAFE.out _ ?_ _ _ _ n n (n + 1) ?_ ?_ ?_ (by omega) (by omega) (by omega) (by omega)).mono ?_; (exact HO3.out.drew); (exact HR3.out.d); (exact HR3.out.t); (exact HX3'.out); rintro e3 w13 ⟨rfl, hU⟩; have Q4 := P3 _ hU; have HO4 := Lib.hid hU; clear hU Q3))
 rename_i hHeld
 clear hHeld
 have c7 := Q4.1
 have c8 := Q4.2.1
 have c9 := Q4.2.2
 go_wp2
 go_region_held3 (fun x => x.cell? ⟨PP, 7, none⟩ = some (.pointer pd) ∧ x.cell? ⟨PP, 8, none⟩ = some (.pointer pt1) ∧ x.cell? ⟨PP, 9, none⟩ = some (.pointer px1)) (first | (with_reducible exact Q5) | go_keep) (first | (go_at_call 10; refine (HSAFE.out _ ?_ _ _ _ n (n + 1) n ?_ ?_ ?_ (by omega) (by omega) (by omega) (by omega)).mono ?_; (exact HO4.out.drew); (exact HR3.out.d); (exact HT3.out); (exact HR3.out.x); rintro e4 w14 ⟨rfl, hU⟩; have Q5 := P3 _ hU; have HO5 := Lib.hid hU; clear hU Q4))
 rename_i hHeld
 clear hHeld
 have c7 := Q5.1
 have c8 := Q5.2.1
 have c9 := Q5.2.2
 have A1 := Lib.hid (fun (W : World) (U : Old w3 W) => HSY.out W U (.pointer none) (.pointer pt1) 0 n (.inl ⟨rfl, rfl⟩) (HR3.out.t.old U) (by omega) (by omega) (by omega))
 have A2 := Lib.hid (fun (W : World) (U : Old w3 W) => HSY.out W U (.pointer pd) (.pointer none) n 0 (HR3.out.d.old U) (.inl ⟨rfl, rfl⟩) (by omega) (by omega) (by omega))
 have A3 := Lib.hid (fun (W : World) (U : Old w3 W) => HSY.out W U (.pointer pd) (.pointer (some pt)) n (n + 1) (HR3.out.d.old U) (HT3.out.old U) (by omega) (by omega) (by omega))
 have A4 := Lib.hid (fun (W : World) (U : Old w3 W) (a b : Nat) (hd : DSl W (.pointer (some ⟨a, 0, none⟩)) 0) (ht : TSl W (.pointer (some ⟨b, 0, none⟩)) 0) => HSY.out W U _ _ 0 0 hd ht (by omega) (by omega) (by omega))
 have E1 := Lib.hid (fun (W : World) (U : Old w3 W) => HER.out W U (.pointer none) (.pointer (some pt)) (.pointer px1) 0 (n + 1) n (.inl ⟨rfl, rfl⟩) (HT3.out.old U) (HR3.out.x.old U) (by omega) (by omega) (by omega) (by omega))
 have E2 := Lib.hid (fun (W : World) (U : Old w3 W) => HER.out W U (.pointer pd) (.pointer none) (.pointer (some px)) n 0 (n + 1) (HR3.out.d.old U) (.inl ⟨rfl, rfl⟩) (HX3'.out.old U) (by omega) (by omega) (by omega) (by omega))
 have E3 := Lib.hid (fun (W : World) (U : Old w3 W) (a : Nat) (hx : XSl W (.pointer (some ⟨a, 0, none⟩)) 0) => HER.out W U (.pointer pd) (.pointer (some pt)) (.pointer (some ⟨a, 0, none⟩)) n (n + 1) 0 (HR3.out.d.old U) (HT3.out.old U) hx (by omega) (by omega) (by omega) (by omega))
 have E4 := Lib.hid (fun (W : World) (U : Old w3 W) => HER.out W U (.pointer pd) (.pointer (some pt)) (.pointer px1) n (n + 1) n (HR3.out.d.old U) (HT3.out.old U) (HR3.out.x.old U) (by omega) (by omega) (by omega) (by omega))
 have E5 := Lib.hid (fun (W : World) (U : Old w3 W) => HER.out W U (.pointer pd) (.pointer pt1) (.pointer (some px)) n n (n + 1) (HR3.out.d.old U) (HR3.out.t.old U) (HX3'.out.old U) (by omega) (by omega) (by omega) (by omega))
 simp only [show chk 0 n = 1 by simp [chk]] at A1
 simp only [show chk n 0 = 1 by simp [chk]] at A2
 simp only [show chk n (n + 1) = 2 by unfold chk; rw [if_neg (by omega)]] at A3
 simp only [show chk 0 0 = 1 by simp [chk]] at A4
 simp only [show ste 0 (n + 1) n = 1 by simp [ste]] at E1
 simp only [show ste n 0 (n + 1) = 1 by simp [ste]] at E2
 simp only [show ste n (n + 1) 0 = 1 by simp [ste]] at E3
 simp only [s5] at E4
 simp only [s4] at E5
 have HOc := Lib.hid HO5.out
 have hw5 := Lib.hid (HU1.out.trans (HU2.out.trans HU3.out))
 go_wp2_with (first | (go_at_call 11; (with_reducible refine (A1.out _ ?_).mono ?_); (exact HOc.out); rintro eA1 wA1 ⟨rfl, hU⟩; clear HOc A1; have HOc := Lib.hid hU; have c7 := (P3 _ hU).1; have c8 := (P3 _ hU).2.1; have c9 := (P3 _ hU).2.2; clear hU) | (go_at_call 11; (with_reducible refine (A2.out _ ?_).mono ?_); (exact HOc.out); rintro eA2 wA2 ⟨rfl, hU⟩; clear HOc A2; have HOc := Lib.hid hU; have c7 := (P3 _ hU).1; have c8 := (P3 _ hU).2.1; have c9 := (P3 _ hU).2.2; clear hU) | (go_at_call 11; (with_reducible refine (A3.out _ ?_).mono ?_); (exact HOc.out); rintro eA3 wA3 ⟨rfl, hU⟩; clear HOc A3; have HOc := Lib.hid hU; have c7 := (P3 _ hU).1; have c8 := (P3 _ hU).2.1; have c9 := (P3 _ hU).2.2; clear hU) | (go_at_call 11; refine (A4.out _ ?_ _ _ ?_ ?_).mono ?_; (exact ((HOc.out.alloc _).alloc _)); (exact .inr ⟨_, rfl, (by simp), (by simp)⟩); (exact .inr ⟨_, 0, rfl, (by simp), (by simp)⟩); rintro eA4 wA4 ⟨rfl, hU⟩; clear HOc A4; have HOc := Lib.hid hU; have c7 := (P3 _ hU).1; have c8 := (P3 _ hU).2.1; have c9 := (P3 _ hU).2.2; clear hU))
 have QQ := P3 _ HOc.out
 go_region_held3 (fun x => x.cell? ⟨PP, 7, none⟩ = some (.pointer pd) ∧ x.cell? ⟨PP, 8, none⟩ = some (.pointer pt1) ∧ x.cell? ⟨PP, 9, none⟩ = some (.pointer px1)) (first | (with_reducible exact QW) | (with_reducible exact QQ) | go_keep) (first | (go_at_call 12; (with_reducible refine (E1.out _ ?_).mono ?_); (first | with_reducible exact HOc.out | exact HOc.out.drew); rintro eE1 wE1 ⟨rfl, hU⟩; clear HOc E1; have HOc := Lib.hid hU; have c7 := (P3 _ hU).1; have c8 := (P3 _ hU).2.1; have c9 := (P3 _ hU).2.2; clear QQ; have QQ := P3 _ hU; clear hU) | (go_at_call 12; (with_reducible refine (E2.out _ ?_).mono ?_); (first | with_reducible exact HOc.out | exact HOc.out.drew); rintro eE2 wE2 ⟨rfl, hU⟩; clear HOc E2; have HOc := Lib.hid hU; have c7 := (P3 _ hU).1; have c8 := (P3 _ hU).2.1; have c9 := (P3 _ hU).2.2; clear QQ; have QQ := P3 _ hU; clear hU) | (go_at_call 12; (with_reducible refine (E4.out _ ?_).mono ?_); (first | with_reducible exact HOc.out | exact HOc.out.drew); rintro eE4 wE4 ⟨rfl, hU⟩; clear HOc E4; have HOc := Lib.hid hU; have c7 := (P3 _ hU).1; have c8 := (P3 _ hU).2.1; have c9 := (P3 _ hU).2.2; clear QQ; have QQ := P3 _ hU; clear hU) | (go_at_call 12; (with_reducible refine (E5.out _ ?_).mono ?_); (first | with_reducible exact HOc.out | exact HOc.out.drew); rintro eE5 wE5 ⟨rfl, hU⟩; clear HOc E5; have HOc := Lib.hid hU; have c7 := (P3 _ hU).1; have c8 := (P3 _ hU).2.1; have c9 := (P3 _ hU).2.2; clear QQ; have QQ := P3 _ hU; clear hU) | (go_at_call 12; refine (E3.out _ ?_ _ ?_).mono ?_; (exact (HOc.out.alloc _)); (exact .inr ⟨_, none, 0, rfl, (by simp)⟩); rintro eE3 wE3 ⟨rfl, hU⟩; clear HOc E3; have HOc := Lib.hid hU; have c7 := (P3 _ hU).1; have c8 := (P3 _ hU).2.1; have c9 := (P3 _ hU).2.2; clear QQ; have QQ := P3 _ hU; clear hU) | (go_at_call 13; refine (HWK.out _ ?_).mono ?_; (exact hw5.out.trans HOc.out); rintro eW wW ⟨rfl, hU⟩; have QW := And.intro (Kpt.cell hU QQ.1) (And.intro (Kpt.cell hU QQ.2.1) (Kpt.cell hU QQ.2.2)); have HOw := Lib.hid hU; clear hU))
 all_goals
  go_wp2
  go_ret
  exact ⟨rfl, (hw5.out.trans HOc.out).kpt HOw.out⟩
end Go.M
