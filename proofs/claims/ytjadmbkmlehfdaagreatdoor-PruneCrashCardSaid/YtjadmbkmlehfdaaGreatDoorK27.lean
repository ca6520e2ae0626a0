/- Walks 27. -/
import Derived.Test.YtjadmbkmlehfdaaGreatDoorProg
import Derived.Test.YtjadmbkmlehfdaaGreatDoorK24
import Derived.Test.YtjadmbkmlehfdaaGreatDoorK11
import Derived.Test.YtjadmbkmlehfdaaGreatDoorK26
set_option linter.unusedVariables false
set_option linter.unusedSimpArgs false
set_option maxRecDepth 100000
namespace Go.M
open Go.Proofs Go.RowKit Go.Shelf
attribute [local go_sem] Oper.semAt_some
theorem r_state_ok {w : World} {d t x : Value} {n st : Nat} {sl : Int} (hd : DSl w d n) (ht : TSl w t n) (hx : XSl w x n) (h1 : n ≤ 100) (hp : 0 < n) (hS : ∀ W, Old w W → Calls Tryz.prog 32 #[t, .int .i64 sl] W fun e w' => e = .returned (.tuple #[.int .i64 ((st : Nat) : Int), .int .i64 0]) ∧ W = w') :
 Calls Tryz.prog 57 #[d, t, x, .int .i64 sl] w fun e w' => e = .returned (.tuple #[.int .i64 ((st : Nat) : Int), .int .i64 0]) ∧ Old w w' := by
 have HD := Lib.hid (fun (w' : World) (U : Old w w') => d_slots (hd.old U) h1)
 have HX := Lib.hid (fun (w' : World) (U : Old w w') => x_slots (hx.old U) h1)
 have HS := Lib.hid hS
 have HC := Lib.hid (r_check_ok hd ht h1 hp)
 have g1 : ((n : Int) == 0) = false := by rw [beq_eq_false_iff_ne]; omega
 clear hd ht hx hp h1 hS
 go_enter Tryz.func57, Tryz.ntmps57
 go_wp2_with (first | (go_at_call 115; refine HC.out.mono ?_; rintro e w1 ⟨rfl, hU⟩; have HU := Lib.hid hU; clear hU) | (go_at_call 77; refine (HX.out _ HU.out).mono ?_; rintro e w2 ⟨rfl, rfl⟩) | (go_at_call 76; refine (HD.out _ HU.out).mono ?_; rintro e w2 ⟨rfl, rfl⟩) | (go_at_call 32; refine (HS.out _ HU.out).mono ?_; rintro e w3 ⟨rfl, rfl⟩))
 all_goals
  go_ret2
  exact ⟨rfl, HU.out⟩
def SafB (w : World) (i : Nat) (V : World) : Prop := V.cell? ⟨w.heap.size, 0, none⟩ = some (.int .i64 ((i : Nat) : Int)) ∧ (∃ t, Has V (w.heap.size + 1) t #[.bool false]) ∧ (∃ t, Has V (w.heap.size + 1 + 1) t #[.int .i64 0]) ∧ Old w V
theorem SafB.grown {w X Y : World} {i B : Nat} {row : Option Nat} (h : SafB w i X) (hB : w.heap.size ≤ B) (hg : X.grownBy Y row) (hr : ∀ r, row = some r → B ≤ r ∧ ∃ o : Obj, X.heap[r]? = some o ∧ o.isCells = false) : SafB w i Y := by
 obtain ⟨h1, ⟨t2, h2⟩, ⟨t3, h3⟩, h4⟩ := h
 exact ⟨cell_kept h1 hg (fun r e => (hr r e).2), ⟨t2, has_own _ t2 (fun (_ : Unit) => _) () X Y row h2 hg (fun r e => (hr r e).2)⟩, ⟨t3, has_own _ t3 (fun (_ : Unit) => _) () X Y row h3 hg (fun r e => (hr r e).2)⟩, h4.grown hg (fun r e => .inr (by have := (hr r e).1; omega))⟩
theorem SafB.old {w X Y : World} {i : Nat} (h : SafB w i X) (U : Old X Y) : SafB w i Y := by
 obtain ⟨h1, ⟨t2, h2⟩, ⟨t3, h3⟩, h4⟩ := h
 exact ⟨Old.cellOf' U h1, ⟨t2, U.has h2⟩, ⟨t3, U.has h3⟩, Upd.trans h4 U⟩
theorem res_cell2 {P : Program} {fn : Func} {p q : Tmp} {ty tq : TypeId} {tmps : Array Value} {w : World} {a b : Addr} {u v : Value} (h : fn.results = #[.cell p ty, .cell q tq]) (hp : tmps.getD p undef = .pointer (some a)) (hq : tmps.getD q undef = .pointer (some b)) (hl : (loadVar ty a).run P w = .ok u w) (hm : (loadVar tq b).run P w = .ok v w) : (results fn tmps).run P w = .ok (.tuple #[u, v]) w := by
 have hp' : tmps[p]?.getD undef = .pointer (some a) := by simpa using hp
 have hq' : tmps[q]?.getD undef = .pointer (some b) := by simpa using hq
 simp only [results, h]
 simp [hp', hq', asAddr, hl, hm]
end Go.M
namespace Go.M
open Go.Proofs Go.RowKit
set_option linter.unusedSimpArgs false
attribute [local go_sem] Oper.semAt_some
end Go.M
