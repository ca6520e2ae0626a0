/- Walks 17. -/
import Derived.Test.YtfkpfgnigiijnaaGreatDoorProg
import Derived.Test.YtfkpfgnigiijnaaGreatDoorK1
import Derived.Test.YtfkpfgnigiijnaaGreatDoorK3
set_option linter.unusedVariables false
set_option linter.unusedSimpArgs false
set_option maxRecDepth 100000
namespace Go.M
open Go.Proofs Go.RowKit
def DSl (w : World) (v : Value) (n : Nat) : Prop := (v = .pointer none ∧ n = 0) ∨ ∃ D, v = .pointer (some ⟨D, 0, none⟩) ∧ w.cell? ⟨D, 2, none⟩ = some (.int .i64 ((n : Nat) : Int)) ∧ w.cell? ⟨D, 4, none⟩ = some (.bool false)
def TSl (w : World) (v : Value) (n : Nat) : Prop := (v = .pointer none ∧ n = 0) ∨ ∃ B r, v = .pointer (some ⟨B, 0, none⟩) ∧ w.cell? ⟨B, 0, none⟩ = some (.int .i64 ((n : Nat) : Int)) ∧ w.cell? ⟨B, 1, none⟩ = some (.int .i64 r)
def XSl (w : World) (v : Value) (n : Nat) : Prop := (v = .pointer none ∧ n = 0) ∨ ∃ X a c, v = .pointer (some ⟨X, 0, none⟩) ∧ w.cell? ⟨X, 1, none⟩ = some (.slice a n c)
theorem DSl.old {w w' : World} {v : Value} {n : Nat} (h : DSl w v n) (U : Old w w') : DSl w' v n := by
 rcases h with h | ⟨D, h1, h2, h3⟩
 ·exact .inl h
 ·exact .inr ⟨D, h1, Old.cellOf' U h2, Old.cellOf' U h3⟩
theorem TSl.old {w w' : World} {v : Value} {n : Nat} (h : TSl w v n) (U : Old w w') : TSl w' v n := by
 rcases h with h | ⟨D, r, h1, h2, h3⟩
 ·exact .inl h
 ·exact .inr ⟨D, r, h1, Old.cellOf' U h2, Old.cellOf' U h3⟩
theorem XSl.old {w w' : World} {v : Value} {n : Nat} (h : XSl w v n) (U : Old w w') : XSl w' v n := by
 rcases h with h | ⟨D, a, c, h1, h2⟩
 ·exact .inl h
 ·exact .inr ⟨D, a, c, h1, Old.cellOf' U h2⟩
theorem ZtO {w : World} {v : Value} {n : Nat} (h : TSl w v n) (hn : n ≤ 100) :
 Calls Tryz.prog 77 #[v] w fun e w' => ∃ r, e = .returned (.tuple #[.int .i64 ((n : Nat) : Int), .int .i64 r]) ∧ Old w w' := by
 rcases h with ⟨rfl, rfl⟩ | ⟨D, r, rfl, h2, h3⟩
 ·go_enter Tryz.func77, Tryz.ntmps77
  go_wp2;go_ret2;exact ⟨0, rfl, Upd.refl _ _⟩
 ·rcases Nat.eq_zero_or_pos n with rfl | hp
  ·go_enter Tryz.func77, Tryz.ntmps77
   go_wp2;go_ret2;exact ⟨0, rfl, Upd.refl _ _⟩
  ·have g1 : (0 : Int) < (n : Int) := by omega
   go_enter Tryz.func77, Tryz.ntmps77
   go_wp2
   go_quiet (fail)
   go_wp2;go_ret2;exact ⟨r, rfl, (Upd.refl _ _).drewN _⟩
theorem ZtP {w : World} {v : Value} {n : Nat} (h : XSl w v n) (hn : n ≤ 100) :
 Calls Tryz.prog 94 #[v] w fun e w' => e = .returned (.int .i64 ((n : Nat) : Int)) ∧ w = w' := by
 rcases h with ⟨rfl, rfl⟩ | ⟨D, a, c, rfl, h2⟩
 ·go_enter Tryz.func94, Tryz.ntmps94
  go_wp2;go_ret;exact ⟨rfl, rfl⟩
 ·rcases Nat.eq_zero_or_pos n with rfl | hp
  ·go_enter Tryz.func94, Tryz.ntmps94
   go_wp2;go_ret;exact ⟨rfl, rfl⟩
  ·have g1 : (0 : Int) < (n : Int) := by omega
   go_enter Tryz.func94, Tryz.ntmps94
   go_wp2;go_ret;exact ⟨rfl, rfl⟩
theorem ZtQ (w : World) (a : Obj) (t : TypeId) (c : Array Value) : Has ((w.alloc a).alloc (.cells c t)) (w.heap.size + 1) t c := by
 have := Has.new (w.alloc a) t c;rwa [World.size_alloc] at this
theorem ZtR (w : World) (a b : Obj) (t : TypeId) (c : Array Value) : Has (((w.alloc a).alloc b).alloc (.cells c t)) (w.heap.size + 1 + 1) t c := by
 have := Has.new ((w.alloc a).alloc b) t c;rwa [World.size_alloc, World.size_alloc] at this
end Go.M
