/- Walks 23. -/
import Derived.Test.YtjadmbkmlehfdaaGreatDoorProg
import Derived.Test.YtjadmbkmlehfdaaGreatDoorK21
import Derived.Test.YtjadmbkmlehfdaaGreatDoorK22
set_option linter.unusedVariables false
set_option linter.unusedSimpArgs false
set_option maxRecDepth 100000
namespace Go.M
open Go.Proofs Go.RowKit
structure RfSt (w : World) (col : Col) (PP D B X n : Nat) (ops : Int) : Prop where
 n1 : 4 ≤ n
 n9 : n ≤ 9
 c0 : w.cell? ⟨PP, 0, none⟩ = some (.int .i64 ((n : Nat) : Int))
 c7 : w.cell? ⟨PP, 7, none⟩ = some (.pointer (some ⟨D, 0, none⟩))
 c8 : w.cell? ⟨PP, 8, none⟩ = some (.pointer (some ⟨B, 0, none⟩))
 c9 : w.cell? ⟨PP, 9, none⟩ = some (.pointer (some ⟨X, 0, none⟩))
 dev : ∃ s K S cap T M V, DevAt w col 1 D s K S cap T M V ∧ s.n = n ∧ s.ops = ops ∧ s.down = false
 t : TSl w (.pointer (some ⟨B, 0, none⟩)) n
 x : XSl w (.pointer (some ⟨X, 0, none⟩)) n
 rP : (col PP).1 ≠ 1
 rB : (col B).1 ≠ 1
 rX : (col X).1 ≠ 1
theorem RfSt.old {w w' : World} {col : Col} {PP D B X n : Nat} {ops : Int} (h : RfSt w col PP D B X n ops) (U : Old w w') : RfSt w' col PP D B X n ops := by
 obtain ⟨s, K, S, cap, T, M, V, hd, e⟩ := h.dev
 exact ⟨h.n1, h.n9, Old.cellOf' U h.c0, Old.cellOf' U h.c7, Old.cellOf' U h.c8, Old.cellOf' U h.c9, ⟨s, K, S, cap, T, M, V, hd.other U (fun b h => h.elim) (Kept.refl _ _), e⟩, h.t.old U, h.x.old U, h.rP, h.rB, h.rX⟩
theorem RfSt.st {w : World} {col : Col} {PP D B X n : Nat} {ops : Int} (h : RfSt w col PP D B X n ops) : DSt w D n ops false := by
 obtain ⟨s, K, S, cap, T, M, V, hd, rfl, rfl, e⟩ := h.dev
 obtain ⟨t, d⟩ := hd.fd
 rw [e] at d
 exact ⟨d.cell 2, d.cell 3, d.cell 4⟩
theorem TSl.upd {F : Nat → Prop} {w w' : World} {B n : Nat} (h : TSl w (.pointer (some ⟨B, 0, none⟩)) n) (U : Upd F w w') (hF : ¬ F B) : TSl w' (.pointer (some ⟨B, 0, none⟩)) n := by
 rcases h with ⟨h, _⟩ | ⟨B', r, h1, h2, h3⟩
 ·cases h
 ·cases h1
  exact .inr ⟨B, r, rfl, U.cellOf h2 hF, U.cellOf h3 hF⟩
theorem XSl.upd {F : Nat → Prop} {w w' : World} {B n : Nat} (h : XSl w (.pointer (some ⟨B, 0, none⟩)) n) (U : Upd F w w') (hF : ¬ F B) : XSl w' (.pointer (some ⟨B, 0, none⟩)) n := by
 rcases h with ⟨h, _⟩ | ⟨B', a, c, h1, h2⟩
 ·cases h
 ·cases h1
  exact .inr ⟨B, a, c, rfl, U.cellOf h2 hF⟩
end Go.M
