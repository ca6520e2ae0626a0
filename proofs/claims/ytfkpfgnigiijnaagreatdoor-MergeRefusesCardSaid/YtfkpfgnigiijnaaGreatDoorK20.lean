/- Walks 20. -/
import Derived.Test.YtfkpfgnigiijnaaGreatDoorProg
import Derived.Test.YtfkpfgnigiijnaaGreatDoorK17
import Derived.Test.YtfkpfgnigiijnaaGreatDoorK19
import Derived.Test.YtfkpfgnigiijnaaGreatDoorK16
set_option linter.unusedVariables false
set_option linter.unusedSimpArgs false
set_option maxRecDepth 100000
namespace Go.M
open Go.Proofs Go.RowKit
def DSt (w : World) (D n : Nat) (ops : Int) (down : Bool) : Prop := w.cell? ⟨D, 2, none⟩ = some (.int .i64 ((n : Nat) : Int)) ∧ w.cell? ⟨D, 3, none⟩ = some (.int .i64 ops) ∧ w.cell? ⟨D, 4, none⟩ = some (.bool down)
theorem DSt.old {w w' : World} {D n : Nat} {ops : Int} {down : Bool} (h : DSt w D n ops down) (U : Old w w') : DSt w' D n ops down := ⟨Old.cellOf' U h.1, Old.cellOf' U h.2.1, Old.cellOf' U h.2.2⟩
theorem ZpQ.st {F : Nat → Prop} {w : World} {D n : Nat} {ops : Int} (h : ZpQ F w D n ops) : DSt w D n ops true := by
 obtain ⟨K, T, tD, tT, _, _, h1, _⟩ := h;exact ⟨h1.cell 2, h1.cell 3, h1.cell 4⟩
theorem Zrl {w : World} {D n : Nat} {ops : Int} {down : Bool} (h : DSt w D n ops down) (hp : 0 < n) :
 Calls Tryz.prog 95 #[.pointer (some ⟨D, 0, none⟩)] w fun e w' => e = .returned (.int .i64 ((n : Nat) : Int)) ∧ w = w' := by
 obtain ⟨h2, h3, h4⟩ := h;have g1 : (0 : Int) < (n : Int) := by omega
 go_enter Tryz.func95, Tryz.ntmps95
 go_wp2;go_ret;exact ⟨rfl, rfl⟩
theorem ZvD {w : World} {D n : Nat} {ops : Int} {down : Bool} (h : DSt w D n ops down) (hp : 0 < n) :
 Calls Tryz.prog 14 #[.pointer (some ⟨D, 0, none⟩)] w fun e w' => e = .returned (.int .i64 ops) ∧ w = w' := by
 obtain ⟨h2, h3, h4⟩ := h;have g1 : (0 : Int) < (n : Int) := by omega
 go_enter Tryz.func14, Tryz.ntmps14
 go_wp2;go_ret;exact ⟨rfl, rfl⟩
theorem ZtX {w : World} {D n : Nat} {ops : Int} {down : Bool} (h : DSt w D n ops down) (hp : 0 < n) :
 Calls Tryz.prog 100 #[.pointer (some ⟨D, 0, none⟩)] w fun e w' => e = .returned (.bool down) ∧ w = w' := by
 obtain ⟨h2, h3, h4⟩ := h;have g1 : (0 : Int) < (n : Int) := by omega
 go_enter Tryz.func100, Tryz.ntmps100
 go_wp2;go_ret;exact ⟨rfl, rfl⟩
structure RfSt (w : World) (col : Col) (PP D B X n : Nat) (ops : Int) : Prop where
 n1 : 4 ≤ n
 n9 : n ≤ 9
 c0 : w.cell? ⟨PP, 0, none⟩ = some (.int .i64 ((n : Nat) : Int))
 c7 : w.cell? ⟨PP, 7, none⟩ = some (.pointer (some ⟨D, 0, none⟩))
 c8 : w.cell? ⟨PP, 8, none⟩ = some (.pointer (some ⟨B, 0, none⟩))
 c9 : w.cell? ⟨PP, 9, none⟩ = some (.pointer (some ⟨X, 0, none⟩))
 dev : ∃ s K S cap T M V, DevAt w col 1 D s K S cap T M V ∧ s.n = n ∧ s.ops = ops ∧ s.down = false
 t : TSl w (.pointer (some ⟨B, 0, none⟩)) n
 x : XSl w (.pointer (some ⟨X, 0, none⟩)) n
 rP : (col PP).1 ≠ 1
 rB : (col B).1 ≠ 1
 rX : (col X).1 ≠ 1
theorem RfSt.old {w w' : World} {col : Col} {PP D B X n : Nat} {ops : Int} (h : RfSt w col PP D B X n ops) (U : Old w w') : RfSt w' col PP D B X n ops := by
 obtain ⟨s, K, S, cap, T, M, V, hd, e⟩ := h.dev;exact ⟨h.n1, h.n9, Old.cellOf' U h.c0, Old.cellOf' U h.c7, Old.cellOf' U h.c8, Old.cellOf' U h.c9, ⟨s, K, S, cap, T, M, V, hd.other U (fun b h => h.elim) (Kept.refl _ _), e⟩, h.t.old U, h.x.old U, h.rP, h.rB, h.rX⟩
theorem RfSt.st {w : World} {col : Col} {PP D B X n : Nat} {ops : Int} (h : RfSt w col PP D B X n ops) : DSt w D n ops false := by
 obtain ⟨s, K, S, cap, T, M, V, hd, rfl, rfl, e⟩ := h.dev;obtain ⟨t, d⟩ := hd.fd;rw [e] at d;exact ⟨d.cell 2, d.cell 3, d.cell 4⟩
theorem ZwC {w wr : World} {k : Cf} {PP D B X it : Nat} (h : ZbX w k PP D B X it wr) : ∃ col ops, RfSt wr col PP D B X k.n ops ∧ (∀ b, b < w.heap.size → col b = (0, 0)) ∧ (∀ b, wr.heap.size ≤ b → col b = (0, 0)) ∧ Old w wr := by
 obtain ⟨col, next, used, act, lens, ops, hp, h1, h2, h3, h4⟩ := h;obtain ⟨t, p⟩ := hp.p;have hk : Kept wr col (fun b => if b < wr.heap.size then col b else (0, 0)) := fun b hb => by simp only; rw [if_pos hb]
 obtain ⟨s, K, S, cap, T, M, V, hd, e1, e2, e3, e4⟩ := hp.dev;obtain ⟨ts, Z, ht, a1, a2, a3⟩ := hp.tab;obtain ⟨tb, fb⟩ := ht.fB;obtain ⟨si, hi⟩ := hp.idx;obtain ⟨tx, fx⟩ := hi.fX;have s4 := h4.size;rw [a1] at fb;have hd2 := hd.other (Upd.refl (fun _ => False) wr) (fun b h => h.elim) hk
 refine ⟨_, _, ⟨hp.n4, hp.n9, p.cell 0, p.cell 7, p.cell 8, p.cell 9, ⟨s, K, S, cap, T, M, V, hd2, e1, rfl, e2⟩, .inr ⟨B, _, rfl, fb.cell 0, fb.cell 1⟩, .inr ⟨X, _, _, rfl, fx.cell 1⟩, ?_, ?_, ?_⟩, fun b hb => (by (try simp only); rw [if_pos (by omega), h3 b hb]), fun b hb => (by (try simp only); rw [if_neg (by omega)]), h4⟩
 ·(try simp only); rw [if_pos p.lt, hp.cP]; simp
 ·(try simp only); rw [if_pos fb.lt, ht.cB]; simp
 ·(try simp only); rw [if_pos fx.lt, hi.cX]; simp
theorem TSl.upd {F : Nat → Prop} {w w' : World} {B n : Nat} (h : TSl w (.pointer (some ⟨B, 0, none⟩)) n) (U : Upd F w w') (hF : ¬ F B) : TSl w' (.pointer (some ⟨B, 0, none⟩)) n := by
 rcases h with ⟨h, _⟩ | ⟨B', r, h1, h2, h3⟩
 ·cases h
 ·cases h1;exact .inr ⟨B, r, rfl, U.cellOf h2 hF, U.cellOf h3 hF⟩
theorem XSl.upd {F : Nat → Prop} {w w' : World} {B n : Nat} (h : XSl w (.pointer (some ⟨B, 0, none⟩)) n) (U : Upd F w w') (hF : ¬ F B) : XSl w' (.pointer (some ⟨B, 0, none⟩)) n := by
 rcases h with ⟨h, _⟩ | ⟨B', a, c, h1, h2⟩
 ·cases h
 ·cases h1;exact .inr ⟨B, a, c, rfl, U.cellOf h2 hF⟩
structure DnSt (w : World) (PP D B X n : Nat) (ops : Int) : Prop where
 c7 : w.cell? ⟨PP, 7, none⟩ = some (.pointer (some ⟨D, 0, none⟩))
 c8 : w.cell? ⟨PP, 8, none⟩ = some (.pointer (some ⟨B, 0, none⟩))
 c9 : w.cell? ⟨PP, 9, none⟩ = some (.pointer (some ⟨X, 0, none⟩))
 st : DSt w D n ops true
 t : TSl w (.pointer (some ⟨B, 0, none⟩)) n
 x : XSl w (.pointer (some ⟨X, 0, none⟩)) n
theorem DnSt.old {w w' : World} {PP D B X n : Nat} {ops : Int} (h : DnSt w PP D B X n ops) (U : Old w w') : DnSt w' PP D B X n ops :=
 ⟨Old.cellOf' U h.c7, Old.cellOf' U h.c8, Old.cellOf' U h.c9, h.st.old U, h.t.old U, h.x.old U⟩
end Go.M
