/- Walks 21. -/
import Derived.Test.YtfkpfgnigiijnaaGreatDoorProg
import Derived.Test.YtfkpfgnigiijnaaGreatDoorK1
import Derived.Deep.QuietTactic
import Derived.BigQuiet
import Derived.Test.YtfkpfgnigiijnaaGreatDoorK20
import Derived.Defers
import Derived.Recover
import Derived.Laws.Pointers
import Derived.Test.YtfkpfgnigiijnaaGreatDoorK13
import Derived.Laws.StructEq
set_option linter.unusedVariables false
set_option linter.unusedSimpArgs false
set_option maxRecDepth 100000
namespace Go.M
open Go.Proofs Go.RowKit
set_option linter.unusedSimpArgs false
def ZaD (n sz r wk ky vl po : Nat) (k : Nat) : Int × Int × Int := match k with
 | 0 => (r, 2, 8)
 | 1 => (n, (r : Int) + 2, 32)
 | 2 => (ky, 1, 32)
 | 3 => (vl, 0, 512)
 | 4 => (sz, (ky : Int) + vl + 32, 8192)
 | 5 => (wk, 2 * ((ky : Int) + vl + 32), 65536)
 | _ => (po, 1, 2)
theorem ZtY {w : World} {n sz r wk ky vl po : Nat} (hky : ky ≤ 1000) (hvl : vl ≤ 1000) :
 Calls Tryz.prog 131 #[.agg #[.int .i64 ((n : Nat) : Int), .int .i64 ((sz : Nat) : Int), .int .i64 ((r : Nat) : Int), .int .i64 ((wk : Nat) : Int), .int .i64 ((ky : Nat) : Int), .int .i64 ((vl : Nat) : Int), .int .i64 ((po : Nat) : Int)]] w fun e w' => e = .returned (.int .i64 ((16 + ky + vl : Nat) : Int)) ∧ Old w w' := by
 go_enter Tryz.func131, Tryz.ntmps131
 go_wp2;go_ret;exact ⟨by simp, (Upd.refl _ _).alloc _⟩
set_option maxHeartbeats 4000000 in
theorem Zsb {w : World} {n sz r wk ky vl po : Nat} (hn : n ≤ 100) (hsz : sz ≤ 100000) (hr : r ≤ 100) (hwk : wk ≤ 100000) (hky : ky ≤ 1000) (hvl : vl ≤ 1000) (hpo : po ≤ 10) {m : Nat} (hm7 : m ≤ 7) (hok : ∀ k, k < m → (ZaD n sz r wk ky vl po k).2.1 ≤ (ZaD n sz r wk ky vl po k).1 ∧ (ZaD n sz r wk ky vl po k).1 ≤ (ZaD n sz r wk ky vl po k).2.2)
 (hbad : m < 7 → (ZaD n sz r wk ky vl po m).1 < (ZaD n sz r wk ky vl po m).2.1) :
 Calls Tryz.prog 55 #[.agg #[.int .i64 ((n : Nat) : Int), .int .i64 ((sz : Nat) : Int), .int .i64 ((r : Nat) : Int), .int .i64 ((wk : Nat) : Int), .int .i64 ((ky : Nat) : Int), .int .i64 ((vl : Nat) : Int), .int .i64 ((po : Nat) : Int)]] w fun e w' => e = .returned (.int .i64 (if m = 7 then 0 else 2)) ∧ Old w w' := by
 have HOK := Lib.hid hok;have HBAD := Lib.hid hbad;clear hok hbad;obtain ⟨res, hres⟩ : ∃ res : Int, res = if m = 7 then 0 else 2 := ⟨_, rfl⟩
 rw [← hres];have HRES := Lib.hid hres;clear hres;have HRC := Lib.hid (fun W : World => ZtY (w := W) (n := n) (sz := sz) (r := r) (wk := wk) (po := po) hky hvl)
 obtain ⟨rc, hrc⟩ : ∃ rc : Nat, rc = 16 + ky + vl := ⟨_, rfl⟩;rw [← hrc] at HRC;have HHRC := Lib.hid hrc;have hw1 : IntKind.i64.wrap ((r : Int) + 2) = (r : Int) + 2 := IntWalk.i64_in _ (by omega)
 have hw2 : IntKind.i64.wrap (16 + (rc : Int)) = 16 + (rc : Int) := IntWalk.i64_in _ (by omega)
 have hw3 : IntKind.i64.wrap ((rc : Int) + 16) = (rc : Int) + 16 := IntWalk.i64_in _ (by omega)
 have hw4 : IntKind.i64.wrap (2 * ((rc : Int) + 16)) = 2 * ((rc : Int) + 16) := IntWalk.i64_in _ (by omega)
 clear hrc
 go_enter Tryz.func55, Tryz.ntmps55
 go_wp2;obtain ⟨W, hW⟩ : ∃ W, w.alloc (.cells #[.int .i64 ((n : Nat) : Int), .int .i64 ((sz : Nat) : Int), .int .i64 ((r : Nat) : Int), .int .i64 ((wk : Nat) : Int), .int .i64 ((ky : Nat) : Int), .int .i64 ((vl : Nat) : Int), .int .i64 ((po : Nat) : Int)] 36) = W := ⟨_, rfl⟩;have hO : Old w W := by rw [← hW]; exact (Upd.refl _ _).alloc _
 have hB : Has W w.heap.size 36 #[.int .i64 ((n : Nat) : Int), .int .i64 ((sz : Nat) : Int), .int .i64 ((r : Nat) : Int), .int .i64 ((wk : Nat) : Int), .int .i64 ((ky : Nat) : Int), .int .i64 ((vl : Nat) : Int), .int .i64 ((po : Nat) : Int)] := by rw [← hW]; exact Has.new w _ _
 have z : W.heap.size = w.heap.size + 1 := by rw [← hW]; simp
 have y0 : W.cell? ⟨w.heap.size, 0, none⟩ = some (.int .i64 ((n : Nat) : Int)) := hB.cell 0;have y1 : W.cell? ⟨w.heap.size, 1, none⟩ = some (.int .i64 ((sz : Nat) : Int)) := hB.cell 1;have y2 : W.cell? ⟨w.heap.size, 2, none⟩ = some (.int .i64 ((r : Nat) : Int)) := hB.cell 2;have y3 : W.cell? ⟨w.heap.size, 3, none⟩ = some (.int .i64 ((wk : Nat) : Int)) := hB.cell 3;have y4 : W.cell? ⟨w.heap.size, 4, none⟩ = some (.int .i64 ((ky : Nat) : Int)) := hB.cell 4;have y5 : W.cell? ⟨w.heap.size, 5, none⟩ = some (.int .i64 ((vl : Nat) : Int)) := hB.cell 5;have y6 : W.cell? ⟨w.heap.size, 6, none⟩ = some (.int .i64 ((po : Nat) : Int)) := hB.cell 6;rw [hW];clear hW;have P : Hid (∀ W1 : World, Old W W1 → W1.cell? ⟨w.heap.size, 0, none⟩ = some (.int .i64 ((n : Nat) : Int)) ∧ W1.cell? ⟨w.heap.size, 1, none⟩ = some (.int .i64 ((sz : Nat) : Int)) ∧ W1.cell? ⟨w.heap.size, 2, none⟩ = some (.int .i64 ((r : Nat) : Int)) ∧ W1.cell? ⟨w.heap.size, 3, none⟩ = some (.int .i64 ((wk : Nat) : Int)) ∧ W1.cell? ⟨w.heap.size, 4, none⟩ = some (.int .i64 ((ky : Nat) : Int)) ∧ W1.cell? ⟨w.heap.size, 5, none⟩ = some (.int .i64 ((vl : Nat) : Int)) ∧ W1.cell? ⟨w.heap.size, 6, none⟩ = some (.int .i64 ((po : Nat) : Int))) := fun W1 U => ⟨Old.cellOf' U y0, Old.cellOf' U y1, Old.cellOf' U y2, Old.cellOf' U y3, Old.cellOf' U y4, Old.cellOf' U y5, Old.cellOf' U y6⟩
 have HOc := Lib.hid ((Upd.refl (fun _ => False) W).drew)
 go_region_held3 (fun x => x.cell? ⟨w.heap.size, 0, none⟩ = some (.int .i64 ((n : Nat) : Int)) ∧ x.cell? ⟨w.heap.size, 1, none⟩ = some (.int .i64 ((sz : Nat) : Int)) ∧ x.cell? ⟨w.heap.size, 2, none⟩ = some (.int .i64 ((r : Nat) : Int)) ∧ x.cell? ⟨w.heap.size, 3, none⟩ = some (.int .i64 ((wk : Nat) : Int)) ∧ x.cell? ⟨w.heap.size, 4, none⟩ = some (.int .i64 ((ky : Nat) : Int)) ∧ x.cell? ⟨w.heap.size, 5, none⟩ = some (.int .i64 ((vl : Nat) : Int)) ∧ x.cell? ⟨w.heap.size, 6, none⟩ = some (.int .i64 ((po : Nat) : Int)))
  (first | go_keep | (exact QQ))
  (first | (go_at_call 131; refine (HRC.out _).mono ?_; rintro e w1 ⟨rfl, hU⟩; have hO1 := HOc.out.trans hU; clear HOc hU; have HOc := Lib.hid hO1; have QQ := P.out _ hO1; clear hO1))
 obtain ⟨W3, hW3⟩ : ∃ W3, w1.alloc (.cells #[.int .i64 ((r : Nat) : Int), .int .i64 2, .int .i64 8, .int .i64 ((n : Nat) : Int), .int .i64 ((r : Int) + 2), .int .i64 32, .int .i64 ((ky : Nat) : Int), .int .i64 1, .int .i64 32, .int .i64 ((vl : Nat) : Int), .int .i64 0, .int .i64 512, .int .i64 ((sz : Nat) : Int), .int .i64 (16 + (rc : Int)), .int .i64 8192, .int .i64 ((wk : Nat) : Int), .int .i64 (2 * ((rc : Int) + 16)), .int .i64 65536, .int .i64 ((po : Nat) : Int), .int .i64 1, .int .i64 2] 202) = W3 := ⟨_, rfl⟩;have hO3 : Old w W3 := by rw [← hW3]; exact (hO.trans HOc.out).alloc _
 have hB3 : Has W3 w1.heap.size 202 #[.int .i64 ((r : Nat) : Int), .int .i64 2, .int .i64 8, .int .i64 ((n : Nat) : Int), .int .i64 ((r : Int) + 2), .int .i64 32, .int .i64 ((ky : Nat) : Int), .int .i64 1, .int .i64 32, .int .i64 ((vl : Nat) : Int), .int .i64 0, .int .i64 512, .int .i64 ((sz : Nat) : Int), .int .i64 (16 + (rc : Int)), .int .i64 8192, .int .i64 ((wk : Nat) : Int), .int .i64 (2 * ((rc : Int) + 16)), .int .i64 65536, .int .i64 ((po : Nat) : Int), .int .i64 1, .int .i64 2] := by rw [← hW3]; exact Has.new w1 _ _
 have HS : Hid (∀ k : Nat, k < 7 → W3.cell? ⟨w1.heap.size, k * 3, none⟩ = some (.int .i64 (ZaD n sz r wk ky vl po k).1) ∧ W3.cell? ⟨w1.heap.size, k * 3 + 1, none⟩ = some (.int .i64 (ZaD n sz r wk ky vl po k).2.1) ∧ W3.cell? ⟨w1.heap.size, k * 3 + 2, none⟩ = some (.int .i64 (ZaD n sz r wk ky vl po k).2.2)) := fun k hk => by
  have e := HHRC.out;rcases k with _ | _ | _ | _ | _ | _ | _ | k
  ·exact ⟨hB3.cell 0, hB3.cell 1, hB3.cell 2⟩
  ·exact ⟨hB3.cell 3, hB3.cell 4, hB3.cell 5⟩
  ·exact ⟨hB3.cell 6, hB3.cell 7, hB3.cell 8⟩
  ·exact ⟨hB3.cell 9, hB3.cell 10, hB3.cell 11⟩
  ·refine ⟨hB3.cell 12, ?_, hB3.cell 14⟩;rw [hB3.cell 13]; simp [ZaD]; omega
  ·refine ⟨hB3.cell 15, ?_, hB3.cell 17⟩;rw [hB3.cell 16]; simp [ZaD]; omega
  ·exact ⟨hB3.cell 18, hB3.cell 19, hB3.cell 20⟩
  ·omega
 rw [hW3];clear hW3 hB3 hw1 hw2 hw3 hw4 P QQ HRC HHRC;go_wp2;have HO3 := Lib.hid hO3;clear hO3 hO hB y0 y1 y2 y3 y4 y5 y6 HOc hn hsz hr hwk hky hvl hpo;generalize ZaD n sz r wk ky vl po = sp at HS HOK HBAD
 go_loopw [2, 38] (fun rr i wr => ∃ k : Nat, k ≤ m ∧ rr = .int .i64 0 ∧ i = .int .i64 k ∧ Old W3 wr) (fun _ i _ => 7 - (intOf i).toNat)
 case atStart => exact ⟨0, Nat.zero_le _, rfl, rfl, Upd.refl _ _⟩
 case round =>
  obtain ⟨k, hk, rfl, rfl, hU⟩ := hrel;have HU := Lib.hid hU
  by_cases h7 : k = 7
  ·subst h7;obtain rfl : m = 7 := by omega
   have hres := HRES.out;rw [if_pos rfl] at hres;subst hres;clear hU;go_wp2;go_ret;exact ⟨rfl, HO3.out.trans HU.out⟩
  ·obtain ⟨s0, s1, s2⟩ := HS.out k (by omega)
   have e0 := Old.cellOf' hU s0;have e1 := Old.cellOf' hU s1;have e2 := Old.cellOf' hU s2;have g0 : ((k : Nat) : Int) < 7 := by omega
   by_cases hkm : k < m
   ·obtain ⟨a1, a2⟩ := HOK.out k hkm;have b1 : ¬ ((sp k).1 < (sp k).2.1) := by omega
    have b2 : ¬ ((sp k).2.2 < (sp k).1) := by omega
    clear hU s0 s1 s2 a1 a2;go_wp2
    go_roundw
    case rel => exact ⟨k + 1, by omega, rfl, by simp, HU.out.alloc _⟩
    case measure => simp [intOf]; omega
   ·obtain rfl : k = m := by omega
    have b1 := HBAD.out (by omega)
    have hres := HRES.out;rw [if_neg h7] at hres;subst hres;clear hU s0 s1 s2;go_wp2;go_ret;exact ⟨rfl, (HO3.out.trans HU.out).alloc _⟩
end Go.M
namespace Go.M
open Go.Proofs Go.RowKit
set_option linter.unusedSimpArgs false
def ZtZ (w : World) (n : Nat) (e : Ending) (w' : World) : Prop := ∃ R t, e = .returned (.tuple #[.pointer (some ⟨R, 0, none⟩), .int .i64 0]) ∧ w.heap.size ≤ R ∧ Has w' R t #[.int .i64 ((n : Nat) : Int), .int .u32 0, .int .i64 0] ∧ Old w w'
def Zt0 (w : World) (e : Ending) (w' : World) : Prop := ∃ R t, e = .returned (.pointer (some ⟨R, 0, none⟩)) ∧ w.heap.size ≤ R ∧ Has w' R t #[.bool true, .bool false, .int .i64 0, .int .i64 0] ∧ Old w w'
def Zrm (w : World) (G n : Nat) : Prop := ∃ (R C : Nat) (tg tr tc : TypeId) (sz r wk ky vl po : Nat), Has w G tg #[.int .i64 ((n : Nat) : Int), .int .i64 ((sz : Nat) : Int), .int .i64 ((r : Nat) : Int), .int .i64 ((wk : Nat) : Int), .int .i64 ((ky : Nat) : Int), .int .i64 ((vl : Nat) : Int), .int .i64 ((po : Nat) : Int), .pointer (some ⟨R, 0, none⟩), .pointer (some ⟨C, 0, none⟩)] ∧ Has w R tr #[.int .i64 ((n : Nat) : Int), .int .u32 0, .int .i64 0] ∧ Has w C tc #[.bool true, .bool false, .int .i64 0, .int .i64 0]
theorem Zrm.old {w w' : World} {G n : Nat} (h : Zrm w G n) (U : Old w w') : Zrm w' G n := by
 obtain ⟨R, C, tg, tr, tc, sz, r, wk, ky, vl, po, h1, h2, h3⟩ := h;exact ⟨R, C, tg, tr, tc, sz, r, wk, ky, vl, po, U.has h1, U.has h2, U.has h3⟩
def MgB (lo : Nat) (w : World) (G n : Nat) : Prop := ∃ (R C : Nat) (tg tr tc : TypeId) (sz r wk ky vl po : Nat), Has w G tg #[.int .i64 ((n : Nat) : Int), .int .i64 ((sz : Nat) : Int), .int .i64 ((r : Nat) : Int), .int .i64 ((wk : Nat) : Int), .int .i64 ((ky : Nat) : Int), .int .i64 ((vl : Nat) : Int), .int .i64 ((po : Nat) : Int), .pointer (some ⟨R, 0, none⟩), .pointer (some ⟨C, 0, none⟩)] ∧ Has w R tr #[.int .i64 ((n : Nat) : Int), .int .u32 0, .int .i64 0] ∧ Has w C tc #[.bool true, .bool false, .int .i64 0, .int .i64 0] ∧ lo ≤ G ∧ lo ≤ R ∧ lo ≤ C
theorem MgB.at {lo : Nat} {w : World} {G n : Nat} (h : MgB lo w G n) : Zrm w G n := by
 obtain ⟨R, C, tg, tr, tc, sz, r, wk, ky, vl, po, h1, h2, h3, _⟩ := h;exact ⟨R, C, tg, tr, tc, sz, r, wk, ky, vl, po, h1, h2, h3⟩
theorem MgB.low {lo lo' : Nat} {w : World} {G n : Nat} (h : MgB lo w G n) (hl : lo' ≤ lo) : MgB lo' w G n := by
 obtain ⟨R, C, tg, tr, tc, sz, r, wk, ky, vl, po, h1, h2, h3, l1, l2, l3⟩ := h;exact ⟨R, C, tg, tr, tc, sz, r, wk, ky, vl, po, h1, h2, h3, by omega, by omega, by omega⟩
theorem MgB.upd {lo : Nat} {F : Nat → Prop} {w w' : World} {G n : Nat} (h : MgB lo w G n) (U : Upd F w w') (hF : ∀ b, lo ≤ b → ¬ F b) : MgB lo w' G n := by
 obtain ⟨R, C, tg, tr, tc, sz, r, wk, ky, vl, po, h1, h2, h3, l1, l2, l3⟩ := h;exact ⟨R, C, tg, tr, tc, sz, r, wk, ky, vl, po, U.has h1 (hF _ l1), U.has h2 (hF _ l2), U.has h3 (hF _ l3), l1, l2, l3⟩
def ZpJ (w : World) (n : Nat) (e : Ending) (w' : World) : Prop := ∃ G, e = .returned (.tuple #[.pointer (some ⟨G, 0, none⟩), .int .i64 0]) ∧ MgB w.heap.size w' G n ∧ Old w w'
theorem rnew {w : World} {n : Nat} (h1 : 1 ≤ n) (h2 : n ≤ 32) :
 Calls Tryz.prog 56 #[.int .i64 ((n : Nat) : Int)] w (ZtZ w n) := by
 have g1 : ¬ ((n : Int) < 1) := by omega
 have g2 : ¬ ((32 : Int) < (n : Int)) := by omega
 go_enter Tryz.func56, Tryz.ntmps56
 go_wp2;go_ret2;exact ⟨_, _, rfl, Nat.le_refl _, Has.new w _ _, (Upd.refl _ _).alloc _⟩
theorem ZvE {w : World} : Calls Tryz.prog 57 #[] w (Zt0 w) := by
 go_enter Tryz.func57, Tryz.ntmps57
 go_wp2;go_ret;exact ⟨_, _, rfl, Nat.le_refl _, Has.new w _ _, (Upd.refl _ _).alloc _⟩
set_option maxHeartbeats 2000000 in
theorem Zxh {w : World} {n sz r wk ky vl po : Nat} (hn : n ≤ 32) (hsz : sz ≤ 100000) (hr : r ≤ 100) (hwk : wk ≤ 100000) (hky : ky ≤ 1000) (hvl : vl ≤ 1000) (hpo : po ≤ 10) (hn1 : 1 ≤ n)
 (hok : ∀ k, k < 7 → (ZaD n sz r wk ky vl po k).2.1 ≤ (ZaD n sz r wk ky vl po k).1 ∧ (ZaD n sz r wk ky vl po k).1 ≤ (ZaD n sz r wk ky vl po k).2.2) :
 Calls Tryz.prog 16 #[.agg (#[.int .i64 ((n : Nat) : Int), .int .i64 ((sz : Nat) : Int), .int .i64 ((r : Nat) : Int), .int .i64 ((wk : Nat) : Int), .int .i64 ((ky : Nat) : Int), .int .i64 ((vl : Nat) : Int), .int .i64 ((po : Nat) : Int)])] w (ZpJ w n) := by
 have HC : Hid (∀ W : World, Calls Tryz.prog 55 #[.agg (#[.int .i64 ((n : Nat) : Int), .int .i64 ((sz : Nat) : Int), .int .i64 ((r : Nat) : Int), .int .i64 ((wk : Nat) : Int), .int .i64 ((ky : Nat) : Int), .int .i64 ((vl : Nat) : Int), .int .i64 ((po : Nat) : Int)])] W fun e w' => e = .returned (.int .i64 0) ∧ Old W w') := fun W =>
  Zsb (w := W) (by omega) hsz hr hwk hky hvl hpo (Nat.le_refl 7) hok (fun h => absurd h (by omega))
 have HR := Lib.hid (fun W : World => rnew (w := W) hn1 hn)
 have HK := Lib.hid (fun W : World => ZvE (w := W))
 clear hok hn hsz hr hwk hky hvl hpo hn1
 go_enter Tryz.func16, Tryz.ntmps16
 have HB : Hid (∀ W1 : World, Old (w.alloc (.cells #[.int .i64 ((n : Nat) : Int), .int .i64 ((sz : Nat) : Int), .int .i64 ((r : Nat) : Int), .int .i64 ((wk : Nat) : Int), .int .i64 ((ky : Nat) : Int), .int .i64 ((vl : Nat) : Int), .int .i64 ((po : Nat) : Int)] 36)) W1 → Has W1 w.heap.size 36 #[.int .i64 ((n : Nat) : Int), .int .i64 ((sz : Nat) : Int), .int .i64 ((r : Nat) : Int), .int .i64 ((wk : Nat) : Int), .int .i64 ((ky : Nat) : Int), .int .i64 ((vl : Nat) : Int), .int .i64 ((po : Nat) : Int)]) := fun W1 U => U.has (Has.new w _ _)
 go_wp2_with (first | (go_at_call 55; refine (HC.out _).mono ?_; rintro e w1 ⟨rfl, hU⟩; have b := HB.out _ hU; have y0 : w1.cell? ⟨w.heap.size, 0, none⟩ = some (.int .i64 ((n : Nat) : Int)) := b.cell 0; clear b; have HU1 := Lib.hid hU; clear hU) | (go_at_call 56; refine (HR.out _).mono ?_; rintro e w2 ⟨R, tr, rfl, hR1, hR2, hU⟩; have HR1 := Lib.hid hR1; have HR2 := Lib.hid hR2; have HU2 := Lib.hid hU; clear hR1 hR2 hU y0))
 have hOB := HU1.out.trans HU2.out;have b := HB.out _ hOB;have P : Hid (∀ W1 : World, Old w2 W1 → W1.cell? ⟨w.heap.size, 0, none⟩ = some (.int .i64 ((n : Nat) : Int)) ∧ W1.cell? ⟨w.heap.size, 1, none⟩ = some (.int .i64 ((sz : Nat) : Int)) ∧ W1.cell? ⟨w.heap.size, 2, none⟩ = some (.int .i64 ((r : Nat) : Int)) ∧ W1.cell? ⟨w.heap.size, 3, none⟩ = some (.int .i64 ((wk : Nat) : Int)) ∧ W1.cell? ⟨w.heap.size, 4, none⟩ = some (.int .i64 ((ky : Nat) : Int)) ∧ W1.cell? ⟨w.heap.size, 5, none⟩ = some (.int .i64 ((vl : Nat) : Int)) ∧ W1.cell? ⟨w.heap.size, 6, none⟩ = some (.int .i64 ((po : Nat) : Int))) := fun W1 U => ⟨(U.has b).cell 0, (U.has b).cell 1, (U.has b).cell 2, (U.has b).cell 3, (U.has b).cell 4, (U.has b).cell 5, (U.has b).cell 6⟩
 obtain ⟨y0, y1, y2, y3, y4, y5, y6⟩ := P.out _ (Upd.refl _ _);have HOB := Lib.hid hOB;clear b hOB
 go_region_held3 (fun x => x.cell? ⟨w.heap.size, 0, none⟩ = some (.int .i64 ((n : Nat) : Int)) ∧ x.cell? ⟨w.heap.size, 1, none⟩ = some (.int .i64 ((sz : Nat) : Int)) ∧ x.cell? ⟨w.heap.size, 2, none⟩ = some (.int .i64 ((r : Nat) : Int)) ∧ x.cell? ⟨w.heap.size, 3, none⟩ = some (.int .i64 ((wk : Nat) : Int)) ∧ x.cell? ⟨w.heap.size, 4, none⟩ = some (.int .i64 ((ky : Nat) : Int)) ∧ x.cell? ⟨w.heap.size, 5, none⟩ = some (.int .i64 ((vl : Nat) : Int)) ∧ x.cell? ⟨w.heap.size, 6, none⟩ = some (.int .i64 ((po : Nat) : Int)))
  (first | go_keep | (exact QQ))
  (first | (go_at_call 57; refine (HK.out _).mono ?_; rintro e w3 ⟨C, tc, rfl, hC1, hC2, hU⟩; have HC1 := Lib.hid hC1; have HC2 := Lib.hid hC2; have hO3 := ((Upd.refl _ w2).drew).trans hU; have QQ := P.out _ hO3; have HU3 := Lib.hid hO3; clear hC1 hC2 hU hO3))
 go_wp2;go_ret2;have s1 := (((Upd.refl (fun _ => False) w).alloc (.cells #[.int .i64 ((n : Nat) : Int), .int .i64 ((sz : Nat) : Int), .int .i64 ((r : Nat) : Int), .int .i64 ((wk : Nat) : Int), .int .i64 ((ky : Nat) : Int), .int .i64 ((vl : Nat) : Int), .int .i64 ((po : Nat) : Int)] 36)).trans HOB.out).trans HU3.out
 have q1 := HU1.out.size;have q2 := HU2.out.size;have q3 := HR1.out;have q4 := HC1.out;simp at q1 q2 q3 q4;exact ⟨_, rfl, ⟨R, C, _, _, _, sz, r, wk, ky, vl, po, Has.new w3 _ _, (Old.has HU3.out HR2.out).alloc _, HC2.out.alloc _, s1.size, by omega, by omega⟩, s1.alloc _⟩
theorem Zrn {w : World} {n sz r wk ky vl po : Nat} (hn : n ≤ 32) (hsz : sz ≤ 100000) (hr : r ≤ 100) (hwk : wk ≤ 100000) (hky : ky ≤ 1000) (hvl : vl ≤ 1000) (hpo : po ≤ 10)
 (hok : ∀ k, k < 5 → (ZaD n sz r wk ky vl po k).2.1 ≤ (ZaD n sz r wk ky vl po k).1 ∧ (ZaD n sz r wk ky vl po k).1 ≤ (ZaD n sz r wk ky vl po k).2.2) (hb : wk < 2 * (ky + vl + 32)) :
 Calls Tryz.prog 16 #[.agg (#[.int .i64 ((n : Nat) : Int), .int .i64 ((sz : Nat) : Int), .int .i64 ((r : Nat) : Int), .int .i64 ((wk : Nat) : Int), .int .i64 ((ky : Nat) : Int), .int .i64 ((vl : Nat) : Int), .int .i64 ((po : Nat) : Int)])] w fun e w' => e = .returned (.tuple #[.pointer none, .int .i64 2]) ∧ Old w w' := by
 have HC : Hid (∀ W : World, Calls Tryz.prog 55 #[.agg (#[.int .i64 ((n : Nat) : Int), .int .i64 ((sz : Nat) : Int), .int .i64 ((r : Nat) : Int), .int .i64 ((wk : Nat) : Int), .int .i64 ((ky : Nat) : Int), .int .i64 ((vl : Nat) : Int), .int .i64 ((po : Nat) : Int)])] W fun e w' => e = .returned (.int .i64 2) ∧ Old W w') := fun W =>
  Zsb (w := W) (by omega) hsz hr hwk hky hvl hpo (m := 5) (by omega) hok (fun _ => by simp only [ZaD]; omega)
 clear hok hn hsz hr hwk hky hvl hpo hb
 go_enter Tryz.func16, Tryz.ntmps16
 go_wp2_with (first | (go_at_call 55; refine (HC.out _).mono ?_; rintro e w1 ⟨rfl, hU⟩; have HU1 := Lib.hid hU; clear hU))
 go_ret2;exact ⟨rfl, ((Upd.refl _ _).alloc _).trans HU1.out⟩
theorem ZvF {w : World} {G n : Nat} (h : Zrm w G n) : Calls Tryz.prog 20 #[.pointer (some ⟨G, 0, none⟩)] w fun e w' => e = .returned (.bool false) ∧ Old w w' := by
 obtain ⟨R, C, tg, tr, tc, sz, r, wk, ky, vl, po, h1, h2, h3⟩ := h;have a7 : w.cell? ⟨G, 7, none⟩ = some (.pointer (some ⟨R, 0, none⟩)) := h1.cell 7;have a8 : w.cell? ⟨G, 8, none⟩ = some (.pointer (some ⟨C, 0, none⟩)) := h1.cell 8;have b0 : w.cell? ⟨C, 0, none⟩ = some (.bool true) := h3.cell 0;have b1 : w.cell? ⟨C, 1, none⟩ = some (.bool false) := h3.cell 1;have b2 : w.cell? ⟨C, 2, none⟩ = some (.int .i64 0) := h3.cell 2
 go_enter Tryz.func20, Tryz.ntmps20
 go_wp2
 go_quiet (fail)
 go_wp2;go_ret;exact ⟨rfl, (Upd.refl _ _).drewN _⟩
theorem Zro {w : World} {G n : Nat} (h : Zrm w G n) (hn : 1 ≤ n) : Calls Tryz.prog 21 #[.pointer (some ⟨G, 0, none⟩)] w fun e w' => e = .returned (.int .i64 0) ∧ w = w' := by
 obtain ⟨R, C, tg, tr, tc, sz, r, wk, ky, vl, po, h1, h2, h3⟩ := h;have a7 : w.cell? ⟨G, 7, none⟩ = some (.pointer (some ⟨R, 0, none⟩)) := h1.cell 7;have b0 : w.cell? ⟨R, 0, none⟩ = some (.int .i64 ((n : Nat) : Int)) := h2.cell 0;have b2 : w.cell? ⟨R, 2, none⟩ = some (.int .i64 0) := h2.cell 2;have g1 : (0 : Int) < (n : Int) := by omega
 have g2 : 0 < n := by omega
 go_enter Tryz.func21, Tryz.ntmps21
 go_wp2;go_ret;exact ⟨rfl, rfl⟩
end Go.M
namespace Go.M
open Go.Proofs Go.RowKit
set_option linter.unusedSimpArgs false
theorem Zne {w : World} {z : Int} (hz : (z == 0) = false) : Calls Tryz.prog 67 #[.int .i64 z] w fun e w' => e = .panicked [{ v := .iface 130 (.agg #[.int .i64 z]), recovered := false }] ∧ w = w' := by
 have g : ¬ z = 0 := by simpa using hz
 go_enter Tryz.func67, Tryz.ntmps67
 go_wp2;exact ⟨rfl, rfl, rfl⟩
def Zxi (w : World) (Wk G D B X : Nat) : Prop := ∃ t, Has w Wk t #[.pointer (some ⟨G, 0, none⟩), .pointer (some ⟨D, 0, none⟩), .pointer (some ⟨B, 0, none⟩), .pointer (some ⟨X, 0, none⟩), .int .i64 0, .int .i64 0]
def dies (z : Int) (e : Ending) : Prop := e = .panicked [{ v := .iface 130 (.agg #[.int .i64 z]), recovered := false }]
theorem Zt1 {w : World} {G R : Nat} (a7 : w.cell? ⟨G, 7, none⟩ = some (.pointer (some ⟨R, 0, none⟩))) : Calls Tryz.prog 70 #[.pointer (some ⟨G, 0, none⟩)] w fun e w' => e = .returned (.bool true) ∧ w = w' := by
 go_enter Tryz.func70, Tryz.ntmps70
 go_wp2;go_ret;exact ⟨rfl, rfl⟩
def Zjl (z : Int) (dn bn xn gn : Nat) (policy next : Int) (down : Bool) : Prop :=
 (z = 2 ∧ ¬ dn = bn) ∨ (z = 2 ∧ dn = bn ∧ ¬ xn = bn) ∨ (z = 2 ∧ dn = bn ∧ xn = bn ∧ ¬ gn = bn) ∨ (z = 2 ∧ dn = bn ∧ xn = bn ∧ gn = bn ∧ policy < 1) ∨ (z = 2 ∧ dn = bn ∧ xn = bn ∧ gn = bn ∧ 1 ≤ policy ∧ 2 < policy) ∨
 (z = 2 ∧ dn = bn ∧ xn = bn ∧ gn = bn ∧ 1 ≤ policy ∧ policy ≤ 2 ∧ next < 1) ∨ (z = 2 ∧ dn = bn ∧ xn = bn ∧ gn = bn ∧ 1 ≤ policy ∧ policy ≤ 2 ∧ 1 ≤ next ∧ 1099511627776 < next) ∨ (z = 13 ∧ dn = bn ∧ xn = bn ∧ gn = bn ∧ 1 ≤ policy ∧ policy ≤ 2 ∧ 1 ≤ next ∧ next ≤ 1099511627776 ∧ down = true)
theorem Zjl.ne {z : Int} {dn bn xn gn : Nat} {policy next : Int} {down : Bool} (h : Zjl z dn bn xn gn policy next down) : (z == 0) = false := by
 rcases h with ⟨rfl, _⟩ | ⟨rfl, _⟩ | ⟨rfl, _⟩ | ⟨rfl, _⟩ | ⟨rfl, _⟩ | ⟨rfl, _⟩ | ⟨rfl, _⟩ | ⟨rfl, _⟩ <;> rfl
set_option maxHeartbeats 4000000 in
theorem ZvG {w : World} {Wk G D B X gn dn bn xn : Nat} {ops policy next : Int} {down : Bool} (hw : Zxi w Wk G D B X) (hg : Zrm w G gn) (hd : DSt w D dn ops down) (ht : TSl w (.pointer (some ⟨B, 0, none⟩)) bn) (hx : XSl w (.pointer (some ⟨X, 0, none⟩)) xn)
 (h1 : 0 < dn) (h2 : 0 < bn) (h3 : 0 < xn) (h4 : bn ≤ 100) (h5 : xn ≤ 100) {z : Int} (hz : Zjl z dn bn xn gn policy next down) :
 Calls Tryz.prog 63 #[.pointer (some ⟨Wk, 0, none⟩), .int .i64 policy, .int .i64 next] w fun e w' => dies z e ∧ Old w w' := by
 have HD := Lib.hid (fun (w' : World) (U : Old w w') => Zrl (hd.old U) h1)
 have HX := Lib.hid (fun (w' : World) (U : Old w w') => ZtP (hx.old U) h5)
 have HT := Lib.hid (ZtO ht h4);have HO := Lib.hid (fun (w' : World) (U : Old w w') => ZtX (hd.old U) h1)
 have HN := Lib.hid (fun (w' : World) => Zne (w := w') (z := z) (hz.ne))
 obtain ⟨tw, hw⟩ := hw;obtain ⟨R, C, tg, tr, tc, sz, r, wk, ky, vl, po, k1, k2, k3⟩ := hg;have P : Hid (∀ W : World, Old w W → W.cell? ⟨Wk, 0, none⟩ = some (.pointer (some ⟨G, 0, none⟩)) ∧ W.cell? ⟨Wk, 1, none⟩ = some (.pointer (some ⟨D, 0, none⟩)) ∧ W.cell? ⟨Wk, 2, none⟩ = some (.pointer (some ⟨B, 0, none⟩)) ∧ W.cell? ⟨Wk, 3, none⟩ = some (.pointer (some ⟨X, 0, none⟩)) ∧ W.cell? ⟨G, 0, none⟩ = some (.int .i64 ((gn : Nat) : Int)) ∧ W.cell? ⟨G, 7, none⟩ = some (.pointer (some ⟨R, 0, none⟩))) := fun W U =>
  ⟨(U.has hw).cell 0, (U.has hw).cell 1, (U.has hw).cell 2, (U.has hw).cell 3, (U.has k1).cell 0, (U.has k1).cell 7⟩
 obtain ⟨a0, a1, a2, a3, a4, a5⟩ := P.out _ (Upd.refl _ _);have g1 : ((dn : Int) == 0) = false := by rw [beq_eq_false_iff_ne]; omega
 have g2 : ((bn : Int) == 0) = false := by rw [beq_eq_false_iff_ne]; omega
 have g3 : ((xn : Int) == 0) = false := by rw [beq_eq_false_iff_ne]; omega
 clear hw hd ht hx h1 h2 h3 h4 h5 k1 k2 k3;rcases hz with ⟨rfl, h⟩ | ⟨rfl, h, h'⟩ | ⟨rfl, h, h', h''⟩ | ⟨rfl, h, h', h'', hp⟩ | ⟨rfl, h, h', h'', hp, hp'⟩ | ⟨rfl, h, h', h'', hp, hp', hq⟩ | ⟨rfl, h, h', h'', hp, hp', hq, hq'⟩ | ⟨rfl, h, h', h'', hp, hp', hq, hq', hdn⟩
 all_goals
  (try have g4 : ((dn : Int) == (bn : Int)) = false := by rw [beq_eq_false_iff_ne]; omega)
  (try have g4 : ((dn : Int) == (bn : Int)) = true := by rw [beq_iff_eq]; omega)
  (try have g5 : ((xn : Int) == (bn : Int)) = false := by rw [beq_eq_false_iff_ne]; omega)
  (try have g5 : ((xn : Int) == (bn : Int)) = true := by rw [beq_iff_eq]; omega)
  (try have g6 : ((gn : Int) == (bn : Int)) = false := by rw [beq_eq_false_iff_ne]; omega)
  (try have g6 : ((gn : Int) == (bn : Int)) = true := by rw [beq_iff_eq]; omega)
  (try subst h)
  (try subst h')
  (try subst h'')
  (try subst hdn)
  go_enter Tryz.func63, Tryz.ntmps63
  go_wp2_with (first | (go_at_call 70; refine (Zt1 c5).mono ?_; rintro e w2 ⟨rfl, rfl⟩) | (go_at_call 77; refine HT.out.mono ?_; rintro e w1 ⟨r', rfl, hU⟩; obtain ⟨c0, c1, c2, c3, c4, c5⟩ := P.out _ hU; have HU := Lib.hid hU; clear hU a0 a1 a2 a3 a4 a5) | (go_at_call 95; refine (HD.out _ HU.out).mono ?_; rintro e w2 ⟨rfl, rfl⟩) | (go_at_call 94; refine (HX.out _ HU.out).mono ?_; rintro e w2 ⟨rfl, rfl⟩) | (go_at_call 100; refine (HO.out _ HU.out).mono ?_; rintro e w2 ⟨rfl, rfl⟩) | (go_at_call 67; refine (HN.out _).mono ?_; rintro e w3 ⟨rfl, rfl⟩))
  exact ⟨rfl, rfl, HU.out⟩
end Go.M
namespace Go.M
open Go.Proofs Go.RowKit
set_option linter.unusedSimpArgs false
theorem Zrp (v : Value) (w : World) : (Instr.typeAssert (.iface 130 v) 20 130 true).run Tryz.prog w = .ok (.tuple #[v, .bool true]) w := by kernel_rfl
theorem ZwD : (Array.replicate 16 undef : Array Value) = #[undef, undef, undef, undef, undef, undef, undef, undef, undef, undef, undef, undef, undef, undef, undef, undef] := rfl
set_option maxHeartbeats 4000000 in
theorem Zkz (a b : Nat) (z zn ze : Int) (older : List PanicEntry) (w : World) (hn : w.cell? ⟨a, 0, none⟩ = some (.int .i64 zn)) (he : w.cell? ⟨b, 0, none⟩ = some (.int .i64 ze)) (fn : w.frozen? ⟨a, 0, none⟩ = false) (fe : w.frozen? ⟨b, 0, none⟩ = false) (hab : a ≠ b) :
 CallsD Tryz.prog 62 #[.pointer (some ⟨a, 0, none⟩), .pointer (some ⟨b, 0, none⟩)] (.panicking ({ v := .iface 130 (.agg #[.int .i64 z]), recovered := false } :: older)) w fun e u' w' =>
  e = .returned (.tuple #[]) ∧ u' = .panicking ({ v := .iface 130 (.agg #[.int .i64 z]), recovered := true } :: older) ∧ w'.cell? ⟨a, 0, none⟩ = some (.int .i64 0) ∧ w'.cell? ⟨b, 0, none⟩ = some (.int .i64 z) ∧ Upd (fun k => k = a ∨ k = b) w w' := by
 refine callsD_of_wpS Tryz.func62 rfl fun c₀ cs hu => ?_
 apply wpS_seq;apply wpS_region;simp [wpOpsS, go_sem, recoverD, hu, Tryz.ntmps62, Exit.thenS];refine wpS_of_wp ?_;have hta := Zrp;rw [ZwD];simp only [List.setIfInBounds_toArray, List.set_cons_zero, List.set_cons_succ, List.append_toArray, List.cons_append, List.nil_append];go_wp2;obtain ⟨W, hW⟩ : ∃ W, w.alloc (.cells #[.int .i64 z] 130) = W := ⟨_, rfl⟩;have la := block_lt_of_cell hn;have lb := block_lt_of_cell he;simp only at la lb;have hO : Old w W := by rw [← hW]; exact (Upd.refl _ _).alloc _
 have y0 : W.cell? ⟨w.heap.size, 0, none⟩ = some (.int .i64 z) := by rw [← hW]; exact (Has.new w _ _).cell 0
 have hz : W.heap.size = w.heap.size + 1 := by rw [← hW]; simp
 have ea := Old.cellOf' hO hn;have eb := Old.cellOf' hO he;have fa := Old.frz hO la fn;have fb := Old.frz hO lb fe;have na : a ≠ w.heap.size := by omega
 have nb : b ≠ w.heap.size := by omega
 rw [hW];clear hW hn he fn fe
 go_region_held3 (fun x => x.cell? ⟨w.heap.size, 0, none⟩ = some (.int .i64 z)) (first | go_keep) (fail)
 have r1 : ((W.setCell ⟨a, 0, none⟩ (.int .i64 0)).setCell ⟨b, 0, none⟩ (.int .i64 z)).drew.cell? ⟨a, 0, none⟩ = some (.int .i64 0) := Zap hab (World.cell?_setCell_same' _ _ _ (by rw [ea]; rfl))
 have r2 : ((W.setCell ⟨a, 0, none⟩ (.int .i64 0)).setCell ⟨b, 0, none⟩ (.int .i64 z)).drew.cell? ⟨b, 0, none⟩ = some (.int .i64 z) := World.cell?_setCell_same' _ _ _ (by rw [Zap (Ne.symm hab) eb]; rfl)
 have r3 : Upd (fun k => k = a ∨ k = b) w ((W.setCell ⟨a, 0, none⟩ (.int .i64 0)).setCell ⟨b, 0, none⟩ (.int .i64 z)).drew := Upd.drew (((hO.mono (fun _ _ h => h.elim)).setCell _ _ (.inl (.inl rfl))).setCell _ _ (.inl (.inr rfl)))
 exact ⟨rfl, _, rfl, _, results_none rfl _ _ _, rfl, rfl, r1, r2, r3⟩
theorem Zsc {w : World} {G D B X gn dn bn xn : Nat} {ops policy next z : Int} {down : Bool} (hg : Zrm w G gn) (hd : DSt w D dn ops down) (ht : TSl w (.pointer (some ⟨B, 0, none⟩)) bn) (hx : XSl w (.pointer (some ⟨X, 0, none⟩)) xn)
 (h1 : 0 < dn) (h2 : 0 < bn) (h3 : 0 < xn) (h4 : bn ≤ 100) (h5 : xn ≤ 100) (hz : Zjl z dn bn xn gn policy next down) :
 Calls Tryz.prog 19 #[.pointer (some ⟨G, 0, none⟩), .pointer (some ⟨D, 0, none⟩), .pointer (some ⟨B, 0, none⟩), .pointer (some ⟨X, 0, none⟩), .int .i64 policy, .int .i64 next] w fun e w' => e = .returned (.tuple #[.int .i64 0, .int .i64 z]) ∧ Old w w' := by
 have hmf : ∀ (fn : Fn) (first cap : Array Value) (w : World), (Instr.makeFunc fn first cap).run Tryz.prog w = .ok (.func fn first cap) w := fun _ _ _ _ => rfl
 have HC : Hid (∀ W : World, Old w W → Zxi W (w.heap.size + 1 + 1) G D B X → Calls Tryz.prog 63 #[.pointer (some ⟨w.heap.size + 1 + 1, 0, none⟩), .int .i64 policy, .int .i64 next] W fun e w' => dies z e ∧ Old W w') := fun W U hk =>
  ZvG hk (hg.old U) (hd.old U) (ht.old U) (hx.old U) h1 h2 h3 h4 h5 hz
 clear hg hd ht hx h1 h2 h3 h4 h5 hz
 go_enter_defers Tryz.func19, Tryz.ntmps19
 go_wp2_with (first | (go_at_call 63; refine (HC.out _ ?_ ?_).mono ?_; (exact (((Upd.refl _ w).alloc _).alloc _).alloc _); (exact ⟨_, by have := ZtR w (.cells #[.int .i64 0] 3) (.cells #[.int .i64 0] 32) 134 #[.pointer (some ⟨G, 0, none⟩), .pointer (some ⟨D, 0, none⟩), .pointer (some ⟨B, 0, none⟩), .pointer (some ⟨X, 0, none⟩), .int .i64 0, .int .i64 0]; exact this⟩); rintro e w1 ⟨rfl, hU⟩; have HU := Lib.hid hU; clear hU))
 have b0 : Has (((w.alloc (.cells #[.int .i64 0] 3)).alloc (.cells #[.int .i64 0] 32)).alloc (.cells #[.pointer (some ⟨G, 0, none⟩), .pointer (some ⟨D, 0, none⟩), .pointer (some ⟨B, 0, none⟩), .pointer (some ⟨X, 0, none⟩), .int .i64 0, .int .i64 0] 134)) w.heap.size 3 #[.int .i64 0] := ((Has.new w _ _).alloc _).alloc _;have b1 : Has (((w.alloc (.cells #[.int .i64 0] 3)).alloc (.cells #[.int .i64 0] 32)).alloc (.cells #[.pointer (some ⟨G, 0, none⟩), .pointer (some ⟨D, 0, none⟩), .pointer (some ⟨B, 0, none⟩), .pointer (some ⟨X, 0, none⟩), .int .i64 0, .int .i64 0] 134)) (w.heap.size + 1) 32 #[.int .i64 0] := (ZtQ w _ _ _).alloc _;have c0 := HU.out.has b0;have c1 := HU.out.has b1;have hO : Old w w1 := ((((Upd.refl _ w).alloc _).alloc _).alloc _).trans HU.out;refine leaves_cons (f := 62) (args := #[.pointer (some ⟨w.heap.size, 0, none⟩), .pointer (some ⟨w.heap.size + 1, 0, none⟩)]) (by simp) (by simp [go_sem]) ?_
 refine (Zkz w.heap.size (w.heap.size + 1) z 0 0 [] w1 (c0.cell 0) (c1.cell 0) (c0.frozen 0) (c1.frozen 0) (by omega)).mono ?_
 rintro e u' w'' ⟨rfl, rfl, r1, r2, r3⟩;have hOO : Old w w'' := hO.after r3 (fun b hb h => by rcases h with rfl | rfl <;> omega)
 simp [Leaves, settle, results, Tryz.results19, go_sem, r1, r2];exact hOO
end Go.M
namespace Go.M
open Go.Proofs Go.RowKit Go.Shelf
set_option linter.unusedSimpArgs false
theorem Zt2 (x : Ent) (w : World) : (binOp .neq 79 x.val x.val).run Tryz.prog w = .ok (.bool false) w := by
 unfold Ent.val;rw [run_neq_struct, run_equalIn_agg w 9999 79 _ _ (by kernel_rfl) (by kernel_rfl)]
 simp only [Program.fieldsOf, Tryz.underlying79];simp [Op.eqFields, go_sem]
theorem ZhN {w : World} {v : Value} {es : List Ent} (h : w.ownsRow 0 79 6 v es.length (rowOf es)) : (v = .slice none 0 0 ∧ es = []) ∨ ∃ g cap, v = .slice (some ⟨g, 0, none⟩) es.length cap ∧ ∀ i e, es[i]? = some e → ∀ j u, e.cells[j]? = some u → w.cell? ⟨g, i * 6 + j, none⟩ = some u := by
 have hz := Zf4 (fun _ => True) es (fun _ _ => trivial)
 rcases Zbl.of_own h _ hz with ⟨h1, h2⟩ | ⟨g, cap, h1, _, h3⟩
 ·exact .inl ⟨h1, by rw [← hz, h2]; rfl⟩
 ·refine .inr ⟨g, cap, ?_, fun i e hi j u hj => ?_⟩
  ·rw [h1, ← List.length_map (·.1), hz]
  ·have hi' : ((Zm8 (fun _ => True) es (fun _ _ => trivial))[i]?).map (·.1) = some e := by rw [← List.getElem?_map, hz]; exact hi
   obtain ⟨e', he, rfl⟩ := Option.map_eq_some_iff.1 hi';exact h3 i e' he j u hj
theorem Zt3 {w : World} {a b : Value} {es : List Ent} (ha : w.ownsRow 0 79 6 a es.length (rowOf es)) (hb : w.ownsRow 0 79 6 b es.length (rowOf es)) (hl : es.length ≤ 10000) :
 Calls Tryz.prog 22 #[a, b] w fun e w' => e = .returned (.bool true) ∧ Old w w' := by
 obtain ⟨aa, ac, ea⟩ := Zaw ha;obtain ⟨ba, bc, eb⟩ := Zaw hb;have HA := Lib.hid (ZhN ha);have HB := Lib.hid (ZhN hb);rw [ea] at HA ⊢;rw [eb] at HB ⊢;clear ha hb ea eb
 go_enter Tryz.func22, Tryz.ntmps22
 go_wp2
 go_loopw [13] (fun i wr => ∃ k : Nat, k ≤ es.length ∧ i = .int .i64 k ∧ Old w wr) (fun i _ => es.length - (intOf i).toNat)
 case atStart => exact ⟨0, Nat.zero_le _, rfl, Upd.refl _ _⟩
 case round =>
  obtain ⟨k, hk, rfl, hU⟩ := hrel
  by_cases hlt : k < es.length
  ·obtain ⟨x, hx⟩ : ∃ x, es[k]? = some x := ⟨es[k], List.getElem?_eq_getElem _⟩;rcases HA.out with ⟨_, h0⟩ | ⟨g1, cap1, e1, c1⟩
   ·rw [h0] at hlt; simp at hlt
   rcases HB.out with ⟨_, h0⟩ | ⟨g2, cap2, e2, c2⟩
   ·rw [h0] at hlt; simp at hlt
   simp only [Value.slice.injEq] at e1 e2;obtain ⟨rfl, -, rfl⟩ := e1;obtain ⟨rfl, -, rfl⟩ := e2;have a0 : wr.cell? ⟨g1, k * 6, none⟩ = some (.int .i64 ((x.seq : Nat) : Int)) := Old.cellOf' hU (c1 k x hx 0 _ rfl);have a1 : wr.cell? ⟨g1, k * 6 + 1, none⟩ = some (.string x.key) := Old.cellOf' hU (c1 k x hx 1 _ rfl);have a2 : wr.cell? ⟨g1, k * 6 + 2, none⟩ = some (.bool x.del) := Old.cellOf' hU (c1 k x hx 2 _ rfl);have a3 : wr.cell? ⟨g1, k * 6 + 3, none⟩ = some (.int .i64 ((x.slot : Nat) : Int)) := Old.cellOf' hU (c1 k x hx 3 _ rfl);have a4 : wr.cell? ⟨g1, k * 6 + 4, none⟩ = some (.int .i64 ((x.off : Nat) : Int)) := Old.cellOf' hU (c1 k x hx 4 _ rfl);have a5 : wr.cell? ⟨g1, k * 6 + 5, none⟩ = some (.int .i64 ((x.size : Nat) : Int)) := Old.cellOf' hU (c1 k x hx 5 _ rfl);have b0 : wr.cell? ⟨g2, k * 6, none⟩ = some (.int .i64 ((x.seq : Nat) : Int)) := Old.cellOf' hU (c2 k x hx 0 _ rfl);have b1 : wr.cell? ⟨g2, k * 6 + 1, none⟩ = some (.string x.key) := Old.cellOf' hU (c2 k x hx 1 _ rfl);have b2 : wr.cell? ⟨g2, k * 6 + 2, none⟩ = some (.bool x.del) := Old.cellOf' hU (c2 k x hx 2 _ rfl);have b3 : wr.cell? ⟨g2, k * 6 + 3, none⟩ = some (.int .i64 ((x.slot : Nat) : Int)) := Old.cellOf' hU (c2 k x hx 3 _ rfl);have b4 : wr.cell? ⟨g2, k * 6 + 4, none⟩ = some (.int .i64 ((x.off : Nat) : Int)) := Old.cellOf' hU (c2 k x hx 4 _ rfl);have b5 : wr.cell? ⟨g2, k * 6 + 5, none⟩ = some (.int .i64 ((x.size : Nat) : Int)) := Old.cellOf' hU (c2 k x hx 5 _ rfl);have hq := Zt2 x;unfold Ent.val at hq;have g0 : ((k : Nat) : Int) < (es.length : Int) := by omega
   have HU := Lib.hid hU;clear c1 c2 hU HA HB;go_wp2
   go_quiet (fail)
   go_wp2
   go_roundw
   case rel => exact ⟨k + 1, by omega, by simp, HU.out.drewN _⟩
   case measure => simp [intOf]; omega
  ·obtain rfl : k = es.length := by omega
   go_wp2;go_ret;exact ⟨rfl, hU⟩
theorem Zf9 {P : Program} (w : World) (t ty e : TypeId) (i : TypeInfo) (ht : P.underlying t = some (.slice e)) (hi : P.info? e = some i) (oa : Option Addr) (n c : Nat) (h : n ≤ c) :
 (Builtin.append_ #[t, t] ty #[.slice oa n c, .slice none 0 0]).run P w = .ok (.slice oa n c) w := by
 have h2 : n + 0 ≤ c := h;cases oa <;> simp [Builtin.append_, go_sem, run_underlying ht, run_sizeOf w hi, h]
theorem Zec {P : Program} {w : World} {ops : Array Oper} {rest : List Oper} {o : Oper} {a : Act} {Q : Exit → Act → World → Prop} (hgd : o.guard = none) (s x : Operand) (t : TypeId)
 (ho : o.op = .call { callee := .builtin .append, args := #[s, x], argTypes := #[t, t] })
 (e : TypeId) (i : TypeInfo) (ht : P.underlying t = some (.slice e)) (hi : P.info? e = some i) (oa : Option Addr) (n c : Nat) (hs : a.eval s = .slice oa n c) (hx : a.eval x = .slice none 0 0) (hn : n ≤ c)
 (h : wpList P ops Q rest (a.put o.dst (.slice oa n c)) w) : wpList P ops Q (o :: rest) a w := by
 refine wpList_plain hgd fun K hK => ?_
 have hr := Zf9 (P := P) w t o.type e i ht hi oa n c hn;unfold Oper.wp execOp;simp only [ho, resolve, invoke, builtin, Sem.run_bind, Sem.run_pure, Result.andThen_ok, List.map_toArray, List.map_cons, List.map_nil, hs, hx, hr];exact hK _ _ h
theorem entries {w : World} {PP X S n c : Nat} {sv : Nat → Value} {es : Nat → List Ent} (hP : w.cell? ⟨PP, 9, none⟩ = some (.pointer (some ⟨X, 0, none⟩))) (h0 : w.cell? ⟨PP, 0, none⟩ = some (.int .i64 ((n : Nat) : Int))) (hX1 : w.cell? ⟨X, 1, none⟩ = some (.slice (some ⟨S, 0, none⟩) n c)) (hn : n ≤ 10)
 (hS : ∀ i, i < n → w.cell? ⟨S, i, none⟩ = some (sv i)) (own : ∀ i, i < n → w.ownsRow 0 79 6 (sv i) (es i).length (rowOf (es i))) (hl : ∀ i, i < n → (es i).length ≤ 100) :
 Calls Tryz.prog 18 #[.pointer (some ⟨PP, 0, none⟩)] w (Zdj w 79 6 ((List.range n).flatMap es).length (rowOf ((List.range n).flatMap es))) := by
 have HS : Hid (∀ (W : World), Old w W → ∀ i, i < n → Calls Tryz.prog 61 #[.pointer (some ⟨PP, 0, none⟩), .int .i64 ((i : Nat) : Int)] W (Zdj W 79 6 (es i).length (rowOf (es i)))) := fun W U i hi =>
  Zvp (O := .bool true) (Old.cellOf' U hP) (Old.cellOf' U hX1) (Old.cellOf' U (hS i hi)) hi hn (Upd.own U (own i hi) (fun _ _ x => x)) (by have := hl i hi; omega)
 have HL := Lib.hid hl;obtain ⟨i0, hi0, hz0, hz1, hz2⟩ := info_parts Zd8;clear hP hX1 hS own hl
 go_enter Tryz.func18, Tryz.ntmps18
 go_wp2
 go_loopw [3, 10] (fun out i wr => ∃ k : Nat, k ≤ n ∧ i = .int .i64 k ∧ Old w wr ∧ wr.ownsRow 0 79 6 out ((List.range k).flatMap es).length (rowOf ((List.range k).flatMap es)) ∧ (∀ b, out.ownBlock = some b → w.heap.size ≤ b) ∧ ((List.range k).flatMap es).length ≤ k * 100) (fun _ i _ => n - (intOf i).toNat)
 case atStart => exact ⟨0, Nat.zero_le _, rfl, Upd.refl _ _, World.ownsRow_nil _ _ _ _, fun b h => (by cases h), Nat.le_refl _⟩
 case round =>
  obtain ⟨k, hk, rfl, hU, hown, hfr, hlen⟩ := hrel;obtain ⟨oa, oc, rfl⟩ := Zaw hown
  by_cases hlt : k < n
  ·have g0 : ((k : Nat) : Int) < (n : Int) := by omega
   have hfl : (List.range (k + 1)).flatMap es = (List.range k).flatMap es ++ es k := by rw [List.range_succ, List.flatMap_append]; simp
   generalize (List.range k).flatMap es = ys at hown hlen hfl hfr ⊢;have HFL := Lib.hid hfl;have HLEN := Lib.hid hlen;have HU := Lib.hid hU;have HOW := Lib.hid hown;have HFR := Lib.hid hfr;have HLK := Lib.hid (HL.out k hlt);clear hU hown hfr hfl hlen
   go_wp2_with (first | (go_at_call 61; refine (HS.out _ HU.out k hlt).mono ?_; rintro e w1 ⟨v', rfl, hr1, hU1, hf1⟩; have HR1 := Lib.hid hr1; have HU1 := Lib.hid hU1; have HF1 := Lib.hid hf1; clear hr1 hU1 hf1; refine Hid.out ?_))
   have hO1 := Upd.own HU1.out HOW.out (fun _ _ x => x)
   have hO1 := Upd.own HU1.out HOW.out (fun _ _ x => x)
   rcases ZhN HR1.out with ⟨rfl, hnil⟩ | ⟨g, cap, rfl, hc⟩
   ·have hcap : ys.length ≤ oc := by
     rcases HOW.out.2 with ⟨h1, h2⟩ | ⟨g', c', cur, h1, hb, hg', hc'⟩
     ·simp only [Value.slice.injEq] at h1; omega
     ·simp only [Value.slice.injEq] at h1; omega
    have HO1 := Lib.hid hO1;clear hO1;refine Lib.hid ?_
    go_wp2_with (first | (at_builtin; refine Zec rfl _ _ 73 rfl 79 i0 Tryz.underlying73 hi0 oa ys.length oc rfl rfl hcap ?_))
    go_roundw
    case rel =>
     have hfl := HFL.out;have hlen := HLEN.out;rw [hnil, List.append_nil] at hfl;exact ⟨k + 1, by omega, by simp, HU.out.trans HU1.out, by rw [hfl]; exact HO1.out, HFR.out, by rw [hfl]; omega⟩
    case measure => simp [intOf]; omega
   ·have HO1 := Lib.hid hO1;have HCC := Lib.hid hc;clear hO1 hc;refine Lib.hid ?_
    go_wp2_with (first | (at_builtin; refine Zar rfl _ _ 73 rfl 79 i0 (.agg #[.int .i64 0, .string ⟨#[]⟩, .bool false, .int .i64 0, .int .i64 0, .int .i64 0]) 6 56 Tryz.underlying73 hi0 hz0 hz1 hz2 rfl (by decide) (.slice oa ys.length oc) ys.length _ rfl HO1.out ⟨g, 0, none⟩ (es k).length cap (rowOf (es k)) rfl (ZcY _) ?c2 ?c3 ?c4 ?c5 ?_))
    case c2 =>
     intro j u hj;obtain ⟨e', h1, h2⟩ := Zl0 hj;have := HCC.out _ e' h1 _ _ h2;rw [show j / 6 * 6 + j % 6 = j by omega] at this
     rw [show (⟨g, 0, none⟩ : Addr).add j = ⟨g, j, none⟩ from by unfold Addr.add; split <;> simp_all]
     exact this
    case c3 => exact Zf1
    case c4 => have := HLEN.out; have := HLK.out; unfold maxLen; omega
    case c5 => have := HLEN.out; have := HLK.out; omega
    intro v'' w2 hown2 hgrow hnil hfresh;have hrow2 : rowOf ys ++ rowOf (es k) = rowOf (ys ++ es k) := by rw [ZcZ]
    obtain ⟨va, vc, rfl⟩ := Zaw hown2;have HO2 := Lib.hid hown2;have HG := Lib.hid hgrow;have HF := Lib.hid hfresh;clear hown2 hgrow hnil hfresh;go_wp2
    go_roundw
    case rel =>
     have hfl := HFL.out;have hlen := HLEN.out;have hlk := HLK.out;have o1 := HO2.out;rw [hrow2, ← List.length_append, ← hfl] at o1;have z1 := HU1.out.size;have z0 := HU.out.size
     exact ⟨k + 1, by omega, by simp, (HU.out.trans HU1.out).grown HG.out (fun b hb => .inr (HFR.out b hb)), by
      have : (List.flatMap es (List.range (k + 1))).length = ys.length + (es k).length := by rw [hfl, List.length_append]
      rw [this] at o1 ⊢; exact o1, fun b hb => by
      rcases HF.out b hb with h | h
      ·exact HFR.out b h
      ·omega, by rw [hfl, List.length_append]; omega⟩
    case measure => simp [intOf]; omega
  ·obtain rfl : k = n := by omega
   go_wp2;go_ret;exact ⟨_, rfl, hown, hU, hfr⟩
end Go.M
namespace Go.M
open Go.Proofs Go.RowKit
set_option linter.unusedSimpArgs false
structure CfOk (n sz r wk ky vl po : Nat) : Prop where
 n4 : 4 ≤ n
 n9 : n ≤ 9
 r2 : 2 ≤ r
 r3 : r ≤ 3
 rn : r + 2 ≤ n
 k1 : 2 ≤ ky
 k6 : ky ≤ 6
 vv : vl ≤ 23
 sv : ky + vl + 32 ≤ sz
 s8 : sz ≤ 8192
 w1 : 2 * (ky + vl + 32) ≤ wk
 w2 : wk ≤ 65536
 p1 : 1 ≤ po
 p2 : po ≤ 2
theorem CfOk.span {n sz r wk ky vl po m : Nat} (h : CfOk n sz r wk ky vl po) (h1 : n ≤ m) (h2 : m ≤ n + 1) : ∀ k, k < 7 → (ZaD m sz r wk ky vl po k).2.1 ≤ (ZaD m sz r wk ky vl po k).1 ∧ (ZaD m sz r wk ky vl po k).1 ≤ (ZaD m sz r wk ky vl po k).2.2 := by
 obtain ⟨n4, n9, r2, r3, rn, k1, k6, vv, sv, s8, w1, w2, p1, p2⟩ := h;intro k hk;rcases k with _ | _ | _ | _ | _ | _ | _ | k <;> simp only [ZaD] <;> omega
theorem CfOk.span5 {n sz r wk ky vl po x : Nat} (h : CfOk n sz r wk ky vl po) : ∀ k, k < 5 → (ZaD n sz r x ky vl po k).2.1 ≤ (ZaD n sz r x ky vl po k).1 ∧ (ZaD n sz r x ky vl po k).1 ≤ (ZaD n sz r x ky vl po k).2.2 := by
 obtain ⟨n4, n9, r2, r3, rn, k1, k6, vv, sv, s8, w1, w2, p1, p2⟩ := h;intro k hk;rcases k with _ | _ | _ | _ | _ | k <;> simp only [ZaD] <;> omega
structure MfAt (w : World) (col : Col) (PP D B X n sz r wk ky vl po next : Nat) (ops : Int) (sv : Nat → Value) (es : Nat → List Ent) : Prop where
 rf : RfSt w col PP D B X n ops
 ok : CfOk n sz r wk ky vl po
 p : ∃ t, Has w PP t #[.int .i64 ((n : Nat) : Int), .int .i64 ((sz : Nat) : Int), .int .i64 ((r : Nat) : Int), .int .i64 ((wk : Nat) : Int), .int .i64 ((ky : Nat) : Int), .int .i64 ((vl : Nat) : Int), .int .i64 ((po : Nat) : Int), .pointer (some ⟨D, 0, none⟩), .pointer (some ⟨B, 0, none⟩), .pointer (some ⟨X, 0, none⟩), .int .i64 ((next : Nat) : Int)]
 nx1 : 1 ≤ next
 nx2 : next ≤ 61
 xs : ∃ S c, w.cell? ⟨X, 1, none⟩ = some (.slice (some ⟨S, 0, none⟩) n c) ∧ ∀ i, i < n → w.cell? ⟨S, i, none⟩ = some (sv i)
 own : ∀ i, i < n → w.ownsRow 0 79 6 (sv i) (es i).length (rowOf (es i))
 len : ∀ i, i < n → (es i).length ≤ 100
theorem MfAt.old {w w' : World} {col : Col} {PP D B X n sz r wk ky vl po next : Nat} {ops : Int} {sv : Nat → Value} {es : Nat → List Ent} (h : MfAt w col PP D B X n sz r wk ky vl po next ops sv es) (U : Old w w') : MfAt w' col PP D B X n sz r wk ky vl po next ops sv es := by
 obtain ⟨t, p⟩ := h.p;obtain ⟨S, c, x1, x2⟩ := h.xs;exact ⟨h.rf.old U, h.ok, ⟨t, U.has p⟩, h.nx1, h.nx2, ⟨S, c, Old.cellOf' U x1, fun i hi => Old.cellOf' U (x2 i hi)⟩, fun i hi => Upd.own U (h.own i hi) (fun _ _ x => x), h.len⟩
theorem ZwE {w wr : World} {n0 n1 n2 n3 n4 n5 n6 PP D B X it : Nat} (h4 : n4 < 256) (h5 : n5 < 256) (h6 : n6 < 256) (h : ZbX w (kOf n0 n1 n2 n3 n4 n5 n6) PP D B X it wr) (hit : it ≤ 60) :
 ∃ col n sz r wk ky vl po next ops sv es, MfAt wr col PP D B X n sz r wk ky vl po next ops sv es ∧ (∀ b, b < w.heap.size → col b = (0, 0)) ∧ (∀ b, wr.heap.size ≤ b → col b = (0, 0)) ∧ Old w wr := by
 obtain ⟨col, ops, a1, a2, a3, a4⟩ := ZwC h;obtain ⟨col', next, used, act, lens, ops', hp, b1, b2, b3, b4⟩ := h;obtain ⟨t, p⟩ := hp.p;obtain ⟨si, hi⟩ := hp.idx;obtain ⟨tx, fx⟩ := hi.fX;refine ⟨col, _, _, _, 2 * (16 + (2 + n1 % 5) + n2 % 24 + 16) + n6, 2 + n1 % 5, _, 1 + n3 % 2, next, ops, si.sv, si.es, ⟨a1, ?_, ⟨t, p⟩, hp.nx, by omega, ⟨si.S, si.c, fx.cell 1, fun i hi' => ?_⟩, hi.own, fun i hi' => ?_⟩, a2, a3, a4⟩
 ·constructor <;> ((try simp only [kOf]); omega)
 ·rw [hi.fS.cell]; exact hi.fs i hi'
 ·have := hi.len i hi'; omega
def ZpR (lo hi : Nat) (w : World) (D n : Nat) : Prop := ∃ col s K S cap T M V, DevAt w col 1 D s K S cap T M V ∧ s.n = n ∧ s.ops = 0 ∧ s.down = false ∧ (∀ b, b < lo → col b = (0, 0)) ∧ ∀ b, hi ≤ b → col b = (0, 0)
theorem ZpR.st {lo hi : Nat} {w : World} {D n : Nat} (h : ZpR lo hi w D n) : DSt w D n 0 false := by
 obtain ⟨col, s, K, S, cap, T, M, V, hd, rfl, e1, e2, _⟩ := h;obtain ⟨t, d⟩ := hd.fd;rw [e1, e2] at d;exact ⟨d.cell 2, d.cell 3, d.cell 4⟩
theorem ZpR.old {lo hi : Nat} {w w' : World} {D n : Nat} (h : ZpR lo hi w D n) (U : Old w w') : ZpR lo hi w' D n := by
 obtain ⟨col, s, K, S, cap, T, M, V, hd, e⟩ := h;exact ⟨col, s, K, S, cap, T, M, V, hd.other U (fun b h => h.elim) (Kept.refl _ _), e⟩
theorem ZpR.low {lo hi : Nat} {w : World} {D n : Nat} (h : ZpR lo hi w D n) : lo ≤ D := by
 obtain ⟨col, s, K, S, cap, T, M, V, hd, e1, e3, e2, hc, _⟩ := h
 by_cases hD : lo ≤ D
 ·exact hD
 ·have := hc D (by omega)
  rw [hd.cD] at this;simp at this
def Zsd (w : World) (n : Nat) (e : Ending) (w' : World) : Prop := ∃ D, e = .returned (.tuple #[.pointer (some ⟨D, 0, none⟩), .int .i64 0]) ∧ ZpR w.heap.size w'.heap.size w' D n ∧ Old w w'
theorem ZvH {w : World} {n size : Nat} (h0 : 1 < n) (h1 : n ≤ 10) (hs : 0 < size) (hs2 : size ≤ 8192) :
 Calls Tryz.prog 17 #[.int .i64 ((n : Nat) : Int), .int .i64 ((size : Nat) : Int)] w (Zsd w n) := by
 refine (Zpu h0 h1 hs hs2).mono ?_;intro e w1 h;obtain ⟨D, col, rfl, hU, ⟨s, K, S, cap, T, M, V, hd, e1, e2, e3, e4⟩, hc⟩ := Zsa h (by omega) h1 hs hs2
 have hk : Kept w1 col (fun b => if b < w1.heap.size then col b else (0, 0)) := fun b hb => by simp only; rw [if_pos hb]
 have hsz := hU.size;refine ⟨D, rfl, ⟨_, s, K, S, cap, T, M, V, hd.other (Upd.refl (fun _ => False) w1) (fun b h => h.elim) hk, e1, e3, e2, fun b hb => ?_, fun b hb => ?_⟩, hU⟩
 ·(try simp only); rw [if_pos (by omega), hc b hb]
 ·(try simp only); rw [if_neg (by omega)]
def Zse (w : World) (n : Nat) (e : Ending) (w' : World) : Prop := ∃ X, e = .returned (.tuple #[.pointer (some ⟨X, 0, none⟩), .int .i64 0]) ∧ w.heap.size ≤ X ∧ XSl w' (.pointer (some ⟨X, 0, none⟩)) n ∧ Old w w'
theorem ZvI {w : World} {n : Nat} (h0 : 0 < n) (h1 : n ≤ 10) :
 Calls Tryz.prog 9 #[.int .i64 ((n : Nat) : Int)] w (Zse w n) := by
 refine (Zpp h0 h1).mono ?_;rintro e w1 ⟨X, O, S, rfl, hX, hO, hS, lX, lO, lS, nXO, nXS, nOS, hU⟩;exact ⟨X, rfl, lX, .inr ⟨X, _, _, rfl, hX.cell 1⟩, hU⟩
theorem DSt.upd {F : Nat → Prop} {w w' : World} {D n : Nat} {ops : Int} {down : Bool} (h : DSt w D n ops down) (U : Upd F w w') (hF : ¬ F D) : DSt w' D n ops down := ⟨U.cellOf h.1 hF, U.cellOf h.2.1 hF, U.cellOf h.2.2 hF⟩
structure StAt (w : World) (col : Col) (lo PP D B X G G2 X2 n sz r wk ky vl po next : Nat) : Prop where
 p : ∃ t, Has w PP t #[.int .i64 ((n : Nat) : Int), .int .i64 ((sz : Nat) : Int), .int .i64 ((r : Nat) : Int), .int .i64 ((wk : Nat) : Int), .int .i64 ((ky : Nat) : Int), .int .i64 ((vl : Nat) : Int), .int .i64 ((po : Nat) : Int), .pointer (some ⟨D, 0, none⟩), .pointer (some ⟨B, 0, none⟩), .pointer (some ⟨X, 0, none⟩), .int .i64 ((next : Nat) : Int)]
 t : TSl w (.pointer (some ⟨B, 0, none⟩)) n
 x : XSl w (.pointer (some ⟨X, 0, none⟩)) n
 g : MgB lo w G n
 g2 : MgB lo w G2 (n + 1)
 x2 : XSl w (.pointer (some ⟨X2, 0, none⟩)) (n + 1)
 lx : lo ≤ X2
 rP : (col PP).1 ≠ 1
 rB : (col B).1 ≠ 1
 rX : (col X).1 ≠ 1
 hi : ∀ b, lo ≤ b → col b = (0, 0)
theorem StAt.upd {F : Nat → Prop} {w w' : World} {col : Col} {lo PP D B X G G2 X2 n sz r wk ky vl po next : Nat} (h : StAt w col lo PP D B X G G2 X2 n sz r wk ky vl po next) (U : Upd F w w') (hF : ∀ b, F b → (col b).1 = 1) : StAt w' col lo PP D B X G G2 X2 n sz r wk ky vl po next := by
 obtain ⟨t, p⟩ := h.p;have hl : ∀ b, lo ≤ b → ¬ F b := fun b hb hf => by have := hF b hf; rw [h.hi b hb] at this; simp at this
 exact ⟨⟨t, U.has p (fun a => h.rP (hF _ a))⟩, h.t.upd U (fun a => h.rB (hF _ a)), h.x.upd U (fun a => h.rX (hF _ a)), h.g.upd U hl, h.g2.upd U hl, h.x2.upd U (hl _ h.lx), h.lx, h.rP, h.rB, h.rX, h.hi⟩
theorem StAt.old {w w' : World} {col : Col} {lo PP D B X G G2 X2 n sz r wk ky vl po next : Nat} (h : StAt w col lo PP D B X G G2 X2 n sz r wk ky vl po next) (U : Old w w') : StAt w' col lo PP D B X G G2 X2 n sz r wk ky vl po next := h.upd U (fun b a => a.elim)
def UpD (w : World) (col : Col) (D n : Nat) (ops : Int) : Prop := ∃ s K S cap T M V, DevAt w col 1 D s K S cap T M V ∧ s.n = n ∧ s.ops = ops ∧ s.down = false
theorem UpD.old {w w' : World} {col : Col} {D n : Nat} {ops : Int} (h : UpD w col D n ops) (U : Old w w') : UpD w' col D n ops := by
 obtain ⟨s, K, S, cap, T, M, V, hd, e⟩ := h;exact ⟨s, K, S, cap, T, M, V, hd.other U (fun b h => h.elim) (Kept.refl _ _), e⟩
def ZwF (w0 : World) (col : Col) (lo PP D B X G G2 X2 n sz r wk ky vl po next D2 d dn : Nat) (ops : Int) (w' : World) : Prop := Old w0 w' ∧ lo ≤ w'.heap.size ∧ StAt w' col lo PP D B X G G2 X2 n sz r wk ky vl po next ∧ ((d = D ∧ dn = n ∧ ZpQ (fun b => (col b).1 = 1) w' D n ops) ∨ (d = D2 ∧ dn = n + 1 ∧ UpD w' col D n ops ∧ DSt w' D2 (n + 1) 0 true ∧ lo ≤ D2))
theorem Zyn {w0 w4 W : World} {col : Col} {lo hi PP D B X G G2 X2 n sz r wk ky vl po next D2 d dn : Nat} {ops : Int} (U0 : Old w0 w4) (S : StAt w4 col lo PP D B X G G2 X2 n sz r wk ky vl po next) (hD : UpD w4 col D n ops) (U4 : Old w4 W) (hD2 : ZpR w4.heap.size hi W D2 (n + 1)) (hhi : hi ≤ W.heap.size) (hl : lo ≤ w4.heap.size) (hcol : ∀ b, b < w0.heap.size → col b = (0, 0))
 (hd : (d = D ∧ dn = n) ∨ (d = D2 ∧ dn = n + 1)) :
 Calls Tryz.prog 15 #[.pointer (some ⟨d, 0, none⟩), .agg #[.int .i64 0, .bool false, .slice (some ⟨W.heap.size, 0, none⟩) 1 1]] (W.alloc (.cells #[.int .i64 0] 3)) fun e w' => e = .returned (.int .i64 0) ∧ ZwF w0 col lo PP D B X G G2 X2 n sz r wk ky vl po next D2 d dn ops w' := by
 have hc : (W.alloc (.cells #[.int .i64 0] 3)).cell? ⟨W.heap.size, 0, none⟩ = some (.int .i64 ((0 : Nat) : Int)) := (Has.new W 3 #[.int .i64 0]).cell 0;have OA : Old W (W.alloc (.cells #[.int .i64 0] 3)) := (Upd.refl _ W).alloc _;have s4 := U4.size;rcases hd with ⟨rfl, rfl⟩ | ⟨rfl, rfl⟩
 ·obtain ⟨s, K, S', cap, T, M, V, hdv, rfl, rfl, e⟩ := hD.old (U4.trans OA);refine (ZtW hdv e (x := 0) (by omega) hc (by rw [S.hi _ (by omega)]; simp)).mono ?_
  rintro en w' ⟨rfl, hU, hag⟩;have s5 := hU.size;have s6 := OA.size;exact ⟨rfl, ((U0.trans U4).trans OA).after hU (fun b hb a => by rw [hcol b hb] at a; simp at a), by omega, (S.old (U4.trans OA)).upd hU (fun b a => a), .inl ⟨rfl, rfl, hag⟩⟩
 ·have l2 := hD2.low;obtain ⟨col2, s, K, S', cap, T, M, V, hdv, e1, e2, e3, c1, c2⟩ := hD2.old OA;refine (ZtW hdv e3 (x := 0) (by omega) hc (by rw [c2 _ (by omega)]; simp)).mono ?_
  rintro en w' ⟨rfl, hU, hag⟩;have O4 : Old w4 w' := (U4.trans OA).after hU (fun b hb a => by rw [c1 b hb] at a; simp at a)
  rw [e1, e2] at hag;have s5 := O4.size;exact ⟨rfl, U0.trans O4, by omega, S.old O4, .inr ⟨rfl, rfl, hD.old O4, hag.st, by omega⟩⟩
def Zyo (w0 : World) (col : Col) (lo PP D B X G G2 X2 n sz r wk ky vl po next d dn : Nat) (ops : Int) (w' : World) : Prop := Old w0 w' ∧ StAt w' col lo PP D B X G G2 X2 n sz r wk ky vl po next ∧ DSt w' D n ops true ∧ ∃ ops2, DSt w' d dn ops2 true
theorem Zyp {w0 w6 W : World} {col : Col} {lo PP D B X G G2 X2 n sz r wk ky vl po next D2 d dn : Nat} {ops : Int} (hn : 0 < n) (h : ZwF w0 col lo PP D B X G G2 X2 n sz r wk ky vl po next D2 d dn ops w6) (U : Old w6 W) (hcol : ∀ b, b < w0.heap.size → col b = (0, 0)) :
 Calls Tryz.prog 15 #[.pointer (some ⟨D, 0, none⟩), .agg #[.int .i64 0, .bool false, .slice (some ⟨W.heap.size, 0, none⟩) 1 1]] (W.alloc (.cells #[.int .i64 0] 3)) fun e w' => e = .returned (.int .i64 0) ∧ Zyo w0 col lo PP D B X G G2 X2 n sz r wk ky vl po next d dn ops w' := by
 have hc : (W.alloc (.cells #[.int .i64 0] 3)).cell? ⟨W.heap.size, 0, none⟩ = some (.int .i64 ((0 : Nat) : Int)) := (Has.new W 3 #[.int .i64 0]).cell 0;have OA : Old W (W.alloc (.cells #[.int .i64 0] 3)) := (Upd.refl _ W).alloc _;have s4 := U.size;obtain ⟨U0, hl, S, ⟨rfl, rfl, hag⟩ | ⟨rfl, rfl, hD, hds, l2⟩⟩ := h
 ·refine (ZvC hag (U.trans OA) hn (x := 0) (by omega) hc (by omega)).mono ?_
  rintro en w' ⟨rfl, hU, hag'⟩;exact ⟨rfl, ((U0.trans U).trans OA).after hU (fun b hb a => by rw [hcol b hb] at a; simp at a), (S.old (U.trans OA)).upd hU (fun b a => a), hag'.st, _, hag'.st⟩
 ·obtain ⟨s, K, S', cap, T, M, V, hdv, rfl, rfl, e⟩ := hD.old (U.trans OA);refine (ZtW hdv e (x := 0) (by omega) hc (by rw [S.hi _ (by omega)]; simp)).mono ?_
  rintro en w' ⟨rfl, hU, hag⟩;exact ⟨rfl, ((U0.trans U).trans OA).after hU (fun b hb a => by rw [hcol b hb] at a; simp at a), (S.old (U.trans OA)).upd hU (fun b a => a), hag.st, 0, (hds.old (U.trans OA)).upd hU (fun a => by rw [S.hi _ l2] at a; simp at a)⟩
def Cmb (G G2 D D2 X X2 n u d i gn dn xn : Nat) (pol nx : Int) : Prop := ((u = G ∧ gn = n) ∨ (u = G2 ∧ gn = n + 1)) ∧ ((d = D ∧ dn = n) ∨ (d = D2 ∧ dn = n + 1)) ∧ ((i = X ∧ xn = n) ∨ (i = X2 ∧ xn = n + 1)) ∧ ∀ down, Zjl 2 dn n xn gn pol nx down
theorem Zjm {w : World} {col : Col} {lo PP D B X G G2 X2 n sz r wk ky vl po next D2 u d i gn dn xn : Nat} {ops pol nx : Int} {down : Bool} (h : Cmb G G2 D D2 X X2 n u d i gn dn xn pol nx) (S : StAt w col lo PP D B X G G2 X2 n sz r wk ky vl po next) (hn : 4 ≤ n) (h9 : n ≤ 9) (hd : DSt w d dn ops down) :
 Calls Tryz.prog 19 #[.pointer (some ⟨u, 0, none⟩), .pointer (some ⟨d, 0, none⟩), .pointer (some ⟨B, 0, none⟩), .pointer (some ⟨i, 0, none⟩), .int .i64 pol, .int .i64 nx] w fun e w' => e = .returned (.tuple #[.int .i64 0, .int .i64 2]) ∧ Old w w' := by
 obtain ⟨h1, h2, h3, h4⟩ := h;have g : Zrm w u gn := by
  rcases h1 with ⟨rfl, rfl⟩ | ⟨rfl, rfl⟩
  ·exact S.g.at
  ·exact S.g2.at
 have x : XSl w (.pointer (some ⟨i, 0, none⟩)) xn := by
  rcases h3 with ⟨rfl, rfl⟩ | ⟨rfl, rfl⟩
  ·exact S.x
  ·exact S.x2
 exact Zsc g hd S.t x (by omega) (by omega) (by omega) (by omega) (by omega) (h4 down)
theorem Zyq {G G2 D D2 X X2 n : Nat} {nx : Int} : Cmb G G2 D D2 X X2 n G2 D X (n + 1) n n 1 nx := ⟨.inr ⟨rfl, rfl⟩, .inl ⟨rfl, rfl⟩, .inl ⟨rfl, rfl⟩, fun _ => .inr (.inr (.inl ⟨rfl, rfl, rfl, by omega⟩))⟩
theorem Zyr {G G2 D D2 X X2 n : Nat} {nx : Int} : Cmb G G2 D D2 X X2 n G D X2 n n (n + 1) 1 nx := ⟨.inl ⟨rfl, rfl⟩, .inl ⟨rfl, rfl⟩, .inr ⟨rfl, rfl⟩, fun _ => .inr (.inl ⟨rfl, rfl, by omega⟩)⟩
theorem Zys {G G2 D D2 X X2 n : Nat} {nx : Int} : Cmb G G2 D D2 X X2 n G D2 X n (n + 1) n 1 nx := ⟨.inl ⟨rfl, rfl⟩, .inr ⟨rfl, rfl⟩, .inl ⟨rfl, rfl⟩, fun _ => .inl ⟨rfl, by omega⟩⟩
theorem Zyt {G G2 D D2 X X2 n far : Nat} {nx : Int} : Cmb G G2 D D2 X X2 n G D X n n n (3 + (far : Int)) nx := ⟨.inl ⟨rfl, rfl⟩, .inl ⟨rfl, rfl⟩, .inl ⟨rfl, rfl⟩, fun _ => .inr (.inr (.inr (.inr (.inl ⟨rfl, rfl, rfl, rfl, by omega, by omega⟩))))⟩
theorem Zyu {G G2 D D2 X X2 n far : Nat} {nx : Int} : Cmb G G2 D D2 X X2 n G D X n n n (-(far : Int)) nx := ⟨.inl ⟨rfl, rfl⟩, .inl ⟨rfl, rfl⟩, .inl ⟨rfl, rfl⟩, fun _ => .inr (.inr (.inr (.inl ⟨rfl, rfl, rfl, rfl, by omega⟩)))⟩
theorem Zyv {G G2 D D2 X X2 n far : Nat} : Cmb G G2 D D2 X X2 n G D X n n n 1 (-(far : Int)) := ⟨.inl ⟨rfl, rfl⟩, .inl ⟨rfl, rfl⟩, .inl ⟨rfl, rfl⟩, fun _ => .inr (.inr (.inr (.inr (.inr (.inl ⟨rfl, rfl, rfl, rfl, by omega, by omega, by omega⟩)))))⟩
theorem Zyw {G G2 D D2 X X2 n far : Nat} : Cmb G G2 D D2 X X2 n G D X n n n 1 (1099511627777 + (far : Int)) := ⟨.inl ⟨rfl, rfl⟩, .inl ⟨rfl, rfl⟩, .inl ⟨rfl, rfl⟩, fun _ => .inr (.inr (.inr (.inr (.inr (.inr (.inl ⟨rfl, rfl, rfl, rfl, by omega, by omega, by omega, by omega⟩))))))⟩
def ZvJ (G G2 D D2 X X2 n : Nat) (W5 : World) (s18 s19 s20 s21 s22 : Value) (wx : World) : Prop := ∃ (u d i gn dn xn : Nat) (pol nx : Int), Cmb G G2 D D2 X X2 n u d i gn dn xn pol nx ∧ s18 = .int .i64 pol ∧ s19 = .int .i64 nx ∧ s20 = .pointer (some ⟨u, 0, none⟩) ∧ s21 = .pointer (some ⟨d, 0, none⟩) ∧ s22 = .pointer (some ⟨i, 0, none⟩) ∧ wx = W5
theorem ZkA {G G2 D D2 X X2 n : Nat} {W5 : World} {u d i gn dn xn : Nat} {pol nx : Int} (h : Cmb G G2 D D2 X X2 n u d i gn dn xn pol nx) : ZvJ G G2 D D2 X X2 n W5 (.int .i64 pol) (.int .i64 nx) (.pointer (some ⟨u, 0, none⟩)) (.pointer (some ⟨d, 0, none⟩)) (.pointer (some ⟨i, 0, none⟩)) W5 :=
 ⟨u, d, i, gn, dn, xn, pol, nx, h, rfl, rfl, rfl, rfl, rfl, rfl⟩
end Go.M
