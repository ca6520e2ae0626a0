/- Walks 19. -/
import Derived.Test.YtfkpfgnigiijnaaGreatDoorProg
import Derived.Test.YtfkpfgnigiijnaaGreatDoorK2
import Derived.Test.YtfkpfgnigiijnaaGreatDoorK11
import Derived.OrdersHeld
import Derived.Deep.RegionHeld3
set_option linter.unusedVariables false
set_option linter.unusedSimpArgs false
set_option maxRecDepth 100000
namespace Go.M
open Go.Proofs Go.RowKit Go.Shelf
theorem Zvx {w : World} {Mi g len sz dur vc kp : Nat} (m0 : w.cell? ⟨Mi, 0, none⟩ = some (.slice (some ⟨g, 0, none⟩) len vc)) (m1 : w.cell? ⟨Mi, 1, none⟩ = some (.int .i64 ((sz : Nat) : Int))) (m2 : w.cell? ⟨Mi, 2, none⟩ = some (.int .i64 ((dur : Nat) : Int)))
 (f : ∀ j, w.frozen? ⟨Mi, j, none⟩ = false) (p2 : 0 < sz) (h1 : dur ≤ len) (h2 : len ≤ vc) (h3 : len ≤ 8192) (h4 : kp ≤ 8192) :
 Calls Tryz.prog 214 #[.pointer (some ⟨Mi, 0, none⟩), .int .i64 ((kp : Nat) : Int)] w fun e w' => e = .returned (.int .i64 0) ∧ ∃ k : Nat, dur ≤ k ∧ k ≤ len ∧ ((w.setCell ⟨Mi, 0, none⟩ (.slice (some ⟨g, 0, none⟩) k vc)).setCell ⟨Mi, 2, none⟩ (.int .i64 ((k : Nat) : Int))).drew = w' := by
 have f0 := f 0;have f2 := f 2;have g1 : ¬ ((kp : Int) < 0) := by omega
 have hM := block_lt_of_cell m0;simp only at hM;have hs : IntKind.i64.wrap ((len : Int) - (dur : Int)) = (len : Int) - (dur : Int) := IntWalk.i64_in _ (by omega)
 by_cases hk : (len : Int) - (dur : Int) < (kp : Int)
 ·have hs2 : IntKind.i64.wrap ((dur : Int) + ((len : Int) - (dur : Int))) = ((len : Nat) : Int) := by rw [show (dur : Int) + ((len : Int) - (dur : Int)) = (len : Int) by omega]; exact IntWalk.i64_in _ (by omega)
  have g2 : ¬ ((len : Int) < 0) := by omega
  have g3 : ¬ ((vc : Int) < (len : Int)) := by omega
  go_enter Tryz.func214, Tryz.ntmps214
  go_wp2
  go_still_tail 25, (by kernel_rfl)
  change wpList _ _ _ _ _ w.drew
  go_wp2_with (first | (go_at_call 190; refine (Zcg (va := some ⟨g, 0, none⟩) (len := len) (vc := vc) (sz := sz) (dur := dur) ?_ ?_ ?_ ?_ p2).mono ?_; (go_simp); (go_simp); (go_simp); (go_simp); rintro e w1 ⟨rfl, rfl⟩))
  go_ret;exact ⟨rfl, len, h1, Nat.le_refl _, rfl⟩
 ·obtain ⟨k, hk2⟩ : ∃ k : Nat, (k : Int) = (dur : Int) + (kp : Int) := ⟨dur + kp, by omega⟩
  have hs2 : IntKind.i64.wrap ((dur : Int) + (kp : Int)) = ((k : Nat) : Int) := by rw [← hk2]; exact IntWalk.i64_in _ (by omega)
  have hk5 : (if (len : Int) - (dur : Int) < (kp : Int) then (len : Int) - (dur : Int) else (kp : Int)) = (kp : Int) := if_neg hk
  have g2 : ¬ ((k : Int) < 0) := by omega
  have g3 : ¬ ((vc : Int) < (k : Int)) := by omega
  have q1 : dur ≤ k := by omega
  have q2 : k ≤ len := by omega
  clear hk2
  go_enter Tryz.func214, Tryz.ntmps214
  go_wp2
  go_still_tail 25, (by kernel_rfl)
  change wpList _ _ _ _ _ w.drew
  go_wp2_with (first | (go_at_call 190; refine (Zcg (va := some ⟨g, 0, none⟩) (len := k) (vc := vc) (sz := sz) (dur := dur) ?_ ?_ ?_ ?_ p2).mono ?_; (go_simp); (go_simp); (go_simp); (go_simp); rintro e w1 ⟨rfl, rfl⟩))
  go_ret;exact ⟨rfl, k, q1, q2, rfl⟩
theorem ZtT {w : World} {Mi sz kp : Nat} (m0 : w.cell? ⟨Mi, 0, none⟩ = some (.slice none 0 0)) (m1 : w.cell? ⟨Mi, 1, none⟩ = some (.int .i64 ((sz : Nat) : Int))) (m2 : w.cell? ⟨Mi, 2, none⟩ = some (.int .i64 0))
 (f : ∀ j, w.frozen? ⟨Mi, j, none⟩ = false) (p2 : 0 < sz) (h4 : kp ≤ 8192) :
 Calls Tryz.prog 214 #[.pointer (some ⟨Mi, 0, none⟩), .int .i64 ((kp : Nat) : Int)] w fun e w' => e = .returned (.int .i64 0) ∧ ((w.setCell ⟨Mi, 0, none⟩ (.slice none 0 0)).setCell ⟨Mi, 2, none⟩ (.int .i64 0)).drew = w' := by
 have hw0 : IntKind.i64.wrap 0 = 0 := by decide
 have f0 := f 0;have f2 := f 2;have hM := block_lt_of_cell m0;simp only at hM;rcases Nat.eq_zero_or_pos kp with rfl | hk
 ·go_enter Tryz.func214, Tryz.ntmps214
  go_wp2
  go_still_tail 25, (by kernel_rfl)
  change wpList _ _ _ _ _ w.drew
  go_wp2_with (first | (go_at_call 190; refine (Zcg (va := none) (len := 0) (vc := 0) (sz := sz) (dur := 0) ?_ ?_ ?_ ?_ p2).mono ?_; (go_simp); (go_simp); (go_simp); (go_simp); rintro e w1 ⟨rfl, rfl⟩))
  go_ret;exact ⟨rfl, rfl⟩
 ·have g1 : ¬ ((kp : Int) < 0) := by omega
  have g2 : (0 : Int) < (kp : Int) := by omega
  go_enter Tryz.func214, Tryz.ntmps214
  go_wp2
  go_still_tail 25, (by kernel_rfl)
  change wpList _ _ _ _ _ w.drew
  go_wp2_with (first | (go_at_call 190; refine (Zcg (va := none) (len := 0) (vc := 0) (sz := sz) (dur := 0) ?_ ?_ ?_ ?_ p2).mono ?_; (go_simp); (go_simp); (go_simp); (go_simp); rintro e w1 ⟨rfl, rfl⟩))
  go_ret;exact ⟨rfl, rfl⟩
theorem ZwA {w : World} {kb : Nat} {x : Nat} (c : w.cell? ⟨kb, 0, none⟩ = some (.int .i64 ((x : Nat) : Int))) :
 Calls Tryz.prog 212 #[.slice (some ⟨kb, 0, none⟩) 1 1] w fun e w' => e = .returned (.int .i64 ((x : Nat) : Int)) ∧ w = w' := by
 go_enter Tryz.func212, Tryz.ntmps212
 go_wp2
 go_loopw [3, 4] (fun m i wr => m = .int .i64 ((x : Nat) : Int) ∧ i = .int .i64 1 ∧ w = wr) (fun _ _ _ => 0)
 case atStart => exact ⟨rfl, rfl, rfl⟩
 case round =>
  obtain ⟨rfl, rfl, rfl⟩ := hrel;go_wp2;go_ret;exact ⟨rfl, rfl⟩
theorem Zvy {w : World} {x : Nat} (hx : x ≤ 8192) : Calls Tryz.prog 210 #[.int .i64 ((x : Nat) : Int)] w fun e w' => e = .returned (.bool false) ∧ w = w' := by
 have g1 : ¬ ((x : Int) < 0) := by omega
 have g2 : ((x : Int) ≤ 8192) := by omega
 go_enter Tryz.func210, Tryz.ntmps210
 go_wp2_with go_in
 go_ret;exact ⟨rfl, rfl⟩
theorem ZwB {w : World} {kb : Nat} {x : Nat} (c : w.cell? ⟨kb, 0, none⟩ = some (.int .i64 ((x : Nat) : Int))) (hx : x ≤ 8192) :
 Calls Tryz.prog 294 #[.slice (some ⟨kb, 0, none⟩) 1 1, .func (.func 210) #[] #[]] w fun e w' => e = .returned (.int .i64 (-1)) ∧ Old w w' := by
 have HF := Lib.hid (fun w' : World => Zvy (w := w') hx)
 go_enter Tryz.func294, Tryz.ntmps294
 go_wp2
 go_loopw [4, 5, 8] (fun a b i wr => ∃ k : Nat, k ≤ 1 ∧ i = .int .i64 k ∧ w = wr) (fun _ _ i _ => 1 - (intOf i).toNat)
 case atStart => exact ⟨0, by omega, rfl, rfl⟩
 case round =>
  obtain ⟨k, hk, rfl, rfl⟩ := hrel;rcases Nat.eq_zero_or_pos k with rfl | hp
  ·go_wp2_with (first | (go_at_call 210; refine (HF.out _).mono ?_; rintro e w1 ⟨rfl, rfl⟩))
   exact ⟨⟨1, Nat.le_refl _, rfl, trivial⟩, by simp [intOf]⟩
  ·obtain rfl : k = 1 := by omega
   go_wp2;go_ret;exact ⟨rfl, Upd.refl _ _⟩
theorem ZtU {w : World} {kb : Nat} {x : Nat} (c : w.cell? ⟨kb, 0, none⟩ = some (.int .i64 ((x : Nat) : Int))) (hx : x ≤ 8192) :
 Calls Tryz.prog 128 #[.agg #[.int .i64 0, .bool false, .slice (some ⟨kb, 0, none⟩) 1 1]] w fun e w' => e = .returned (.int .i64 0) ∧ Old w w' := by
 have HF := Lib.hid (fun (w' : World) (U : Old w w') => ZwB (Old.cellOf' U c) hx)
 go_enter Tryz.func128, Tryz.ntmps128
 go_wp2_with (first | (go_at_call 294; refine (HF.out _ ?_).mono ?_; (exact ((Upd.refl _ _).alloc _)); rintro e w1 ⟨rfl, hU⟩; have HU := Lib.hid hU; clear hU) | go_in)
 go_ret;exact ⟨rfl, ((Upd.refl _ _).alloc _).trans HU.out⟩
attribute [local go_sem] Oper.semAt_some
def ZpP (w : World) (M : Nat) : Prop := ∃ (t : TypeId) (va : Option Addr) (len vc sz dur : Nat), Has w M t #[.slice va len vc, .int .i64 ((sz : Nat) : Int), .int .i64 ((dur : Nat) : Int)] ∧ dur ≤ len ∧ len ≤ vc ∧ len ≤ sz ∧ 1 ≤ sz ∧ sz ≤ 8192 ∧ ((va = none ∧ len = 0 ∧ vc = 0) ∨ ∃ g, va = some ⟨g, 0, none⟩)
theorem ImgAt.weak {w : World} {M : Nat} {v : Value} {m : ImgS} (h : ImgAt w M v m) : ZpP w M := by
 obtain ⟨⟨t, hm⟩, own, f1, f2, p1, p2⟩ := h;rcases own.2 with ⟨h1, h2⟩ | ⟨g, c, cur, h1, hb, hg, hc⟩
 ·rw [h1] at hm;have : m.bs.length = 0 := h2;exact ⟨t, none, 0, 0, m.sz, m.dur, hm, by omega, Nat.le_refl _, Nat.zero_le _, p1, p2, .inl ⟨rfl, rfl, rfl⟩⟩
 ·rw [h1] at hm;refine ⟨t, _, _, _, m.sz, m.dur, hm, f2, hc.1, f1, p1, p2, .inr ⟨g, rfl⟩⟩
structure CrP where
 PD : Nat
 BD : Nat
 BK : Nat
 K : Nat
 S : Nat
 cap : Nat
 kb : Nat
 n : Nat
 x : Nat
 M : Nat → Nat
structure CrW (p : CrP) (w : World) : Prop where
 pd : w.cell? ⟨p.PD, 0, none⟩ = some (.pointer (some ⟨p.K, 0, none⟩))
 bd : w.cell? ⟨p.BD, 0, none⟩ = some (.pointer (some ⟨p.K, 0, none⟩))
 bk : w.cell? ⟨p.BK, 0, none⟩ = some (.slice (some ⟨p.kb, 0, none⟩) 1 1)
 k0 : w.cell? ⟨p.K, 0, none⟩ = some (.slice (some ⟨p.S, 0, none⟩) (p.n + 2) p.cap)
 s0 : ∀ i, i < p.n + 2 → w.cell? ⟨p.S, i, none⟩ = some (.pointer (some ⟨p.M i, 0, none⟩))
 m : ∀ i, i < p.n + 2 → ZpP w (p.M i)
 kp : w.cell? ⟨p.kb, 0, none⟩ = some (.int .i64 ((p.x : Nat) : Int))
theorem cell_grown {X Y : World} {row : Option Nat} (hg : X.grownBy Y row) (hr : ∀ r, row = some r → ∃ o : Obj, X.heap[r]? = some o ∧ o.isCells = false) {a : Addr} {v : Value} (h : X.cell? a = some v) : Y.cell? a = some v := by
 have hl := World.block_lt_of_cell? X a h;have hne : some a.block ≠ row := fun e => by
  obtain ⟨o, ho, hc⟩ := hr a.block e.symm;unfold World.cell? at h;rw [ho] at h;cases o <;> simp_all [Obj.isCells]
 unfold World.cell? at *
 rw [hg.block _ hl hne];exact h
theorem ZpG {X Y : World} {row : Option Nat} (hg : X.grownBy Y row) (hr : ∀ r, row = some r → ∃ o : Obj, X.heap[r]? = some o ∧ o.isCells = false) {B : Nat} {t : TypeId} {c : Array Value} (h : Has X B t c) : Has Y B t c :=
 Zf5 B t (fun (_ : Unit) => c) () X Y row h hg hr
theorem ZpP.grown {X Y : World} {row : Option Nat} (hg : X.grownBy Y row) (hr : ∀ r, row = some r → ∃ o : Obj, X.heap[r]? = some o ∧ o.isCells = false) {M : Nat} : ZpP X M → ZpP Y M
 | ⟨t, va, len, vc, sz, dur, h, r⟩ => ⟨t, va, len, vc, sz, dur, ZpG hg hr h, r⟩
theorem CrW.grown {p : CrP} {X Y : World} {row : Option Nat} (h : CrW p X) (hg : X.grownBy Y row) (hr : ∀ r, row = some r → ∃ o : Obj, X.heap[r]? = some o ∧ o.isCells = false) : CrW p Y :=
 ⟨cell_grown hg hr h.pd, cell_grown hg hr h.bd, cell_grown hg hr h.bk, cell_grown hg hr h.k0, fun i hi => cell_grown hg hr (h.s0 i hi), fun i hi => (h.m i hi).grown hg hr, cell_grown hg hr h.kp⟩
theorem Zvz {w : World} {K S n cap : Nat} (k0 : w.cell? ⟨K, 0, none⟩ = some (.slice (some ⟨S, 0, none⟩) (n + 2) cap)) (hn : n ≤ 32) :
 Calls Tryz.prog 296 #[.pointer (some ⟨K, 0, none⟩)] w fun e w' => e = .returned (.int .i64 ((n : Nat) + 2 : Int)) ∧ w = w' := by
 have p1 : (0 : Int) < (n : Int) + 2 := by omega
 go_enter Tryz.func296, Tryz.ntmps296
 go_wp2;go_ret;exact ⟨rfl, rfl⟩
theorem ZvA {w : World} {Mi sz len vc : Nat} {va : Option Addr} (m0 : w.cell? ⟨Mi, 0, none⟩ = some (.slice va len vc)) (m1 : w.cell? ⟨Mi, 1, none⟩ = some (.int .i64 ((sz : Nat) : Int))) (p2 : 0 < sz) :
 Calls Tryz.prog 126 #[.pointer (some ⟨Mi, 0, none⟩)] w fun e w' => e = .returned (.int .i64 ((len : Nat) : Int)) ∧ w = w' := by
 go_enter Tryz.func126, Tryz.ntmps126
 go_wp2;go_ret;exact ⟨rfl, rfl⟩
theorem ZpH (nf : Nat) (hnf : 1 ≤ nf) (l : Nat) (p : CrP) (hn : p.n ≤ 32) (J Jx : List {i : Nat // i < p.n + 2} → World → Prop)
 (hY : ∀ pre i W, J pre W → pre.length < p.n + 2 → YieldAt Fence.wide (nf - 1) Tryz.prog l #[.int .i64 ((i.1 : Nat) : Int)] W fun e W' =>
   (e = .returned (.bool true) ∧ J (pre ++ [i]) W' ∧ (CrW p W → CrW p W')) ∨ (e = .returned (.bool false) ∧ Jx (pre ++ [i]) W'))
 (W : World) (hJ : AbidesFrom W.heap.size J) (hC : CrW p W) (h0 : J [] W) :
 Calls Tryz.prog 295 #[.func (.yield l) #[] #[], .pointer (some ⟨p.PD, 0, none⟩)] W fun e W' => (∃ v, e = .returned v) ∧ ((∃ ys, True ∧ J ys W') ∨ ∃ pre, True ∧ Jx pre W') := by
 refine callsIn_wide (n := nf) |>.1 ?_
 refine callsIn_of_wp Tryz.func295 rfl trivial ?_ rfl;simp only [Tryz.ntmps295, List.size_toArray, List.length_cons, List.length_nil, Nat.reduceAdd, Nat.reduceSub, Array.replicate_succ, Array.replicate_zero, List.push_toArray, List.append_toArray, List.nil_append, List.cons_append];have HY := Lib.hid hY;have HJ := Lib.hid hJ;have HC := Lib.hid hC;clear hY hJ;obtain ⟨c1, -, -, c2, -, -, -⟩ := hC;have g1 : (0 : Int) < (p.n : Int) + 2 := by omega
 gi_wp2_with (first | (refine ⟨trivial, ?_⟩; gi_at_call 296; refine (callsIn_wide.2 (Zvz c2 hn)).mono ?_; rintro e w1 ⟨rfl, rfl⟩))
 gi_loopw [3, 6] (fun _ i wr => ∃ (k : Nat) (pre : List {i : Nat // i < p.n + 2}), k ≤ p.n + 2 ∧ pre.length ≤ k ∧ i = .int .i64 k ∧ J pre wr ∧ CrW p wr)
  (fun _ i _ => p.n + 2 - (intOf i).toNat)
 case atStart => exact ⟨0, [], Nat.zero_le _, Nat.le_refl _, rfl, h0, HC.out⟩
 case round =>
  obtain ⟨k, pre, hk, hpl, rfl, hJs, hcr⟩ := hrel
  by_cases hlt : k < p.n + 2
  ·obtain ⟨t, va, len, vc, sz, dur, hm, q1, q2, q3, q4, q5, q6⟩ := hcr.m k hlt;have m0 := hm.cell 0;have m1 := hm.cell 1;have e1 := hcr.pd;have e2 := hcr.k0;have e3 := hcr.s0 k hlt;have HLN := Lib.hid (ZvA (w := wr) (Mi := p.M k) (sz := sz) (len := len) (vc := vc) (va := va) m0 m1 (by omega))
   have g2 : ((k : Nat) : Int) < (p.n : Int) + 2 := by omega
   have HCR := Lib.hid hcr;clear hcr hm m0 m1 q1 q2 q3 q4 q5 q6;rcases Nat.eq_zero_or_pos len with rfl | hp
   ·gi_wp2_with (first | (refine ⟨trivial, ?_⟩; gi_at_call 126; refine (callsIn_wide.2 HLN.out).mono ?_; rintro e w1 ⟨rfl, rfl⟩))
    refine ⟨fun f h => (by cases h), ?_⟩
    gi_wp2
    go_roundw
    case rel => exact ⟨k + 1, pre, by omega, by omega, by simp, hJs, HCR.out⟩
    case measure => simp [intOf]; omega
   ·obtain ⟨fn, tmps, assign, body, hy, hR⟩ := HY.out pre ⟨k, hlt⟩ wr hJs (by omega)
    gi_wp2_with (first | (refine ⟨trivial, ?_⟩; gi_at_call 126; refine (callsIn_wide.2 HLN.out).mono ?_; rintro e w1 ⟨rfl, rfl⟩))
    refine hR.mono ?_;rintro e W3 (⟨rfl, hJ3, hk3⟩ | ⟨rfl, hJx3⟩)
    ·gi_wp2
     go_roundw
     case rel => exact ⟨k + 1, pre ++ [⟨k, hlt⟩], by omega, by simp; omega, by simp, hJ3, hk3 HCR.out⟩
     case measure => simp [intOf]; omega
    ·gi_wp2
     refine bodyPost_ret (results_none rfl _ _ _) rfl ?_;exact ⟨⟨_, rfl⟩, .inr ⟨_, trivial, hJx3⟩⟩
  ·obtain rfl : k = p.n + 2 := by omega
   gi_wp2
   go_end0
   exact ⟨⟨_, rfl⟩, .inl ⟨_, trivial, hJs⟩⟩
end Go.M
namespace Go.M
open Go.Proofs Go.RowKit
theorem Znc {l n : Nat} {P : Program} {o : Oper} {a : Act} {K : Act → World → Prop} {Q : Exit → Act → World → Prop} {r : Result Next} (h : o.upon P a K Q r) : o.uponIn (Fence.wide.inRound l) n P a K Q r := by
 cases r with
 | ok x w' =>
  cases x <;> simp only [Oper.upon, Oper.uponIn] at h ⊢
  case value => exact h
  case skip => exact h
  case defer => exact h
  case enter => exact ⟨fun hd => (by cases hd), CallsIn.inRound l (callsIn_wide.2 (Calls.mono h (fun e w'' he => (by cases e <;> exact he))))⟩
  case row => exact ⟨fun hd => (by cases hd), fun c cs _ => let ⟨v, w', r, s⟩ := h c cs; ⟨v, w', r, stepsIn_wide.2 s⟩⟩
 | halt x w' => cases x <;> simp only [Oper.upon, Oper.uponIn] at h ⊢ <;> exact h
def Zky (o : Oper) : Bool := match o.op with | .defer _ => false | _ => true
theorem ZpI {l n : Nat} {P : Program} {md : Region.Mode} {ops : Array Oper} {Q : Exit → Act → World → Prop} (hd : ops.all Zky = true) (hL : ¬ LetsOut Q) :
 ∀ (fuel : Nat) (listed : Array Bool) (a : Act) (w : World), wpAny P md ops Q fuel listed a w → wpAnyIn (Fence.wide.inRound l) n P md ops Q fuel listed a w := by
 intro fuel
 induction fuel with
 | zero => exact fun _ _ _ h => h
 | succ fuel ih =>
  rintro listed a w ⟨h1, h2⟩;refine ⟨h1, fun i hi => ?_⟩
  have h := h2 i hi;unfold wpOp at h;unfold wpOpIn;cases ho : ops[i]? with
  | none => simp only [ho] at h ⊢; exact ih _ _ _ h
  | some o =>
   simp only [ho] at h ⊢;have hn : ∀ c, o.op ≠ .defer c := fun c e => by
    have := Array.all_eq_true.1 hd i (Array.getElem?_eq_some_iff.1 ho).1;rw [(Array.getElem?_eq_some_iff.1 ho).2] at this;simp [Zky, e] at this
   split at h
   ·rename_i hw;rw [if_pos hw];rcases h with h | ⟨_, h⟩
    ·refine Oper.wpIn_mono (fun a w => ih _ a w) ⟨fun f _ => trivial, ?_⟩
     rw [show o.semAt (Fence.wide.inRound l).round a.eval = execOp a.eval o from Oper.semAt_some l _ _ hn]
     exact Znc h
    ·exact absurd h hL
   ·rename_i hw;rw [if_neg hw];exact ⟨fun f _ => trivial, ih _ _ _ h⟩
theorem Zjk {l n id : Nat} {P : Program} {ops : Array Oper} {Q : Exit → Act → World → Prop} {a : Act} {w : World} (S : World → Prop) (hm : P.follows .mixedOrders = true) (hd : ops.all Zky = true) (hL : ¬ LetsOut Q)
 (h : wpAnyH P .any ops Q S ops.size (Array.replicate ops.size false) a w.drew) : (Code.region id ops true).wpIn (Fence.wide.inRound l) n P Q a w :=
 wpIn_region_any hm (ZpI hd hL _ _ _ _ (wpAny_of_held _ _ _ _ h))
end Go.M
namespace Go.M
open Go.Proofs Go.RowKit Go.Shelf
attribute [local go_sem] Oper.semAt_some
theorem CrW.old {p : CrP} {W W' : World} (h : CrW p W) (U : Old W W') : CrW p W' :=
 ⟨Old.cellOf' U h.pd, Old.cellOf' U h.bd, Old.cellOf' U h.bk, Old.cellOf' U h.k0, fun i hi => Old.cellOf' U (h.s0 i hi), fun i hi => by obtain ⟨t, va, len, vc, sz, dur, hm, r⟩ := h.m i hi; exact ⟨t, va, len, vc, sz, dur, U.has hm, r⟩, Old.cellOf' U h.kp⟩
theorem Zap {W : World} {b i c j : Nat} {v u : Value} (h : b ≠ c) (hc : W.cell? ⟨b, i, none⟩ = some u) : (W.setCell ⟨c, j, none⟩ v).cell? ⟨b, i, none⟩ = some u := by
 rw [World.cell?_setCell_far _ _ _ _ (by simpa using Ne.symm h)]; exact hc
theorem CrW.crash {p : CrP} {W : World} (h : CrW p W) (hne : ∀ i, i < p.n + 2 → p.M i ≠ p.PD ∧ p.M i ≠ p.BD ∧ p.M i ≠ p.BK ∧ p.M i ≠ p.K ∧ p.M i ≠ p.S ∧ p.M i ≠ p.kb) {i len vc sz dur k : Nat} {va : Option Addr} {t : TypeId} (hi : i < p.n + 2)
 (hm : Has W (p.M i) t #[.slice va len vc, .int .i64 ((sz : Nat) : Int), .int .i64 ((dur : Nat) : Int)]) (q2 : k ≤ vc) (q3 : k ≤ sz) (q4 : 1 ≤ sz) (q5 : sz ≤ 8192) (q6 : (va = none ∧ k = 0 ∧ vc = 0) ∨ ∃ g, va = some ⟨g, 0, none⟩) :
 CrW p (((W.setCell ⟨p.M i, 0, none⟩ (.slice va k vc)).setCell ⟨p.M i, 2, none⟩ (.int .i64 ((k : Nat) : Int))).drew) := by
 obtain ⟨n1, n5, n6, n2, n3, n4⟩ := hne i hi;refine ⟨Zap (Ne.symm n1) (Zap (Ne.symm n1) h.pd), Zap (Ne.symm n5) (Zap (Ne.symm n5) h.bd), Zap (Ne.symm n6) (Zap (Ne.symm n6) h.bk), Zap (Ne.symm n2) (Zap (Ne.symm n2) h.k0), fun j hj => Zap (Ne.symm n3) (Zap (Ne.symm n3) (h.s0 j hj)), fun j hj => ?_, Zap (Ne.symm n4) (Zap (Ne.symm n4) h.kp)⟩
 by_cases hj2 : p.M j = p.M i
 ·rw [hj2];have := ((hm.set 0 (.slice va k vc)).set 2 (.int .i64 ((k : Nat) : Int))).drew;exact ⟨t, va, k, vc, sz, k, this, Nat.le_refl _, q2, q3, q4, q5, q6⟩
 ·obtain ⟨t', va, len', vc', sz', dur', hm', r⟩ := h.m j hj;exact ⟨t', va, len', vc', sz', dur', ((hm'.setOther (Ne.symm hj2) _).setOther (Ne.symm hj2) _).drew, r⟩
theorem Zv9 {F : Nat → Prop} {w W : World} (h : Upd F w W) {m : Nat} (hm : F m) (v v' : Value) : Upd F w (((W.drew.setCell ⟨m, 0, none⟩ v).setCell ⟨m, 2, none⟩ v').drew) := ((h.drew.setCell _ _ (.inl hm)).setCell _ _ (.inl hm)).drew
def CrK (p : CrP) (A B : World) : Prop := CrW p A → CrW p B
theorem Znd {p : CrP} (nf : Nat) (hnf : 1 ≤ nf) (hn : p.n ≤ 32) {w : World} (hC : CrW p w) :
 SeqStopsK Fence.wide nf Tryz.prog 295 #[.pointer (some ⟨p.PD, 0, none⟩)] (fun i : {i : Nat // i < p.n + 2} => #[.int .i64 ((i.1 : Nat) : Int)]) (CrK p) (fun _ => True) (fun _ => True) (p.n + 2) w := fun l J Jx W hW hJ hJx hY h0 =>
 callsIn_wide.2 (ZpH nf hnf l p hn J Jx hY W hJ (hC.old (Zb2 hW)) h0)
theorem KeepsFrom.of_upd {F : Nat → Prop} {B : Nat} {W W' : World} (h : Upd F W W') (hF : ∀ b, F b → b < B) : KeepsFrom B W W' :=
 ⟨h.size, fun k o hB ho _ => (h.keep k (Array.getElem?_eq_some_iff.1 ho).1 (fun hf => by have := hF k hf; omega)).trans ho⟩
set_option maxHeartbeats 1600000 in
theorem ZvB {w : World} {K S cap kb n x : Nat} {M : Nat → Nat} (hn : n ≤ 32) (hx : x ≤ 8192) (k0 : w.cell? ⟨K, 0, none⟩ = some (.slice (some ⟨S, 0, none⟩) (n + 2) cap)) (s0 : ∀ i, i < n + 2 → w.cell? ⟨S, i, none⟩ = some (.pointer (some ⟨M i, 0, none⟩)))
 (hm : ∀ i, i < n + 2 → ZpP w (M i)) (kp : w.cell? ⟨kb, 0, none⟩ = some (.int .i64 ((x : Nat) : Int))) (hne : ∀ i, i < n + 2 → M i ≠ K ∧ M i ≠ S ∧ M i ≠ kb) :
 Calls Tryz.prog 130 #[.pointer (some ⟨K, 0, none⟩), .slice (some ⟨kb, 0, none⟩) 1 1] w fun e w' => e = .returned (.int .i64 0) ∧ Upd (fun b => ∃ i, i < n + 2 ∧ b = M i) w w' := by
 refine (callsIn_wide (n := 8)).1 ?_;refine callsIn_of_wp_marks Tryz.func130 rfl trivial ?_ rfl;simp only [Tryz.ntmps130, List.size_toArray, List.length_cons, List.length_nil, Nat.reduceAdd, Nat.reduceSub, Array.replicate_succ, Array.replicate_zero, List.push_toArray, List.append_toArray, List.nil_append, List.cons_append];refine wpIn_wide.2 ?_;have hMl : ∀ i, i < n + 2 → M i < w.heap.size := fun i hi => by obtain ⟨t, va, len, vc, sz, dur, h, _⟩ := hm i hi; exact h.lt
 have g1 : (0 : Int) < (n : Int) + 2 := by omega
 have g2 : ¬ ((x : Int) < 0) := by omega
 have gd : decide ((x : Int) < 0) = false := by simp
 have HM := Lib.hid hMl;have HN := Lib.hid hne;have HI := Lib.hid hm;have HS := Lib.hid s0;have hKl : K < w.heap.size := World.block_lt_of_cell? w _ k0;have hkl : kb < w.heap.size := World.block_lt_of_cell? w _ kp;have kK : ∀ k, K < w.heap.size + k := fun k => by omega
 have kB : ∀ k, kb < w.heap.size + k := fun k => by omega
 clear hMl hne hm s0
 go_wp2_with (first | (go_at_call 212; refine (ZwA (x := x) (by go_simp)).mono ?_; rintro e w1 ⟨rfl, rfl⟩) | go_in)
 obtain ⟨W0, hW0⟩ : ∃ W0, (((w.alloc (.cells #[.pointer (some ⟨K, 0, none⟩)] 44)).alloc (.cells #[.slice (some ⟨kb, 0, none⟩) 1 1] 63)).alloc (.cells #[.pointer (some ⟨K, 0, none⟩)] 44)) = W0 := ⟨_, rfl⟩;have U0 : Old w W0 := by rw [← hW0]; exact (((Upd.refl _ w).alloc _).alloc _).alloc _
 have z0 : W0.heap.size = w.heap.size + 3 := by rw [← hW0]; simp
 have p0 : W0.cell? ⟨w.heap.size, 0, none⟩ = some (.pointer (some ⟨K, 0, none⟩)) := by subst hW0; go_simp
 have p1 : W0.cell? ⟨w.heap.size + 1, 0, none⟩ = some (.slice (some ⟨kb, 0, none⟩) 1 1) := by subst hW0; go_simp
 have p2 : W0.cell? ⟨w.heap.size + 1 + 1, 0, none⟩ = some (.pointer (some ⟨K, 0, none⟩)) := by subst hW0; go_simp
 rw [hW0];obtain ⟨p, hp⟩ : ∃ p : CrP, p = ⟨w.heap.size + 1 + 1, w.heap.size, w.heap.size + 1, K, S, cap, kb, n, x, M⟩ := ⟨_, rfl⟩;have hC0 : CrW p W0 := by
  subst hp;exact ⟨p2, p0, p1, Old.cellOf' U0 k0, fun i hi => Old.cellOf' U0 (HS.out i hi), fun i hi => by obtain ⟨t, va, len, vc, sz, dur, h, r⟩ := HI.out i hi; exact ⟨t, va, len, vc, sz, dur, U0.has h, r⟩, Old.cellOf' U0 kp⟩
 have HNE : Hid (∀ i, i < p.n + 2 → p.M i ≠ p.PD ∧ p.M i ≠ p.BD ∧ p.M i ≠ p.BK ∧ p.M i ≠ p.K ∧ p.M i ≠ p.S ∧ p.M i ≠ p.kb) := by
  subst hp;intro i hi;have a := HM.out i hi;obtain ⟨b, c, d⟩ := HN.out i hi;exact ⟨by simp only; omega, by simp only; omega, by simp only; omega, b, c, d⟩
 have HML : Hid (∀ i, i < p.n + 2 → p.M i < w.heap.size) := by subst hp; exact HM.out
 have hpn : p.n = n := by rw [hp]
 have hpx : p.x = x := by rw [hp]
 have hK0 : p.K = K := by rw [hp]
 have hkb : p.kb = kb := by rw [hp]
 have hBD : p.BD = w.heap.size := by rw [hp]
 have hBK : p.BK = w.heap.size + 1 := by rw [hp]
 have hPD : p.PD = w.heap.size + 1 + 1 := by rw [hp]
 have HFI : Hid (∀ b, (∃ i, i < p.n + 2 ∧ b = p.M i) → ∃ i, i < n + 2 ∧ b = M i) := by subst hp; exact fun b h => h
 clear hp HM HN HS HI hW0 p0 p1 p2;refine (wpIn_wide (n := 8)).1 ?_;refine wpIn_rangeFunc_ownH rfl (by omega) (Kp := CrK p) (gf := 295) (lb := #[.pointer (some ⟨w.heap.size + 1 + 1, 0, none⟩)]) rfl trivial (enters_of Tryz.func295 (by kernel_rfl) rfl)
  (by rw [← hPD]; exact Znd (p := p) 7 (by omega) (by omega) hC0) (fun h k c => k (h c)) (fun W l o o' _ ho hc _ c => c.grown (grownBy_putObj' W l o') (fun r e => by cases e; exact ⟨o, ho, hc⟩)) (Below.refl _ _) (fun _ => rfl)
  (fun (pre : List {i : Nat // i < p.n + 2}) W => CrW p W ∧ Upd (fun b => ∃ i, i < p.n + 2 ∧ b = p.M i) w W)
  (fun _ _ _ => False)
  (fun s X Y row hs hg hr => ⟨hs.1.grown hg (fun r e => (hr r e).2), hs.2.grown hg (fun k e => .inr (by have := (hr k e).1; omega))⟩)
  (fun _ _ _ _ _ hs _ _ => hs)
  ⟨hC0, U0.mono (fun b _ h => h.elim)⟩
  (fun i a' W => a' = { tmps := ((.pointer (some ⟨K, 0, none⟩) :: .slice (some ⟨kb, 0, none⟩) 1 1 :: .pointer (some ⟨w.heap.size, 0, none⟩) :: .pointer (some ⟨w.heap.size + 1, 0, none⟩) :: .int .i64 0 :: .int .i64 ((i.1 : Nat) : Int) :: .bool false :: .pointer (some ⟨K, 0, none⟩) :: .bool true :: .bool false :: .bool false :: .slice (some ⟨kb, 0, none⟩) 1 1 :: .int .i64 1 :: .bool false :: .bool false :: .slice (some ⟨kb, 0, none⟩) 1 1 :: .int .i64 1 :: .bool false :: .bool false :: .bool false :: .slice (some ⟨kb, 0, none⟩) 1 1 :: .int .i64 ((x : Nat) : Int) :: .bool false :: .bool false :: .pointer (some ⟨K, 0, none⟩) :: .func (.func 295) #[] #[.pointer (some ⟨w.heap.size + 1 + 1, 0, none⟩)] :: .int .i64 ((i.1 : Nat) : Int) :: undef :: undef :: undef :: undef :: undef :: undef :: undef :: undef :: undef :: undef :: undef :: undef :: undef :: undef :: undef :: undef :: [] : List Value)).toArray, defers := [] })
  (fun _ _ _ _ _ _ hs _ _ => hs)
  ?assign ?body ?done ?stop
 case assign =>
  rintro l pre i W K' h hK'
  gi_wp2
  exact hK' _ _ (KeepsFrom.refl _ _) (fun c => c) h rfl
 case body =>
  rintro l pre i a' W hl ⟨r, hr⟩ ⟨hc, hU⟩ rfl hlt;obtain ⟨iv, hi0⟩ := i;obtain ⟨t, va, len, vc, sz, dur, hm, q1, q2, q3, q4, q5, q6⟩ := hc.m iv hi0;have m0 := hm.cell 0;have m1 := hm.cell 1;have m2 := hm.cell 2;have e1 : W.cell? ⟨w.heap.size, 0, none⟩ = some (.pointer (some ⟨K, 0, none⟩)) := by rw [← hBD, ← hK0]; exact hc.bd
  have e2 : W.cell? ⟨w.heap.size + 1, 0, none⟩ = some (.slice (some ⟨kb, 0, none⟩) 1 1) := by rw [← hBK, ← hkb]; exact hc.bk
  have e3 := hc.k0;have e4 := hc.s0 iv hi0;have e5 := hc.kp;rw [hK0, hpn] at e3;rw [hkb, hpx] at e5;have hi := hi0;rw [hpn] at hi;have w1 : ((iv : Nat) : Int).tmod 1 = 0 := Int.tmod_one _;have w2 : ((iv : Nat) : Int) < (n : Int) + 2 := by omega
  have w3 : ¬ ((8192 : Int) < (x : Int)) := by omega
  have wif : (if (8192 : Int) < (x : Int) then (8192 : Int) else (x : Int)) = (x : Int) := if_neg w3
  have hne := HNE.out iv hi0;have hml := HML.out iv hi0;have hfi : ∃ i, i < p.n + 2 ∧ p.M iv = p.M i := ⟨iv, hi0, rfl⟩
  gi_wp2
  refine Zjk (fun x' => x'.cell? ⟨w.heap.size, 0, none⟩ = some (.pointer (some ⟨K, 0, none⟩)) ∧ x'.cell? ⟨w.heap.size + 1, 0, none⟩ = some (.slice (some ⟨kb, 0, none⟩) 1 1) ∧ x'.cell? ⟨K, 0, none⟩ = some (.slice (some ⟨p.S, 0, none⟩) (n + 2) p.cap) ∧ x'.cell? ⟨p.S, iv, none⟩ = some (.pointer (some ⟨p.M iv, 0, none⟩)) ∧ x'.cell? ⟨kb, 0, none⟩ = some (.int .i64 ((x : Nat) : Int))) (by kernel_rfl) (by kernel_rfl) (fun ⟨_, _, h⟩ => h) ?_
  have hS : W.drew.cell? ⟨w.heap.size, 0, none⟩ = some (.pointer (some ⟨K, 0, none⟩)) ∧ W.drew.cell? ⟨w.heap.size + 1, 0, none⟩ = some (.slice (some ⟨kb, 0, none⟩) 1 1) ∧ W.drew.cell? ⟨K, 0, none⟩ = some (.slice (some ⟨p.S, 0, none⟩) (n + 2) p.cap) ∧ W.drew.cell? ⟨p.S, iv, none⟩ = some (.pointer (some ⟨p.M iv, 0, none⟩)) ∧ W.drew.cell? ⟨kb, 0, none⟩ = some (.int .i64 ((x : Nat) : Int)) := ⟨e1, e2, e3, e4, e5⟩;refine wpAnyH_take (i := 0) (v := .pointer (some ⟨K, 0, none⟩)) rfl (by kernel_rfl) (by kernel_rfl) (by kernel_rfl) (fun _ _ _ h => h) (Or.inl ⟨by rfl, fun w' hS' => by obtain ⟨s1, s2, s3, s4, s5⟩ := hS'; go_simp⟩) hS ?_
  simp only [Act.put, List.setIfInBounds_toArray, List.set_cons_zero, List.set_cons_succ];refine wpAnyH_take (i := 1) (v := .pointer (some ⟨K, 0, none⟩)) rfl (by kernel_rfl) (by kernel_rfl) (by kernel_rfl) (fun _ _ _ h => h) (Or.inl ⟨by rfl, fun w' hS' => by obtain ⟨s1, s2, s3, s4, s5⟩ := hS'; go_simp⟩) hS ?_
  simp only [Act.put, List.setIfInBounds_toArray, List.set_cons_zero, List.set_cons_succ];refine wpAnyH_take (i := 2) (v := .pointer (some ⟨K, 0, none⟩)) rfl (by kernel_rfl) (by kernel_rfl) (by kernel_rfl) (fun _ _ _ h => h) (Or.inl ⟨by rfl, fun w' hS' => by obtain ⟨s1, s2, s3, s4, s5⟩ := hS'; go_simp⟩) hS ?_
  simp only [Act.put, List.setIfInBounds_toArray, List.set_cons_zero, List.set_cons_succ];refine wpAnyH_take (i := 3) (v := .slice (some ⟨p.S, 0, none⟩) (n + 2) p.cap) rfl (by kernel_rfl) (by kernel_rfl) (by kernel_rfl) (fun _ _ _ h => h) (Or.inl ⟨by rfl, fun w' hS' => by obtain ⟨s1, s2, s3, s4, s5⟩ := hS'; go_simp⟩) hS ?_
  simp only [Act.put, List.setIfInBounds_toArray, List.set_cons_zero, List.set_cons_succ];refine wpAnyH_take (i := 4) (v := .int .i64 ((iv : Nat) : Int)) rfl (by kernel_rfl) (by kernel_rfl) (by kernel_rfl) (fun _ _ _ h => h) (Or.inl ⟨by rfl, fun w' hS' => by obtain ⟨s1, s2, s3, s4, s5⟩ := hS'; go_simp⟩) hS ?_
  simp only [Act.put, List.setIfInBounds_toArray, List.set_cons_zero, List.set_cons_succ];refine wpAnyH_take (i := 5) (v := .pointer (some ⟨p.S, iv, none⟩)) rfl (by kernel_rfl) (by kernel_rfl) (by kernel_rfl) (fun _ _ _ h => h) (Or.inl ⟨by rfl, fun w' hS' => by obtain ⟨s1, s2, s3, s4, s5⟩ := hS'; go_simp⟩) hS ?_
  simp only [Act.put, List.setIfInBounds_toArray, List.set_cons_zero, List.set_cons_succ];refine wpAnyH_take (i := 6) (v := .pointer (some ⟨p.M iv, 0, none⟩)) rfl (by kernel_rfl) (by kernel_rfl) (by kernel_rfl) (fun _ _ _ h => h) (Or.inl ⟨by rfl, fun w' hS' => by obtain ⟨s1, s2, s3, s4, s5⟩ := hS'; go_simp⟩) hS ?_
  simp only [Act.put, List.setIfInBounds_toArray, List.set_cons_zero, List.set_cons_succ];refine wpAnyH_take (i := 7) (v := .slice (some ⟨kb, 0, none⟩) 1 1) rfl (by kernel_rfl) (by kernel_rfl) (by kernel_rfl) (fun _ _ _ h => h) (Or.inl ⟨by rfl, fun w' hS' => by obtain ⟨s1, s2, s3, s4, s5⟩ := hS'; go_simp⟩) hS ?_
  simp only [Act.put, List.setIfInBounds_toArray, List.set_cons_zero, List.set_cons_succ];refine wpAnyH_take (i := 8) (v := .int .i64 ((iv : Nat) : Int)) rfl (by kernel_rfl) (by kernel_rfl) (by kernel_rfl) (fun _ _ _ h => h) (Or.inl ⟨by rfl, fun w' hS' => by obtain ⟨s1, s2, s3, s4, s5⟩ := hS'; go_simp⟩) hS ?_
  simp only [Act.put, List.setIfInBounds_toArray, List.set_cons_zero, List.set_cons_succ];refine wpAnyH_take (i := 9) (v := .slice (some ⟨kb, 0, none⟩) 1 1) rfl (by kernel_rfl) (by kernel_rfl) (by kernel_rfl) (fun _ _ _ h => h) (Or.inl ⟨by rfl, fun w' hS' => by obtain ⟨s1, s2, s3, s4, s5⟩ := hS'; go_simp⟩) hS ?_
  simp only [Act.put, List.setIfInBounds_toArray, List.set_cons_zero, List.set_cons_succ];refine wpAnyH_take (i := 10) (v := .int .i64 1) rfl (by kernel_rfl) (by kernel_rfl) (by kernel_rfl) (fun _ _ _ h => h) (Or.inl ⟨by rfl, fun w' hS' => by obtain ⟨s1, s2, s3, s4, s5⟩ := hS'; go_simp⟩) hS ?_
  simp only [Act.put, List.setIfInBounds_toArray, List.set_cons_zero, List.set_cons_succ];refine wpAnyH_take (i := 11) (v := .int .i64 0) rfl (by kernel_rfl) (by kernel_rfl) (by kernel_rfl) (fun _ _ _ h => h) (Or.inl ⟨by rfl, fun w' hS' => by obtain ⟨s1, s2, s3, s4, s5⟩ := hS'; go_simp⟩) hS ?_
  simp only [Act.put, List.setIfInBounds_toArray, List.set_cons_zero, List.set_cons_succ];refine wpAnyH_take (i := 12) (v := .pointer (some ⟨kb, 0, none⟩)) rfl (by kernel_rfl) (by kernel_rfl) (by kernel_rfl) (fun _ _ _ h => h) (Or.inl ⟨by rfl, fun w' hS' => by obtain ⟨s1, s2, s3, s4, s5⟩ := hS'; go_simp⟩) hS ?_
  simp only [Act.put, List.setIfInBounds_toArray, List.set_cons_zero, List.set_cons_succ];refine wpAnyH_take (i := 13) (v := .int .i64 ((x : Nat) : Int)) rfl (by kernel_rfl) (by kernel_rfl) (by kernel_rfl) (fun _ _ _ h => h) (Or.inl ⟨by rfl, fun w' hS' => by obtain ⟨s1, s2, s3, s4, s5⟩ := hS'; go_simp⟩) hS ?_
  simp only [Act.put, List.setIfInBounds_toArray, List.set_cons_zero, List.set_cons_succ];refine wpAnyH_take (i := 14) (v := .int .i64 ((x : Nat) : Int)) rfl (by kernel_rfl) (by kernel_rfl) (by kernel_rfl) (fun _ _ _ h => h) (Or.inl ⟨by rfl, fun w' hS' => by obtain ⟨s1, s2, s3, s4, s5⟩ := hS'; go_simp⟩) hS ?_
  simp only [Act.put, List.setIfInBounds_toArray, List.set_cons_zero, List.set_cons_succ];have hne := HNE.out iv hi0;have hml := HML.out iv hi0;have hfi : ∃ i, i < p.n + 2 ∧ p.M iv = p.M i := ⟨iv, hi0, rfl⟩;have hcW := hc.old ((Upd.refl _ W).drew);refine wpAnyH_ready (rs := [15]) (by kernel_rfl) (by simp) ?_
  refine AllReadyH.cons rfl (fun K' hK => ?_) AllReadyH.nil
  go_simp;rcases q6 with ⟨rfl, rfl, rfl⟩ | ⟨g, rfl⟩
  ·obtain rfl : dur = 0 := by omega
   refine (ZtT (w := W.drew) m0 m1 m2 hm.drew.frozen (by omega) hx).mono ?_
   rintro e w1 ⟨rfl, rfl⟩;have hS2 := hcW.crash (k := 0) HNE.out hi0 hm.drew (Nat.le_refl _) (Nat.zero_le _) q4 q5 (.inl ⟨rfl, rfl, rfl⟩);refine hK.out _ _ ⟨by rw [← hBD, ← hK0]; exact hS2.bd, by rw [← hBK, ← hkb]; exact hS2.bk, by rw [← hK0, ← hpn]; exact hS2.k0, hS2.s0 iv hi0, by rw [← hkb, ← hpx]; exact hS2.kp⟩ (fun _ => wpAnyH_done (by kernel_rfl) ?_ _)
   exact ⟨KeepsFrom.of_upd (F := fun b => b = p.M iv) (Zv9 (F := fun b => b = p.M iv) (m := p.M iv) (Upd.refl _ W) rfl _ _) (fun b hb => by omega), fun c => hS2, hS2, Zv9 hU hfi _ _⟩
  ·refine (Zvx (w := W.drew) m0 m1 m2 hm.drew.frozen (by omega) q1 q2 (by omega) hx).mono ?_
   rintro e w1 ⟨rfl, k, hk1, hk2, rfl⟩;have hS2 := hcW.crash (k := k) HNE.out hi0 hm.drew (by omega) (by omega) q4 q5 (.inr ⟨g, rfl⟩)
   refine hK.out _ _ ⟨by rw [← hBD, ← hK0]; exact hS2.bd, by rw [← hBK, ← hkb]; exact hS2.bk, by rw [← hK0, ← hpn]; exact hS2.k0, hS2.s0 iv hi0, by rw [← hkb, ← hpx]; exact hS2.kp⟩ (fun _ => wpAnyH_done (by kernel_rfl) ?_ _)
   exact ⟨KeepsFrom.of_upd (F := fun b => b = p.M iv) (Zv9 (F := fun b => b = p.M iv) (m := p.M iv) (Upd.refl _ W) rfl _ _) (fun b hb => by omega), fun c => hS2, hS2, Zv9 hU hfi _ _⟩
 case done =>
  rintro D ys W hD - ⟨hc, hU⟩ hKD;go_wp2;refine ⟨by simp, .inl ⟨_, _, rfl, run_takeDeferred hKD, ?_⟩⟩
  exact ⟨_, results_tmp rfl _ _ _, rfl, (hU.grown (grownBy_putObj' W D _) (fun k e => by cases e; exact .inr (by omega))).mono (fun b _ h => HFI.out b h)⟩
 case stop =>
  rintro D c pre W _ _ h _;exact h.elim
end Go.M
namespace Go.M
open Go.Proofs Go.RowKit
theorem Zxg {w : World} {T kb x : Nat} {tT : TypeId} (ht : Has w T tT #[.bool true, .pointer none]) (c : w.cell? ⟨kb, 0, none⟩ = some (.int .i64 ((x : Nat) : Int))) (hx : x ≤ 8192) :
 Calls Tryz.prog 53 #[.pointer (some ⟨T, 0, none⟩), .agg #[.int .i64 0, .bool false, .slice (some ⟨kb, 0, none⟩) 1 1]] w fun e w' => e = .returned (.int .i64 0) ∧ Upd (fun b => b = T) w w' ∧ Has w' T tT #[.bool true, .pointer none] := by
 have t0 : w.cell? ⟨T, 0, none⟩ = some (.bool true) := ht.cell 0;have t1 : w.cell? ⟨T, 1, none⟩ = some (.pointer none) := ht.cell 1;have f1 := ht.frozen 1;have HHT := Lib.hid (fun (w' : World) (U : Old w w') => U.has ht)
 clear ht;have hT := block_lt_of_cell t0;have hk := block_lt_of_cell c;simp only at hT hk;have kT : ∀ k, T < w.heap.size + k := fun k => by omega
 have HF := Lib.hid (fun (w' : World) (U : Old w w') => ZtU (Old.cellOf' U c) hx)
 have HT := Lib.hid (fun (w' : World) (U : Old w w') => And.intro (Old.cellOf' U t0) (And.intro (Old.cellOf' U t1) (Old.frz U hT f1)))
 go_enter Tryz.func53, Tryz.ntmps53
 go_wp2_with (first | (go_at_call 128; refine (HF.out _ ?_).mono ?_; (exact ((Upd.refl _ _).alloc _)); rintro e w1 ⟨rfl, hU⟩; have b8 := Old.has hU (Has.new w 66 #[.int .i64 0, .bool false, .slice (some ⟨kb, 0, none⟩) 1 1]); have c8 : w1.cell? ⟨w.heap.size, 0, none⟩ = some (.int .i64 0) := b8.cell 0; clear b8; have hO := ((Upd.refl _ _).alloc _).trans hU; obtain ⟨q0, q1, q2⟩ := HT.out _ hO; have hT1 : T < w1.heap.size := block_lt_of_cell q0; clear t0 t1 f1 HF HT hU; have HU := Lib.hid hO; clear hO))
 go_ret;exact ⟨rfl, Upd.setCell (F := fun b => b = T) (HU.out.mono (fun b _ h => h.elim)) _ _ (.inl rfl), (HHT.out _ HU.out).set 1 (.pointer none)⟩
theorem ZtV {w : World} {D K S T kb n x cap : Nat} {M : Nat → Nat} {ops : Int} (hn : n ≤ 32) (hx : x ≤ 8192) (d0 : w.cell? ⟨D, 0, none⟩ = some (.pointer (some ⟨K, 0, none⟩))) (d4 : w.cell? ⟨D, 4, none⟩ = some (.bool false)) (f4 : w.frozen? ⟨D, 4, none⟩ = false) (k0 : w.cell? ⟨K, 0, none⟩ = some (.slice (some ⟨S, 0, none⟩) (n + 2) cap)) (s0 : ∀ i, i < n + 2 → w.cell? ⟨S, i, none⟩ = some (.pointer (some ⟨M i, 0, none⟩)))
 (hm : ∀ i, i < n + 2 → ZpP w (M i)) (kp : w.cell? ⟨kb, 0, none⟩ = some (.int .i64 ((x : Nat) : Int))) (hne : ∀ i, i < n + 2 → M i ≠ K ∧ M i ≠ S ∧ M i ≠ kb) (hD : ∀ i, i < n + 2 → M i ≠ D) :
 Calls Tryz.prog 54 #[.pointer (some ⟨D, 0, none⟩), .agg #[.int .i64 0, .bool false, .slice (some ⟨kb, 0, none⟩) 1 1]] w fun e w' => e = .returned (.tuple #[]) ∧ ∃ w1, Upd (fun b => ∃ i, i < n + 2 ∧ b = M i) w w1 ∧ Old (w1.setCell ⟨D, 4, none⟩ (.bool true)) w' := by
 have HC := Lib.hid (fun (w' : World) (U : Old w w') => ZvB (w := w') hn hx (Old.cellOf' U k0) (fun i hi => Old.cellOf' U (s0 i hi)) (fun i hi => by obtain ⟨t, va, len, vc, sz, dur, h, r⟩ := hm i hi; exact ⟨t, va, len, vc, sz, dur, U.has h, r⟩) (Old.cellOf' U kp) hne)
 have hDl := block_lt_of_cell d0;simp only at hDl;have HD := Lib.hid (fun (w1 : World) (U : Upd (fun b => ∃ i, i < n + 2 ∧ b = M i) w w1) => And.intro (U.cellOf d4 (fun ⟨i, hi, e⟩ => hD i hi e.symm)) (show w1.frozen? ⟨D, 4, none⟩ = false by rw [World.frozen?, U.keep D hDl (fun ⟨i, hi, e⟩ => hD i hi e.symm)]; exact f4))
 have kD : ∀ k, D < w.heap.size + k := fun k => by omega
 clear k0 s0 hm kp hne hD
 go_enter Tryz.func54, Tryz.ntmps54
 go_wp2;obtain ⟨W, hW⟩ : ∃ W, w.alloc (.cells #[.int .i64 0, .bool false, .slice (some ⟨kb, 0, none⟩) 1 1] 66) = W := ⟨_, rfl⟩;have hO : Old w W := by rw [← hW]; exact (Upd.refl _ _).alloc _
 have p2 : W.cell? ⟨w.heap.size, 2, none⟩ = some (.slice (some ⟨kb, 0, none⟩) 1 1) := by rw [← hW]; exact (Has.new w _ _).cell 2
 have e0 := Old.cellOf' hO d0;rw [hW];clear hW
 go_still_tail 7, (by kernel_rfl)
 change wpList _ _ _ _ _ W.drew
 go_wp2_with (first | (go_at_call 130; refine (HC.out _ ?_).mono ?_; (exact hO.drew); rintro e w1 ⟨rfl, hU⟩; have hO2 := ((hO.mono (G := fun b => ∃ i, i < n + 2 ∧ b = M i) (fun b _ h => h.elim)).drew).trans hU; obtain ⟨q4, q5⟩ := HD.out _ hO2; have hD1 : D < w1.heap.size := block_lt_of_cell q4; clear d0 d4 f4 HC HD hU hO; have HU := Lib.hid hO2; clear hO2))
 go_end0
 exact ⟨rfl, w1, HU.out, Upd.refl _ _⟩
theorem ZpP.upd {F : Nat → Prop} {w w' : World} {m : Nat} (h : ZpP w m) (U : Upd F w w') (hF : ¬ F m) : ZpP w' m := by
 obtain ⟨t, va, len, vc, sz, dur, h, r⟩ := h;exact ⟨t, va, len, vc, sz, dur, U.has h hF, r⟩
def ZpQ (F : Nat → Prop) (w : World) (D n : Nat) (ops : Int) : Prop := ∃ (K T : Nat) (tD tT : TypeId), T ≠ D ∧ F T ∧ Has w D tD #[.pointer (some ⟨K, 0, none⟩), .pointer (some ⟨T, 0, none⟩), .int .i64 ((n : Nat) : Int), .int .i64 ops, .bool true] ∧ Has w T tT #[.bool true, .pointer none]
theorem ZtW {w : World} {col : Col} {q D : Nat} {s : DevS} {K S cap T : Nat} {M : Nat → Nat} {V : Nat → Value} (h : DevAt w col q D s K S cap T M V) (hd : s.down = false) {kb x : Nat} (hx : x ≤ 8192) (c : w.cell? ⟨kb, 0, none⟩ = some (.int .i64 ((x : Nat) : Int))) (hk : (col kb).1 ≠ q) :
 Calls Tryz.prog 15 #[.pointer (some ⟨D, 0, none⟩), .agg #[.int .i64 0, .bool false, .slice (some ⟨kb, 0, none⟩) 1 1]] w fun e w' => e = .returned (.int .i64 0) ∧ Upd (fun b => (col b).1 = q) w w' ∧ ZpQ (fun b => (col b).1 = q) w' D s.n s.ops := by
 obtain ⟨⟨tD, d⟩, ⟨tK, k⟩, ⟨tT, t⟩, hs, hm, lo, hi2, cD, cK, cS, cT, cM, cV, -, -⟩ := h;rw [hd] at d;have d0 : w.cell? ⟨D, 0, none⟩ = some (.pointer (some ⟨K, 0, none⟩)) := d.cell 0;have d1 : w.cell? ⟨D, 1, none⟩ = some (.pointer (some ⟨T, 0, none⟩)) := d.cell 1;have d2 : w.cell? ⟨D, 2, none⟩ = some (.int .i64 ((s.n : Nat) : Int)) := d.cell 2;have d3 : w.cell? ⟨D, 3, none⟩ = some (.int .i64 s.ops) := d.cell 3;have d4 : w.cell? ⟨D, 4, none⟩ = some (.bool false) := d.cell 4;have p0 : 0 < s.n := by omega
 have hkD : D ≠ kb := fun e => hk (by rw [← e, cD])
 have hkT : T ≠ kb := fun e => hk (by rw [← e, cT])
 have hTD : T ≠ D := ZbF cT cD (by simp)
 have hTK : T ≠ K := ZbF cT cK (by simp)
 have hTS : T ≠ S := ZbF cT cS (by simp)
 have hTM : ∀ i, i < s.n + 2 → M i ≠ T := fun i hi => ZbF (cM i hi) cT (by simp; omega)
 have HN : Hid (∀ i, i < s.n + 2 → M i ≠ K ∧ M i ≠ S ∧ M i ≠ kb) := fun i hi => ⟨ZbF (cM i hi) cK (by simp; omega), ZbF (cM i hi) cS (by simp; omega), fun e => hk (by rw [← e, cM i hi])⟩
 have HND : Hid (∀ i, i < s.n + 2 → M i ≠ D) := fun i hi => ZbF (cM i hi) cD (by simp)
 have hDl := d.lt;have hTl := t.lt;have hkl : kb < w.heap.size := World.block_lt_of_cell? w _ c;have HTA := Lib.hid (fun (w' : World) (U : Old w w') => Zxg (w := w') (T := T) (kb := kb) (x := x) (U.has t) (Old.cellOf' U c) hx)
 have HCR : Hid (∀ w1 : World, Upd (fun b => b = T) w w1 → Has w1 T tT #[.bool true, .pointer none] → Calls Tryz.prog 54 #[.pointer (some ⟨D, 0, none⟩), .agg #[.int .i64 0, .bool false, .slice (some ⟨kb, 0, none⟩) 1 1]] w1 fun e w' => e = .returned (.tuple #[]) ∧ Upd (fun b => (col b).1 = q) w w' ∧ ZpQ (fun b => (col b).1 = q) w' D s.n s.ops) := fun w1 U hT1 => by
  have e := U.has d (Ne.symm hTD);refine (ZtV (w := w1) (D := D) (T := T) (ops := s.ops) hi2 hx (e.cell 0) (e.cell 4) (e.frozen 4) ((U.has k (Ne.symm hTK)).cell 0) (fun i hi => U.cellOf (hs i hi) (Ne.symm hTS)) (fun i hi => (hm i hi).weak.upd U (hTM i hi)) (U.cellOf c (Ne.symm hkT)) HN.out HND.out).mono ?_
  rintro en w' ⟨rfl, w2, hU2, hU3⟩;have nD : ¬ ∃ i, i < s.n + 2 ∧ D = M i := fun ⟨i, hi, e⟩ => HND.out i hi e.symm
  have e2 := (hU2.has e nD).set 4 (.bool true);have e3 := Old.has hU3 e2;have nT : ¬ ∃ i, i < s.n + 2 ∧ T = M i := fun ⟨i, hi, e⟩ => hTM i hi e.symm
  have e4 := Old.has hU3 ((hU2.has hT1 nT).setOther (a := ⟨D, 4, none⟩) (Ne.symm hTD) (.bool true));refine ⟨rfl, ?_, K, T, _, _, hTD, (by show (col T).1 = q; rw [cT]), e3, e4⟩
  have u1 : Upd (fun b => (col b).1 = q) w w1 := U.mono (fun b _ h => by rw [h, cT])
  have u2 : Upd (fun b => (col b).1 = q) w w2 := u1.after hU2 (fun b _ ⟨i, hi, e⟩ => by rw [e, cM i hi])
  exact (u2.setCell ⟨D, 4, none⟩ (.bool true) (.inl (by rw [cD]))).after hU3 (fun b _ h => h.elim)
 have HD4 := Lib.hid (fun (w1 : World) (U : Upd (fun b => b = T) w w1) => (U.has d (Ne.symm hTD)).cell 4)
 clear k t hs hm cM cV c
 go_enter Tryz.func15, Tryz.ntmps15
 go_wp2;obtain ⟨W, hW⟩ : ∃ W, w.alloc (.cells #[.int .i64 0, .bool false, .slice (some ⟨kb, 0, none⟩) 1 1] 66) = W := ⟨_, rfl⟩;have hO : Old w W := by rw [← hW]; exact (Upd.refl _ _).alloc _
 have hB : Has W w.heap.size 66 #[.int .i64 0, .bool false, .slice (some ⟨kb, 0, none⟩) 1 1] := by rw [← hW]; exact Has.new w _ _
 have z : W.heap.size = w.heap.size + 1 := by rw [← hW]; simp
 have y0 : W.cell? ⟨w.heap.size, 0, none⟩ = some (.int .i64 0) := hB.cell 0;have y1 : W.cell? ⟨w.heap.size, 1, none⟩ = some (.bool false) := hB.cell 1;have y2 : W.cell? ⟨w.heap.size, 2, none⟩ = some (.slice (some ⟨kb, 0, none⟩) 1 1) := hB.cell 2;have e1 := Old.cellOf' hO d1;rw [hW];clear hW d0 d1 d2 d3 d4
 go_region_held3 (fun x' => x'.cell? ⟨D, 1, none⟩ = some (.pointer (some ⟨T, 0, none⟩)) ∧ x'.cell? ⟨w.heap.size, 0, none⟩ = some (.int .i64 0) ∧ x'.cell? ⟨w.heap.size, 1, none⟩ = some (.bool false) ∧ x'.cell? ⟨w.heap.size, 2, none⟩ = some (.slice (some ⟨kb, 0, none⟩) 1 1))
  (first | go_keep | (exact ⟨E1, E2, E3, E4⟩))
  (first | (go_at_call 53; refine (HTA.out _ ?_).mono ?_; (exact hO.drew); rintro e w1 ⟨rfl, hU, hT1⟩; have HT1 := Lib.hid hT1; clear hT1; have b8 := hU.has hB.drew (by omega); have E2 := b8.cell 0; have E3 := b8.cell 1; have E4 := b8.cell 2; have E1 := hU.cellOf e1 (Ne.symm hTD); clear b8))
 have hOT := ((hO.mono (G := fun b => b = T) (fun b _ h => h.elim)).drew).trans hU
 have q4 : w1.cell? ⟨D, 4, none⟩ = some (.bool false) := HD4.out _ hOT;have HCC := Lib.hid (HCR.out _ hOT HT1.out);clear HTA HCR HD4 hU hOT e1 hB hO
 go_wp2_with (first | (go_at_call 54; refine HCC.out.mono ?_; rintro e w2 ⟨rfl, hP⟩))
 go_ret;exact ⟨rfl, hP⟩
theorem ZpQ.old {F : Nat → Prop} {w w' : World} {D n : Nat} {ops : Int} (h : ZpQ F w D n ops) (U : Old w w') : ZpQ F w' D n ops := by
 obtain ⟨K, T, tD, tT, h0, h1, h2, h3⟩ := h;exact ⟨K, T, tD, tT, h0, h1, U.has h2, U.has h3⟩
set_option maxHeartbeats 1000000 in
theorem ZvC {F : Nat → Prop} {w0 w : World} {D n : Nat} {ops : Int} (h : ZpQ F w0 D n ops) (U0 : Old w0 w) (hp : 0 < n) {kb x : Nat} (hx : x ≤ 8192) (c : w.cell? ⟨kb, 0, none⟩ = some (.int .i64 ((x : Nat) : Int))) (hk : w0.heap.size ≤ kb) :
 Calls Tryz.prog 15 #[.pointer (some ⟨D, 0, none⟩), .agg #[.int .i64 0, .bool false, .slice (some ⟨kb, 0, none⟩) 1 1]] w fun e w' => e = .returned (.int .i64 0) ∧ Upd F w w' ∧ ZpQ F w' D n ops := by
 obtain ⟨K, T, tD, tT, hTD, hFT, d, t⟩ := h;have ld := d.lt;have lt := t.lt;have d1 : w.cell? ⟨D, 1, none⟩ = some (.pointer (some ⟨T, 0, none⟩)) := (U0.has d).cell 1;have d2 : w.cell? ⟨D, 2, none⟩ = some (.int .i64 ((n : Nat) : Int)) := (U0.has d).cell 2;have d4 : w.cell? ⟨D, 4, none⟩ = some (.bool true) := (U0.has d).cell 4;have hDl := (U0.has d).lt;have hTl := (U0.has t).lt;have p0 : (0 : Int) < (n : Int) := by omega
 have p1 : 0 < n := hp;have HTA := Lib.hid (fun (w' : World) (U : Old w w') => Zxg (w := w') (T := T) (kb := kb) (x := x) (U.has (U0.has t)) (Old.cellOf' U c) hx)
 have HD := Lib.hid (fun (w1 : World) (U : Upd (fun b => b = T) w w1) => U.has (U0.has d) (Ne.symm hTD))
 clear c
 go_enter Tryz.func15, Tryz.ntmps15
 go_wp2;obtain ⟨W, hW⟩ : ∃ W, w.alloc (.cells #[.int .i64 0, .bool false, .slice (some ⟨kb, 0, none⟩) 1 1] 66) = W := ⟨_, rfl⟩;have hO : Old w W := by rw [← hW]; exact (Upd.refl _ _).alloc _
 have hB : Has W w.heap.size 66 #[.int .i64 0, .bool false, .slice (some ⟨kb, 0, none⟩) 1 1] := by rw [← hW]; exact Has.new w _ _
 have z : W.heap.size = w.heap.size + 1 := by rw [← hW]; simp
 have y0 : W.cell? ⟨w.heap.size, 0, none⟩ = some (.int .i64 0) := hB.cell 0;have y1 : W.cell? ⟨w.heap.size, 1, none⟩ = some (.bool false) := hB.cell 1;have y2 : W.cell? ⟨w.heap.size, 2, none⟩ = some (.slice (some ⟨kb, 0, none⟩) 1 1) := hB.cell 2;have e1 := Old.cellOf' hO d1;rw [hW];clear hW d1 d2 d4
 go_region_held3 (fun x' => x'.cell? ⟨D, 1, none⟩ = some (.pointer (some ⟨T, 0, none⟩)) ∧ x'.cell? ⟨w.heap.size, 0, none⟩ = some (.int .i64 0) ∧ x'.cell? ⟨w.heap.size, 1, none⟩ = some (.bool false) ∧ x'.cell? ⟨w.heap.size, 2, none⟩ = some (.slice (some ⟨kb, 0, none⟩) 1 1))
  (first | go_keep | (exact ⟨E1, E2, E3, E4⟩))
  (first | (go_at_call 53; refine (HTA.out _ ?_).mono ?_; (exact hO.drew); rintro e w1 ⟨rfl, hU, hT1⟩; have HT1 := Lib.hid hT1; clear hT1; have b8 := hU.has hB.drew (by omega); have E2 := b8.cell 0; have E3 := b8.cell 1; have E4 := b8.cell 2; have E1 := hU.cellOf e1 (Ne.symm hTD); clear b8))
 have hOT := ((hO.mono (G := fun b => b = T) (fun b _ h => h.elim)).drew).trans hU
 have hD1 := HD.out _ hOT;have q4 : w1.cell? ⟨D, 4, none⟩ = some (.bool true) := hD1.cell 4;have HHD := Lib.hid hD1;have HOT := Lib.hid hOT;clear HTA HD hU hOT e1 hB hO hD1;go_wp2;go_ret;exact ⟨rfl, HOT.out.mono (fun b _ h => h ▸ hFT), K, T, _, _, hTD, hFT, HHD.out, HT1.out⟩
end Go.M
