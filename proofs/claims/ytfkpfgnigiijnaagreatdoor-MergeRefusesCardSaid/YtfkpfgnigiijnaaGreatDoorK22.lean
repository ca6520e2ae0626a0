/- Walks 22. -/
import Derived.Test.YtfkpfgnigiijnaaGreatDoorProg
import Derived.Test.YtfkpfgnigiijnaaGreatDoorK1
import Derived.Test.YtfkpfgnigiijnaaGreatDoorK21
import Derived.Deep.DeepCutAuto
import Derived.Deep.CutBlock
import Derived.Outline
set_option linter.unusedVariables false
set_option linter.unusedSimpArgs false
set_option maxRecDepth 100000
namespace Go.M
open Go.Proofs Go.RowKit
structure Kpt (w w' : World) : Prop where
 heap : ∀ b, b < w.heap.size → w'.heap[b]? = w.heap[b]?
 os : w'.os = w.os
 out : w'.output = w.output
theorem Kpt.cell {w w' : World} (h : Kpt w w') {a : Addr} {v : Value} (hc : w.cell? a = some v) : w'.cell? a = some v := by
 have hl := World.block_lt_of_cell? w a hc;unfold World.cell? at *
 rw [h.heap a.block hl];exact hc
theorem Upd.kpt {w w1 w2 : World} (h : Old w w1) (k : Kpt w1 w2) : Kpt w w2 :=
 ⟨fun b hb => (k.heap b (Nat.lt_of_lt_of_le hb h.size)).trans (h.keep b hb (fun x => x)), k.os.trans h.os, k.out.trans h.out⟩
theorem Kpt.kept {w w' : World} (h : Kpt w w') (may : MemPlace → Prop) : w.keptBut w' may := by
 refine ⟨h.os, h.out, fun i hi => ?_⟩
 rw [h.heap i hi];cases w.heap[i]? with
 | none => rfl
 | some o => cases o <;> simp
theorem Kpt.of {w w' : World} (h : ∀ B, B < w.heap.size → w'.heap[B]? = w.heap[B]?) (k : ∀ may, w.keptBut w' may) : Kpt w w' := ⟨h, (k fun _ => False).1, (k fun _ => False).2.1⟩
set_option linter.unusedSimpArgs false
set_option maxHeartbeats 4000000 in
theorem mergeRefuses_walk {w : World} {n0 n1 n2 n3 n4 n5 n6 ll lc what far : Nat} {al : Option Addr} (hf : far < 65536) (hwh : what < 256) (h0 : n0 < 256) (h1 : n1 < 256) (h2 : n2 < 256) (h3 : n3 < 256) (h4 : n4 < 256) (h5 : n5 < 256) (h6 : n6 < 256) (hdb : DbAt w) (hse : SealAt w) (hll : ll ≤ lc) (hlc : lc ≤ 9223372036854775807) (hal : ll = 0 ∨ al.isSome = true) (hL : ∀ j, j < ll → j < 60 → ∃ lb lo, al = some ⟨lb, lo, none⟩ ∧ MoveAt w lb lo j)
 (hW : ∀ w' : World, Old w w' → Calls Tryz.prog 23 #[] w' fun e w'' => e = .returned (.bool true) ∧ Kpt w' w'') :
 Calls Tryz.prog 5 #[.agg #[.int .u8 ((n0 : Nat) : Int), .int .u8 ((n1 : Nat) : Int), .int .u8 ((n2 : Nat) : Int), .int .u8 ((n3 : Nat) : Int), .int .u8 ((n4 : Nat) : Int), .int .u8 ((n5 : Nat) : Int), .int .u8 ((n6 : Nat) : Int), .slice al ll lc], .int .u8 ((what : Nat) : Int), .int .u16 ((far : Nat) : Int)] w fun e w' => e = .returned (.bool true) ∧ Kpt w w' := by
 have HMD : Hid (∀ W : World, Old w W → Calls Tryz.prog 7 #[.agg #[.int .u8 ((n0 : Nat) : Int), .int .u8 ((n1 : Nat) : Int), .int .u8 ((n2 : Nat) : Int), .int .u8 ((n3 : Nat) : Int), .int .u8 ((n4 : Nat) : Int), .int .u8 ((n5 : Nat) : Int), .int .u8 ((n6 : Nat) : Int), .slice al ll lc]] W fun e w1 => ∃ PP D B X col n sz r wk ky vl po next ops sv es, e = .returned (.tuple #[.pointer (some ⟨PP, 0, none⟩), .bool true]) ∧ MfAt w1 col PP D B X n sz r wk ky vl po next ops sv es ∧ (∀ b, b < w.heap.size → col b = (0, 0)) ∧ (∀ b, w1.heap.size ≤ b → col b = (0, 0)) ∧ Old w w1) := fun W U => by
  refine (made h0 h1 h2 h3 h4 h5 h6 (hdb.upd U (fun x => x)) (hse.upd U (fun x => x)) hll hlc hal (fun j a b => by obtain ⟨lb, lo, ha, kd, ky, sz, q1, q2, q3, m0, m1, m2⟩ := hL j a b; exact ⟨lb, lo, ha, kd, ky, sz, q1, q2, q3, Old.cellOf' U m0, Old.cellOf' U m1, Old.cellOf' U m2⟩)).mono ?_
  rintro e w1 ⟨PP, D, B, X, it, rfl, hit, hm⟩;obtain ⟨col, n, sz, r, wk, ky, vl, po, next, ops, sv, es, r1, r2, r3, r4⟩ := ZwE h4 h5 h6 hm hit;have s := U.size;exact ⟨PP, D, B, X, col, n, sz, r, wk, ky, vl, po, next, ops, sv, es, rfl, r1, fun b hb => r2 b (by omega), r3, U.trans r4⟩
 have HWK := Lib.hid hW;have g1 : IntKind.i64.wrap (far : Int) = ((far : Nat) : Int) := IntWalk.i64_in _ (by omega)
 clear hdb hse hL hW
 go_enter Tryz.func5, Tryz.ntmps5
 go_wp2_with (first | (go_at_call 7; refine (HMD.out _ ?_).mono ?_; (first | with_reducible exact (Upd.refl _ w) | exact ((Upd.refl _ w).alloc _) | exact (((Upd.refl _ w).alloc _).alloc _)); rintro e w1 ⟨PP, D, B, X, col, n, sz, r, wk, ky, vl, po, next, ops, sv, es, rfl, hr1, hc1, hc2, hU1⟩; have HR1 := Lib.hid hr1; have HC1 := Lib.hid hc1; have HC2 := Lib.hid hc2; have HU1 := Lib.hid hU1; clear hr1 hc1 hc2 hU1; refine Hid.out ?_))
 have P : Hid (∀ W : World, Old w1 W → W.cell? ⟨PP, 0, none⟩ = some (.int .i64 ((n : Nat) : Int)) ∧ W.cell? ⟨PP, 1, none⟩ = some (.int .i64 ((sz : Nat) : Int)) ∧ W.cell? ⟨PP, 2, none⟩ = some (.int .i64 ((r : Nat) : Int)) ∧ W.cell? ⟨PP, 3, none⟩ = some (.int .i64 ((wk : Nat) : Int)) ∧ W.cell? ⟨PP, 4, none⟩ = some (.int .i64 ((ky : Nat) : Int)) ∧ W.cell? ⟨PP, 5, none⟩ = some (.int .i64 ((vl : Nat) : Int)) ∧ W.cell? ⟨PP, 6, none⟩ = some (.int .i64 ((po : Nat) : Int)) ∧ W.cell? ⟨PP, 7, none⟩ = some (.pointer (some ⟨D, 0, none⟩)) ∧ W.cell? ⟨PP, 8, none⟩ = some (.pointer (some ⟨B, 0, none⟩)) ∧ W.cell? ⟨PP, 9, none⟩ = some (.pointer (some ⟨X, 0, none⟩)) ∧ W.cell? ⟨PP, 10, none⟩ = some (.int .i64 ((next : Nat) : Int))) := fun W U => by
  obtain ⟨t, p⟩ := (HR1.out.old U).p;exact ⟨p.cell 0, p.cell 1, p.cell 2, p.cell 3, p.cell 4, p.cell 5, p.cell 6, p.cell 7, p.cell 8, p.cell 9, p.cell 10⟩
 have HOK := Lib.hid HR1.out.ok;have hn4 := HOK.out.n4;have hn9 := HOK.out.n9;have HM1 : Hid (∀ W : World, Calls Tryz.prog 16 #[.agg (#[.int .i64 ((n : Nat) : Int), .int .i64 ((sz : Nat) : Int), .int .i64 ((r : Nat) : Int), .int .i64 ((wk : Nat) : Int), .int .i64 ((ky : Nat) : Int), .int .i64 ((vl : Nat) : Int), .int .i64 ((po : Nat) : Int)])] W (ZpJ W n)) := fun W => by
  obtain ⟨n4, n9, r2, r3, rn, k1, k6, vv, sv, s8, w1, w2, p1, p2⟩ := HOK.out;exact Zxh (by omega) (by omega) (by omega) (by omega) (by omega) (by omega) (by omega) (by omega) (HOK.out.span (Nat.le_refl _) (by omega))
 have HM2 : Hid (∀ W : World, Calls Tryz.prog 16 #[.agg (#[.int .i64 ((n : Int) + 1), .int .i64 ((sz : Nat) : Int), .int .i64 ((r : Nat) : Int), .int .i64 ((wk : Nat) : Int), .int .i64 ((ky : Nat) : Int), .int .i64 ((vl : Nat) : Int), .int .i64 ((po : Nat) : Int)])] W (ZpJ W (n + 1))) := fun W => by
  obtain ⟨n4, n9, r2, r3, rn, k1, k6, vv, sv, s8, w1, w2, p1, p2⟩ := HOK.out;have := Zxh (w := W) (n := n + 1) (sz := sz) (r := r) (wk := wk) (ky := ky) (vl := vl) (po := po) (by omega) (by omega) (by omega) (by omega) (by omega) (by omega) (by omega) (by omega) (HOK.out.span (by omega) (Nat.le_refl _))
  rwa [show (((n + 1 : Nat)) : Int) = (n : Int) + 1 by omega] at this
 have HX2 : Hid (∀ W : World, Calls Tryz.prog 9 #[.int .i64 ((n : Int) + 1)] W (Zse W (n + 1))) := fun W => by
  have := ZvI (w := W) (n := n + 1) (by omega) (by omega)
  rwa [show (((n + 1 : Nat)) : Int) = (n : Int) + 1 by omega] at this
 have HD2 : Hid (∀ W : World, Calls Tryz.prog 17 #[.int .i64 ((n : Int) + 1), .int .i64 ((sz : Nat) : Int)] W (Zsd W (n + 1))) := fun W => by
  obtain ⟨n4, n9, r2, r3, rn, k1, k6, vv, sv, s8, w1, w2, p1, p2⟩ := HOK.out;have := ZvH (w := W) (n := n + 1) (size := sz) (by omega) (by omega) (by omega) (by omega)
  rwa [show (((n + 1 : Nat)) : Int) = (n : Int) + 1 by omega] at this
 have g2 : IntKind.i64.wrap ((n : Int) + 1) = (n : Int) + 1 := IntWalk.i64_in _ (by omega)
 obtain ⟨y0, y1, y2, y3, y4, y5, y6, y7, y8, y9, y10⟩ := P.out _ (Upd.refl _ w1);refine Lib.hid ?_
 go_wp2_with (first | (go_at_call 16; refine (HM1.out _).mono ?_; rintro e w2 ⟨G, rfl, hG2, hU2⟩; have HG2 := Lib.hid hG2; have HU2 := Lib.hid hU2; clear hG2 hU2 y0 y1 y2 y3 y4 y5 y6 y7 y8 y9 y10; obtain ⟨y0, y1, y2, y3, y4, y5, y6, y7, y8, y9, y10⟩ := P.out _ HU2.out; clear HM1; refine Hid.out ?_))
 have P2 : Hid (∀ W : World, Old (w2.alloc (.cells #[.int .i64 ((n : Int) + 1), .int .i64 ((sz : Nat) : Int), .int .i64 ((r : Nat) : Int), .int .i64 ((wk : Nat) : Int), .int .i64 ((ky : Nat) : Int), .int .i64 ((vl : Nat) : Int), .int .i64 ((po : Nat) : Int)] 36)) W → W.cell? ⟨w2.heap.size, 0, none⟩ = some (.int .i64 ((n : Int) + 1)) ∧ W.cell? ⟨w2.heap.size, 1, none⟩ = some (.int .i64 ((sz : Nat) : Int))) := fun W U => by
  have b := U.has (Has.new w2 36 #[.int .i64 ((n : Int) + 1), .int .i64 ((sz : Nat) : Int), .int .i64 ((r : Nat) : Int), .int .i64 ((wk : Nat) : Int), .int .i64 ((ky : Nat) : Int), .int .i64 ((vl : Nat) : Int), .int .i64 ((po : Nat) : Int)]);exact ⟨b.cell 0, b.cell 1⟩
 refine Lib.hid ?_
 go_wp2_with (first | (go_at_call 16; refine (HM2.out _).mono ?_; rintro e w3 ⟨G2, rfl, hG2, hU⟩; have HK2 := Lib.hid hG2; have HU3 := Lib.hid hU; clear hG2 hU y0 y1 y2 y3 y4 y5 y6 y7 y8 y9 y10; obtain ⟨z0, z1⟩ := P2.out _ HU3.out; clear HM2) | (go_at_call 9; refine (HX2.out _).mono ?_; rintro e w4 ⟨X2, rfl, hG1, hG2, hU⟩; have HX1 := Lib.hid hG1; have HXS := Lib.hid hG2; have HU4 := Lib.hid hU; clear hG1 hG2 hU z0 z1; obtain ⟨z0, z1⟩ := P2.out _ (HU3.out.trans HU4.out); clear HX2) | (go_at_call 17; refine (HD2.out _).mono ?_; rintro e w5 ⟨D2, rfl, hG2, hU⟩; have HDS := Lib.hid hG2; have HU5 := Lib.hid hU; clear hG2 hU z0 z1; clear HD2))
 have hO5 : Old w1 w5 := ((HU2.out.trans ((Upd.refl _ _).alloc _)).trans HU3.out).trans (HU4.out.trans HU5.out);obtain ⟨-, -, -, -, -, -, -, y7, y8, y9, y10⟩ := P.out _ hO5;have HO5 := Lib.hid hO5;clear hO5
 go_region_held3 (fun x => x.cell? ⟨PP, 10, none⟩ = some (.int .i64 ((next : Nat) : Int))) (first | go_keep) (fail)
 have hO6 := (Upd.refl (fun _ => False) w5).drew
 have y7 := Old.cellOf' hO6 y7;have y9 := Old.cellOf' hO6 y9;clear hO6;go_wp2
 go_region_held3 (fun x => x.cell? ⟨PP, 7, none⟩ = some (.pointer (some ⟨D, 0, none⟩)) ∧ x.cell? ⟨PP, 9, none⟩ = some (.pointer (some ⟨X, 0, none⟩))) (first | go_keep) (fail)
 have hO4 : Old w1 w4 := ((HU2.out.trans ((Upd.refl _ _).alloc _)).trans HU3.out).trans HU4.out;have S4 : StAt w4 col w1.heap.size PP D B X G G2 X2 n sz r wk ky vl po next := by
  have m := HR1.out.old hO4;have q3 := (((Upd.refl (fun _ => False) w2).alloc (.cells #[.int .i64 ((n : Int) + 1), .int .i64 ((sz : Nat) : Int), .int .i64 ((r : Nat) : Int), .int .i64 ((wk : Nat) : Int), .int .i64 ((ky : Nat) : Int), .int .i64 ((vl : Nat) : Int), .int .i64 ((po : Nat) : Int)] 36)))
  have l2 := (HU2.out.trans q3).size;have l3 := ((HU2.out.trans q3).trans HU3.out).size;exact ⟨m.p, m.rf.t, m.rf.x, HG2.out.upd ((q3.trans HU3.out).trans HU4.out) (fun _ _ a => a), (HK2.out.low l2).upd HU4.out (fun _ _ a => a), HXS.out, Nat.le_trans l3 HX1.out, m.rf.rP, m.rf.rB, m.rf.rX, fun b hb => HC2.out b hb⟩
 obtain ⟨W5, hW5⟩ : ∃ W5, w5.drew.drew = W5 := ⟨_, rfl⟩;have hO5 : Old w5 W5 := by rw [← hW5]; exact (Upd.refl _ w5).drew.drew
 have hD4 : UpD w4 col D n ops := by
  exact (HR1.out.old hO4).rf.dev
 have hD25 : ZpR w4.heap.size w5.heap.size W5 D2 (n + 1) := HDS.out.old hO5;have hO45 : Old w4 W5 := HU5.out.trans hO5;have S := S4.old hO45;have HS4 := Lib.hid S4;have HS := Lib.hid S;have HUD := Lib.hid hD4;have HDV := Lib.hid hD25;have HO45 := Lib.hid hO45;have HW5 : Hid (Old w W5) := Lib.hid ((HU1.out.trans hO4).trans hO45);have HZ : Hid (w5.heap.size ≤ W5.heap.size ∧ w1.heap.size ≤ w4.heap.size) := Lib.hid ⟨hO5.size, hO4.size⟩;have HU14 := Lib.hid hO4;rw [hW5];clear hW5 hO5 hD4 hD25 hO45 S S4 hO4 y7 y8 y9 y10 HDS HU5 HX1 HXS HU4 HK2 HU3 HG2 HO5 P2 HMD;have g3 : IntKind.i64.wrap (3 + (far : Int)) = 3 + (far : Int) := IntWalk.i64_in _ (by omega)
 have g4 : IntKind.i64.wrap (-(far : Int)) = -(far : Int) := IntWalk.i64_in _ (by omega)
 have g5 : IntKind.i64.wrap (1099511627777 + (far : Int)) = 1099511627777 + (far : Int) := IntWalk.i64_in _ (by omega)
 go_upto_block 0 with (fail)
 go_cut [18, 19, 20, 21, 22, 101] (fun s18 s19 s20 s21 s22 s101 wx => ZvJ G G2 D D2 X X2 n W5 s18 s19 s20 s21 s22 wx)
 case first =>
  have hq : (what : Int) % 7 = 0 ∨ (what : Int) % 7 = 1 ∨ (what : Int) % 7 = 2 ∨ (what : Int) % 7 = 3 ∨ (what : Int) % 7 = 4 ∨ (what : Int) % 7 = 5 ∨ (what : Int) % 7 = 6 := by omega
  rcases hq with hq | hq | hq | hq | hq | hq | hq
  all_goals
   rw [hq];clear hq;go_wp2
   go_meet
   case rel => first | exact ZkA Zyq | exact ZkA Zyr | exact ZkA Zys | exact ZkA Zyt | exact ZkA Zyu | exact ZkA Zyv | exact ZkA Zyw
 case rest =>
  obtain ⟨u, d, i, gn, dn, xn, pol, nx, hcmb, rfl, rfl, rfl, rfl, rfl, hw⟩ := hcut;have hw2 := hw.symm;clear hw;subst hw2;have HCMB := Lib.hid hcmb;clear hcmb g3 g4 g5;have hO15 : Old w1 W5 := HU14.out.trans HO45.out;have HR5 := Lib.hid (HR1.out.old hO15);have P5 : Hid (∀ W : World, Old W5 W → W.cell? ⟨PP, 7, none⟩ = some (.pointer (some ⟨D, 0, none⟩)) ∧ W.cell? ⟨PP, 8, none⟩ = some (.pointer (some ⟨B, 0, none⟩))) := fun W U => by
   obtain ⟨-, -, -, -, -, -, -, e7, e8, -⟩ := P.out _ (hO15.trans U);exact ⟨e7, e8⟩
  obtain ⟨fl, hfl⟩ : ∃ fl, (List.range n).flatMap es = fl := ⟨_, rfl⟩;have hfn : fl.length ≤ 10000 := by
   rw [← hfl];have : ∀ m, m ≤ n → ((List.range m).flatMap es).length ≤ m * 100 := by
    intro m
    induction m with
    | zero => intro _; simp
    | succ m ih =>
     intro hm;have a1 := ih (by omega)
     have a2 := HR5.out.len m (by omega)
     rw [List.range_succ, List.flatMap_append, List.length_append];simp only [List.flatMap_cons, List.flatMap_nil, List.append_nil];omega
   have := this n (Nat.le_refl _);omega
  have HEN : Hid (∀ W : World, Old W5 W → Calls Tryz.prog 18 #[.pointer (some ⟨PP, 0, none⟩)] W fun e w' => ∃ v, e = .returned v ∧ w'.ownsRow 0 79 6 v fl.length (rowOf fl) ∧ Old W5 w' ∧ Old W w') := fun W U => by
   have m := HR5.out.old U;obtain ⟨t, p⟩ := m.p;obtain ⟨S', c', x1, x2⟩ := m.xs;rw [← hfl];refine (entries (p.cell 9) (p.cell 0) x1 (by omega) x2 m.own m.len).mono ?_
   rintro e w' ⟨v, rfl, ho, hU, -⟩;exact ⟨v, rfl, ho, U.trans hU, hU⟩
  have HP : Hid (∀ W : World, Old W5 W → Calls Tryz.prog 14 #[.pointer (some ⟨D, 0, none⟩)] W fun e w' => e = .returned (.int .i64 ops) ∧ W = w') := fun W U => ZvD (HR5.out.old U).rf.st (by omega)
  have HSL : Hid (∀ W : World, Old W5 W → Calls Tryz.prog 19 #[.pointer (some ⟨u, 0, none⟩), .pointer (some ⟨d, 0, none⟩), .pointer (some ⟨B, 0, none⟩), .pointer (some ⟨i, 0, none⟩), .int .i64 pol, .int .i64 nx] W fun e w' => e = .returned (.tuple #[.int .i64 0, .int .i64 2]) ∧ Old W5 w' ∧ Old W w') := fun W U => by
   obtain ⟨ops2, hds⟩ : ∃ ops2, DSt W d dn ops2 false := by
    rcases HCMB.out.2.1 with ⟨rfl, rfl⟩ | ⟨rfl, rfl⟩
    ·exact ⟨_, (HR5.out.old U).rf.st⟩
    ·exact ⟨_, (HDV.out.old U).st⟩
   exact (Zjm HCMB.out (HS.out.old U) hn4 hn9 hds).mono fun e w' ⟨a, b⟩ => ⟨a, U.trans b, b⟩
  have HBS : Hid (∀ W : World, Old W5 W → Calls Tryz.prog 20 #[.pointer (some ⟨G, 0, none⟩)] W fun e w' => e = .returned (.bool false) ∧ Old W5 w' ∧ Old W w') := fun W U => (ZvF (HS.out.old U).g.at).mono fun e w' ⟨a, b⟩ => ⟨a, U.trans b, b⟩
  have HRD : Hid (∀ W : World, Old W5 W → Calls Tryz.prog 21 #[.pointer (some ⟨G, 0, none⟩)] W fun e w' => e = .returned (.int .i64 0) ∧ W = w') := fun W U => Zro (HS.out.old U).g.at (by omega)
  have HFN := Lib.hid hfn;clear hfl hfn hO15;obtain ⟨y7, y8⟩ := P5.out _ (Upd.refl _ _);have HOc : Hid (Old W5 W5) := Lib.hid (Upd.refl _ _)
  go_upto_region 30 with (fail)
  go_cut [23, 24] (fun s23 s24 wx => wx.ownsRow 0 79 6 s23 fl.length (rowOf fl) ∧ s24 = .int .i64 ops ∧ Old W5 wx)
  case first =>
   go_region_held3 (fun x => x.cell? ⟨PP, 7, none⟩ = some (.pointer (some ⟨D, 0, none⟩)))
    (first | (with_reducible exact QQ) | go_keep)
    (first | (go_at_call 18; (with_reducible refine (HEN.out _ ?_).mono ?_); (first | with_reducible exact HOc.out | exact HOc.out.drew | exact HOc.out.drew.drew); rintro eA wA ⟨v, rfl, hown, hU, -⟩; clear HOc; have HOc := Lib.hid hU; have QQ := (P5.out _ hU).1; have HOW := Lib.hid hown; clear hU hown) | (go_at_call 14; (with_reducible refine (HP.out _ ?_).mono ?_); (first | with_reducible exact HOc.out | exact HOc.out.drew | exact HOc.out.drew.drew); rintro eC wC ⟨rfl, rfl⟩))
   all_goals
    go_wp2
    go_meet
    case rel => first | exact ⟨HOW.out, rfl, HOc.out⟩ | exact ⟨Upd.own ((Upd.refl _ _).drew) HOW.out (fun _ _ x => x), rfl, HOc.out.drew⟩
  case rest =>
   obtain ⟨hown1, rfl, hOx⟩ := hcut;have HOW1 := Lib.hid hown1;clear HOc;have HOc := Lib.hid hOx;clear y7 y8;obtain ⟨y7, y8⟩ := P5.out _ hOx;clear hown1 hOx
   go_wp2_with (first | (go_at_call 19; (with_reducible refine (HSL.out _ HOc.out).mono ?_); rintro eA wA ⟨rfl, hU, hV⟩; have HOW2 := Lib.hid (Upd.own hV HOW1.out (fun _ _ x => x)); clear HOW1 HOc y7 y8; have HOc := Lib.hid hU; obtain ⟨y7, y8⟩ := P5.out _ hU; clear hU hV; clear HSL) | (go_at_call 20; (with_reducible refine (HBS.out _ HOc.out).mono ?_); rintro eB wB ⟨rfl, hU, hV⟩; have HOW3 := Lib.hid (Upd.own hV HOW2.out (fun _ _ x => x)); clear HOW2 HOc y7 y8; have HOc := Lib.hid hU; obtain ⟨y7, y8⟩ := P5.out _ hU; clear hU hV; clear HBS) | (go_at_call 21; (with_reducible refine (HRD.out _ HOc.out).mono ?_); rintro eC wC ⟨rfl, rfl⟩; clear HRD) | (go_at_call 18; (with_reducible refine (HEN.out _ HOc.out).mono ?_); rintro eD wD ⟨v2, rfl, hown2, hU, hV⟩; have HOW4 := Lib.hid (Upd.own hV HOW3.out (fun _ _ x => x)); have HOW5 := Lib.hid hown2; clear hown2 HOW3 HOc y7 y8; have HOc := Lib.hid hU; obtain ⟨y7, y8⟩ := P5.out _ hU; clear hU hV; clear HEN) | (go_at_call 22; (with_reducible refine (Zt3 HOW5.out HOW4.out HFN.out).mono ?_); rintro eE wE ⟨rfl, hU⟩; have hO := HOc.out.trans hU; clear HOc y7 y8; have HOc := Lib.hid hO; obtain ⟨y7, y8⟩ := P5.out _ hO; clear hU hO) | (go_at_call 14; (with_reducible refine (HP.out _ HOc.out).mono ?_); rintro eF wF ⟨rfl, rfl⟩; clear HP; refine Hid.out ?_))
   have HARM1 : Hid (∀ W : World, Old W5 W → Calls Tryz.prog 15 #[.pointer (some ⟨d, 0, none⟩), .agg #[.int .i64 0, .bool false, .slice (some ⟨W.heap.size, 0, none⟩) 1 1]] (W.alloc (.cells #[.int .i64 0] 3)) fun e w' => e = .returned (.int .i64 0) ∧ ZwF w col w1.heap.size PP D B X G G2 X2 n sz r wk ky vl po next D2 d dn ops w') := fun W U => by
    have z1 := HZ.out.1;have z2 := U.size;exact Zyn (HU1.out.trans HU14.out) HS4.out HUD.out (HO45.out.trans U) (HDV.out.old U) (by omega) HZ.out.2 HC1.out HCMB.out.2.1
   refine Lib.hid ?_
   go_wp2_with (first | (go_at_call 15; (with_reducible refine (HARM1.out _ HOc.out).mono ?_); rintro e6 w6 ⟨rfl, hA⟩; have HA1 := Lib.hid hA; obtain ⟨hA1, hA2, hA3, hA4⟩ := hA; obtain ⟨t6, p6⟩ := hA3.p; clear hA1 hA2 hA3 hA4 y7 y8 HARM1; have y7 : w6.cell? ⟨PP, 7, none⟩ = some (.pointer (some ⟨D, 0, none⟩)) := p6.cell 7; clear p6; clear HOc) | (go_at_call 15; refine (Zyp (Nat.lt_of_lt_of_le (by decide) hn4) HA1.out (Upd.refl _ _) HC1.out).mono ?_; rintro e7 w7 ⟨rfl, hB⟩; have HB := Lib.hid hB; clear hB HA1 y7; refine Hid.out ?_) | (go_at_call 15; refine Hid.out ?_))
   have HS7 := Lib.hid HB.out.2.1;have P7 : Hid (∀ W : World, Old w7 W → W.cell? ⟨PP, 0, none⟩ = some (.int .i64 ((n : Nat) : Int)) ∧ W.cell? ⟨PP, 1, none⟩ = some (.int .i64 ((sz : Nat) : Int)) ∧ W.cell? ⟨PP, 2, none⟩ = some (.int .i64 ((r : Nat) : Int)) ∧ W.cell? ⟨PP, 3, none⟩ = some (.int .i64 ((wk : Nat) : Int)) ∧ W.cell? ⟨PP, 4, none⟩ = some (.int .i64 ((ky : Nat) : Int)) ∧ W.cell? ⟨PP, 5, none⟩ = some (.int .i64 ((vl : Nat) : Int)) ∧ W.cell? ⟨PP, 6, none⟩ = some (.int .i64 ((po : Nat) : Int)) ∧ W.cell? ⟨PP, 7, none⟩ = some (.pointer (some ⟨D, 0, none⟩)) ∧ W.cell? ⟨PP, 8, none⟩ = some (.pointer (some ⟨B, 0, none⟩)) ∧ W.cell? ⟨PP, 9, none⟩ = some (.pointer (some ⟨X, 0, none⟩)) ∧ W.cell? ⟨PP, 10, none⟩ = some (.int .i64 ((next : Nat) : Int))) := fun W U => by
    obtain ⟨t, p⟩ := (HS7.out.old U).p;exact ⟨p.cell 0, p.cell 1, p.cell 2, p.cell 3, p.cell 4, p.cell 5, p.cell 6, p.cell 7, p.cell 8, p.cell 9, p.cell 10⟩
   have HSL2 : Hid (∀ W : World, Old w7 W → Calls Tryz.prog 19 #[.pointer (some ⟨u, 0, none⟩), .pointer (some ⟨d, 0, none⟩), .pointer (some ⟨B, 0, none⟩), .pointer (some ⟨i, 0, none⟩), .int .i64 pol, .int .i64 nx] W fun e w' => e = .returned (.tuple #[.int .i64 0, .int .i64 2]) ∧ Old w7 w') := fun W U => by
    obtain ⟨-, S, -, ops2, hds⟩ := HB.out;exact (Zjm HCMB.out (S.old U) hn4 hn9 (hds.old U)).mono fun e w' ⟨a, b⟩ => ⟨a, U.trans b⟩
   have HSL3 : Hid (∀ W : World, Old w7 W → Calls Tryz.prog 19 #[.pointer (some ⟨G, 0, none⟩), .pointer (some ⟨D, 0, none⟩), .pointer (some ⟨B, 0, none⟩), .pointer (some ⟨X, 0, none⟩), .int .i64 1, .int .i64 ((next : Nat) : Int)] W fun e w' => e = .returned (.tuple #[.int .i64 0, .int .i64 13]) ∧ Old w7 w') := fun W U => by
    obtain ⟨-, S, hds, -⟩ := HB.out;have n1 := HR5.out.nx1;have n2 := HR5.out.nx2;exact (Zsc (S.old U).g.at (hds.old U) (S.old U).t (S.old U).x (by omega) (by omega) (by omega) (by omega) (by omega) (.inr (.inr (.inr (.inr (.inr (.inr (.inr ⟨rfl, rfl, rfl, rfl, by omega, by omega, by omega, by omega, rfl⟩)))))))).mono fun e w' ⟨a, b⟩ => ⟨a, U.trans b⟩
   have HM3 : Hid (∀ W : World, Calls Tryz.prog 16 #[.agg (#[.int .i64 ((n : Nat) : Int), .int .i64 ((sz : Nat) : Int), .int .i64 ((r : Nat) : Int), .int .i64 ((far : Int) % 60), .int .i64 ((ky : Nat) : Int), .int .i64 ((vl : Nat) : Int), .int .i64 ((po : Nat) : Int)])] W fun e w' => e = .returned (.tuple #[.pointer none, .int .i64 2]) ∧ Old W w') := fun W => by
    obtain ⟨n4, n9, r2, r3, rn, k1, k6, vv, sv, s8, w1, w2, p1, p2⟩ := HOK.out;have := Zrn (w := W) (n := n) (sz := sz) (r := r) (wk := far % 60) (ky := ky) (vl := vl) (po := po) (by omega) (by omega) (by omega) (by omega) (by omega) (by omega) (by omega) HOK.out.span5 (by omega)
    rwa [show (((far % 60 : Nat)) : Int) = (far : Int) % 60 by omega] at this
   have HOc : Hid (Old w7 w7) := Lib.hid (Upd.refl _ _);obtain ⟨y0, y1, y2, y3, y4, y5, y6, y7, y8, y9, y10⟩ := P7.out _ (Upd.refl _ w7);refine Lib.hid ?_
   go_wp2_with (first | (go_at_call 19; (with_reducible refine (HSL2.out _ HOc.out).mono ?_); rintro e8 w8 ⟨rfl, hU⟩; clear HOc y0 y1 y2 y3 y4 y5 y6 y7 y8 y9 y10; obtain ⟨y0, y1, y2, y3, y4, y5, y6, y7, y8, y9, y10⟩ := P7.out _ hU; have HOc := Lib.hid hU; clear hU HSL2) | (go_at_call 19; refine Hid.out ?_))
   go_region_held3 (fun x => x.cell? ⟨PP, 7, none⟩ = some (.pointer (some ⟨D, 0, none⟩)) ∧ x.cell? ⟨PP, 8, none⟩ = some (.pointer (some ⟨B, 0, none⟩)) ∧ x.cell? ⟨PP, 9, none⟩ = some (.pointer (some ⟨X, 0, none⟩)) ∧ x.cell? ⟨PP, 10, none⟩ = some (.int .i64 ((next : Nat) : Int)))
    (first | (with_reducible exact QQ) | go_keep)
    (first | (go_at_call 19; (with_reducible refine (HSL3.out _ ?_).mono ?_); (exact HOc.out.drew); rintro e9 w9 ⟨rfl, hU⟩; clear HSL3 HOc; have HOc := Lib.hid hU; obtain ⟨-, -, -, -, -, -, -, q7, q8, q9, q10⟩ := P7.out _ hU; have QQ := And.intro q7 (And.intro q8 (And.intro q9 q10)); clear hU q7 q8 q9 q10))
   clear y0 y1 y2 y3 y4 y5 y6 y7 y8 y9 y10;obtain ⟨y0, y1, y2, y3, y4, y5, y6, y7, y8, y9, y10⟩ := P7.out _ HOc.out;have g6 : (far : Int).tmod 60 = (far : Int) % 60 := by rw [Int.tmod_eq_emod_of_nonneg (by omega)]
   have HW7 : Hid (Old w w9) := Lib.hid (HB.out.1.trans HOc.out);refine Lib.hid ?_
   go_wp2_with (first | (go_at_call 16; refine (HM3.out _).mono ?_; rintro e10 w10 ⟨rfl, hU⟩; have hO := (HW7.out.alloc _).trans hU; clear HM3 HW7; have HW7 := Lib.hid hO; clear hU hO) | (go_at_call 16; refine Hid.out ?_) | (go_at_call 23; refine (HWK.out _ ?_).mono ?_; (exact HW7.out); rintro eW wW ⟨rfl, hU⟩; have HOw := Lib.hid hU; clear hU HWK) | (go_at_call 23; refine Hid.out ?_))
   go_ret;exact ⟨rfl, HW7.out.kpt HOw.out⟩
end Go.M
