/- Walks 49. -/
import Derived.Test.YtjadmbkmlehfdaaGreatDoorProg
import Derived.Test.YtjadmbkmlehfdaaGreatDoorK48
import Derived.Test.YtjadmbkmlehfdaaGreatDoorK40
import Derived.Test.YtjadmbkmlehfdaaGreatDoorK2
import Derived.Test.YtjadmbkmlehfdaaGreatDoorK34
import Derived.Deep.CutBlock
set_option linter.unusedVariables false
set_option linter.unusedSimpArgs false
set_option maxRecDepth 100000
namespace Go.M
open Go.Proofs Go.RowKit Go.Shelf Go.Maps
set_option linter.unusedSimpArgs false
attribute [local go_sem] Oper.semAt_some
theorem pp_ne {w : World} {PP D B X next : Nat} {k : Cf} (h : PpAt w PP k D B X next) (hd : DropAt w) : PP ≠ 0 := fun e => by
 obtain ⟨t, h⟩ := h
 have h0 : w.cell? ⟨PP, 0, none⟩ = some (.int .i64 ((k.n : Nat) : Int)) := h.cell 0
 rw [e, hd.1] at h0
 cases h0
theorem run_cells {w w' : World} {col : Col} {PP D B X n r : Nat} {s : DevS} {st : Nat → Nat} {M : ByteArray → List Ent} {x : IdxS} {o : Int} {L : List Nat} (h : RuS w col PP D B X n r s st M x o L w') (hP : PP ≠ 0) : w'.cell? ⟨PP, 7, none⟩ = some (.pointer (some ⟨D, 0, none⟩)) ∧ w'.cell? ⟨PP, 8, none⟩ = some (.pointer (some ⟨B, 0, none⟩)) ∧ w'.cell? ⟨PP, 9, none⟩ = some (.pointer (some ⟨X, 0, none⟩)) := by
 obtain ⟨⟨col', s', st', M', x', hE, -⟩, -⟩ := h
 obtain ⟨-, a, b, c, -⟩ := hE.cells hP
 exact ⟨a, b, c⟩
def crA : Oper := { dst := some 221, op := .convert 77 9 (.tmp 220), type := 9, pos := "outright.go:153", after := #[{ on := 2, ground := .data }], guard := none }
theorem crA_eq : crA = { dst := some 221, op := .convert 77 9 (.tmp 220), type := 9, pos := "outright.go:153", after := #[{ on := 2, ground := .data }], guard := none } := rfl
def crB : Oper := { dst := some 225, op := .convert 77 9 (.tmp 224), type := 9, pos := "outright.go:153", after := #[{ on := 6, ground := .data }, { on := 8, ground := .gcOnly .lateStores }], guard := none }
theorem crB_eq : crB = { dst := some 225, op := .convert 77 9 (.tmp 224), type := 9, pos := "outright.go:153", after := #[{ on := 6, ground := .data }, { on := 8, ground := .gcOnly .lateStores }], guard := none } := rfl
set_option maxHeartbeats 40000000 in
theorem pruneCrash_walk {w : World} {n0 n1 n2 n3 n4 n5 n6 ll lc l2 c2 kp : Nat} {al al2 : Option Addr} {sl dn : Bool} (h0 : n0 < 256) (h1 : n1 < 256) (h2 : n2 < 256) (h3 : n3 < 256) (h4 : n4 < 256) (h5 : n5 < 256) (h6 : n6 < 256) (hkp : kp < 256) (hdb : DbAt w) (hse : SealAt w) (hdr : DropAt w) (hll : ll ≤ lc) (hlc : lc ≤ 9223372036854775807) (hal : ll = 0 ∨ al.isSome = true) (hL : ∀ j, j < ll → j < 60 → ∃ lb lo, al = some ⟨lb, lo, none⟩ ∧ MoveAt w lb lo j)
 (hc2 : l2 ≤ c2) (hN : ∀ j, j < l2 → j < 20 → NumAt w al2 j) (hl63 : (l2 : Int) ≤ 9223372036854775807)
 (hW : ∀ w' : World, Old w w' → Calls Tryz.prog 20 #[] w' fun e w'' => e = .returned (.bool true) ∧ Kpt w' w'') :
 Calls Tryz.prog 5 #[.agg #[.int .u8 ((n0 : Nat) : Int), .int .u8 ((n1 : Nat) : Int), .int .u8 ((n2 : Nat) : Int), .int .u8 ((n3 : Nat) : Int), .int .u8 ((n4 : Nat) : Int), .int .u8 ((n5 : Nat) : Int), .int .u8 ((n6 : Nat) : Int), .slice al ll lc], .slice al2 l2 c2, .bool sl, .int .u8 ((kp : Nat) : Int), .bool dn] w fun e w' => e = .returned (.bool true) ∧ Kpt w w' := by
 have HCD : Hid (l2 ≤ 20 → ∀ W : World, Old w W → Calls Tryz.prog 21 #[.agg #[.int .u8 ((n0 : Nat) : Int), .int .u8 ((n1 : Nat) : Int), .int .u8 ((n2 : Nat) : Int), .int .u8 ((n3 : Nat) : Int), .int .u8 ((n4 : Nat) : Int), .int .u8 ((n5 : Nat) : Int), .int .u8 ((n6 : Nat) : Int), .slice al ll lc], .slice al2 l2 c2, .bool sl] W fun e w1 => ∃ k PP D B X, e = .returned (.tuple #[.pointer (some ⟨PP, 0, none⟩), .bool true]) ∧ CdR W k PP D B X 21 w1) := fun hl W U => by
  refine (copied_walk h0 h1 h2 h3 h4 h5 h6 (hdb.upd U (fun x => x)) (hse.upd U (fun x => x)) (hdr.upd U (fun x => x)) hll hlc hal (fun j a b => by obtain ⟨lb, lo, ha, kd, ky, sz, q1, q2, q3, m0, m1, m2⟩ := hL j a b; exact ⟨lb, lo, ha, kd, ky, sz, q1, q2, q3, Old.cellOf' U m0, Old.cellOf' U m1, Old.cellOf' U m2⟩) hl hc2 (fun j hj => by obtain ⟨lb, lo, q, a, b, c⟩ := hN j hj (by omega); exact ⟨lb, lo, q, a, b, Old.cellOf' U c⟩)).mono ?_
  rintro e w1 ⟨PP, D, B, X, rfl, hm⟩
  exact ⟨_, PP, D, B, X, rfl, hm⟩
 have HDR := Lib.hid hdr
 have HWK := Lib.hid hW
 clear hdb hse hdr hL hN hW
 have hmm := @run_makeMap Tryz.prog
 go_enter Tryz.func5, Tryz.ntmps5
 by_cases hl20 : 20 < l2
 ·have g0 : (20 : Int) < (l2 : Int) := by omega
  go_wp2_with (first | (go_at_call 20; refine (HWK.out _ ((Upd.refl _ w).alloc _)).mono ?_; rintro eW wW ⟨rfl, hKw⟩; have HKW := Lib.hid hKw; clear hKw))
  go_ret
  exact ⟨rfl, Upd.kpt ((Upd.refl _ w).alloc _) HKW.out⟩
 have g0 : ¬ (20 : Int) < (l2 : Int) := by omega
 go_wp2_with (first | (go_at_call 21; refine (HCD.out (by omega) _ ((Upd.refl _ w).alloc _)).mono ?_; rintro e w1 ⟨k, PP, D, B, X, rfl, hb1⟩; have HB := Lib.hid hb1; clear hb1; refine Hid.out ?_))
 obtain ⟨col, s, st, M, x, next, hE1, hok, hle, hO1, hc0, hpp, hP⟩ := HB.out
 have hkn : ∃ n, k.n = n := ⟨_, rfl⟩
 obtain ⟨n, hkn⟩ := hkn
 have HO1 := Lib.hid (((Upd.refl (fun _ => False) w).alloc _).trans hO1)
 have HD1 := Lib.hid (HDR.out.upd HO1.out (fun x => x))
 have HC0 : Hid (∀ b, b < w.heap.size → (col b).1 = 0) := Lib.hid (fun b hb => hc0 b (by simp; omega))
 have c0 := (hE1.cells hP).1
 have c7 := (hE1.cells hP).2.1
 have c8 := (hE1.cells hP).2.2.1
 have c9 := (hE1.cells hP).2.2.2.1
 have heok := hok.eok
 rw [hkn] at hE1 heok c0
 have hle0 : ∀ i, i < n → st i = 2 → 0 < (s.img i).bs.length := fun i hi h2 => by
  rw [← hkn] at hi
  obtain ⟨y, hy⟩ := List.exists_mem_of_ne_nil _ (hok.use i hi (by omega))
  have := (hok.ent i hi y hy).2.2.1
  omega
 have HPC := Lib.hid (fun W (U : Old w1 W) => (hE1.old U).pcopy (show PpAt W PP k D B X next from by obtain ⟨t, hh⟩ := hpp; exact ⟨t, U.has hh⟩) hkn)
 have HBD : Hid (∀ i, i < n → (s.img i).bs.length ≤ 8192 ∧ (s.img i).dur ≤ (s.img i).bs.length) := Lib.hid (fun i hi => by
  obtain ⟨K, S, cap, T, Mi, V, hd⟩ := hE1.dev
  have hm := hd.fm i (by have := hE1.sn; omega)
  exact ⟨Nat.le_trans hm.fits hm.most, hm.durs⟩)
 have HE1 := Lib.hid hE1
 have HLE := Lib.hid hle0
 have HOK := Lib.hid (show EOk n s st x 700 from ⟨heok.ne, heok.du, heok.o0, by have := heok.o1; omega⟩)
 have HPP := Lib.hid hpp
 have hn9 := hE1.n9
 have hn4 := hE1.n4
 clear hE1 heok hok hle hpp HB HCD hc0 hO1 hle0
 have HOR := Lib.hid (fun W (U : Old w1 W) => (HE1.out.old U).porder HOK.out.ne)
 refine Lib.hid ?_
 go_wp2
 go_region_held3 (fun x => x.cell? ⟨PP, 8, none⟩ = some (.pointer (some ⟨B, 0, none⟩)) ∧ x.cell? ⟨PP, 9, none⟩ = some (.pointer (some ⟨X, 0, none⟩))) (first | (with_reducible exact QQ) | go_keep)
  (first | (go_at_call 24; (with_reducible refine (HOR.out _ ?_).mono ?_); (exact (Upd.refl _ w1).drew); rintro e w2 ⟨ov, rfl, ho1, ho2, ho3⟩; obtain ⟨va, vc, rfl⟩ := own_slice ho1; have U12 : Old w1 w2 := (Upd.refl (fun _ => False) w1).drew.trans ho2; have HOV := Lib.hid (And.intro ho1 (And.intro U12 ho3)); have c0 := Old.cellOf' U12 c0; have c7 := Old.cellOf' U12 c7; have c8 := Old.cellOf' U12 c8; have c9 := Old.cellOf' U12 c9; have QQ := And.intro c8 c9; clear ho1 ho2 ho3 U12))
 simp only [Exit.then]
 refine Lib.hid ?_
 go_wp2_with (first | (go_at_call 22; refine (HPC.out _ HOV.out.2.1).mono ?_; rintro e w3 ⟨PP', D', B', X', col', x', rfl, hU2, hE2, hxe, hpp2, hnw⟩; have H3 := Lib.hid (And.intro hU2 (And.intro hE2 (And.intro hxe (And.intro hpp2 hnw)))); have c0 := Old.cellOf' hU2 c0; have c7 := Old.cellOf' hU2 c7; have c8 := Old.cellOf' hU2 c8; have c9 := Old.cellOf' hU2 c9; have hPq := pp_ne hpp2 (HD1.out.upd (HOV.out.2.1.trans hU2) (fun x => x)); obtain ⟨-, d7, d8, d9, -⟩ := hE2.cells hPq; clear hU2 hE2 hxe hpp2 hnw))
 have hlL : (ordO n st M x).length ≤ n := by
  obtain ⟨hnd, hmem⟩ := ordO_len n st M x
  have := List.Nodup.length_le_of_subset hnd (fun i hi => List.mem_range.2 (hmem i hi).1)
  rwa [List.length_range] at this
 have hoe : ordO n st M x' = ordO n st M x := by unfold ordO; rw [H3.out.2.2.1]
 have HRU := Lib.hid (fun W (U : Old w3 W) => (H3.out.2.1.old U).prun (o := 700) ⟨fun i hi h2 => by rw [H3.out.2.2.1]; exact HOK.out.ne i hi h2, HOK.out.du, HOK.out.o0, HOK.out.o1⟩ (by rw [hoe]; omega))
 rw [hoe] at HRU
 go_region_held3 (fun x => x.cell? ⟨PP', 7, none⟩ = some (.pointer (some ⟨D', 0, none⟩)) ∧ x.cell? ⟨PP', 8, none⟩ = some (.pointer (some ⟨B', 0, none⟩)) ∧ x.cell? ⟨PP', 9, none⟩ = some (.pointer (some ⟨X', 0, none⟩))) (first | (with_reducible exact QQ) | go_keep)
  (first | (go_at_call 25; (with_reducible refine (HRU.out _ ?_).mono ?_); (exact (Upd.refl _ w3).drew); rintro e w4 ⟨rfl, hS⟩; have H4 := Lib.hid (RuS.base hS (Upd.drew (Upd.refl (fun _ => False) w3))); have QQ := (run_cells hS hPq); clear hS))
 simp only [Exit.then]
 have O24 : Hid (Old w2 w4) := H3.out.1.after H4.out.u (fun b hb hf => by have := H3.out.2.2.2.2 b (by have := hf.1; omega); omega)
 obtain ⟨⟨cx, sx, stx, Mx, xx, hEx, -, -, -, -, -, -, hopx, -⟩, -⟩ := H4.out
 have HEx := Lib.hid hEx
 have HOPS := Lib.hid hopx
 have e7 := (hEx.cells hPq).2.1
 have z7 : w4.cell? ⟨PP, 7, none⟩ = some (.pointer (some ⟨D, 0, none⟩)) := ((HE1.out.old (HOV.out.2.1.trans O24.out)).cells hP).2.1
 have z0 : w4.cell? ⟨PP, 0, none⟩ = some (.int .i64 ((n : Nat) : Int)) := ((HE1.out.old (HOV.out.2.1.trans O24.out)).cells hP).1
 clear hEx hopx c0 c7 c8 c9 d7 d8 d9 QQ
 refine Lib.hid ?_
 go_wp2
 go_region_held3 (fun x => x.cell? ⟨PP', 7, none⟩ = some (.pointer (some ⟨D', 0, none⟩)) ∧ x.cell? ⟨PP, 7, none⟩ = some (.pointer (some ⟨D, 0, none⟩))) (first | (with_reducible exact QQ) | go_keep)
  (first | (go_at_call 34; (with_reducible refine (HEx.out.old ?_).ops.mono ?_); (exact (Upd.refl _ w4).drew); rintro e w5 ⟨rfl, rfl⟩) | (go_at_call 34; (with_reducible refine (HE1.out.old ?_).ops.mono ?_); (exact (HOV.out.2.1.trans O24.out).drew); rintro e w5 ⟨rfl, rfl⟩))
 simp only [Exit.then]
 obtain ⟨W4, hW4⟩ : ∃ W4, w4.drew = W4 := ⟨_, rfl⟩
 have O4 : Hid (Old w1 W4) := Lib.hid (by rw [← hW4]; exact (HOV.out.2.1.trans O24.out).drew)
 have O34 : Hid (Old w2 W4) := Lib.hid (by rw [← hW4]; exact O24.out.drew)
 obtain ⟨T, hT⟩ : ∃ T, (if ordO n st M x = [] then 0 else cntU s n + (ordO n st M x).length) = T := ⟨_, rfl⟩
 have hops := HOPS.out
 rw [hT] at hops
 have hcu := cntU_le s n
 have hTb : T ≤ 2 * n := by rw [← hT]; split <;> omega
 have hT0 : 0 < T ↔ 0 < (ordO n st M x).length := by
  rw [← hT]
  split
  ·rename_i h; rw [h]; simp
  ·rename_i h
   have := List.length_pos_iff.2 h
   omega
 have hTw : IntKind.i64.wrap (sx.ops - s.ops) = (T : Int) := by rw [show sx.ops - s.ops = (T : Int) by omega]; exact IntWalk.i64_in _ (by omega)
 have gw : IntKind.i64.wrap (2 * (n : Int)) = 2 * (n : Int) := IntWalk.i64_in _ (by omega)
 have g1 : ¬ 2 * (n : Int) < (T : Int) := by omega
 have g3 : (decide ((0 : Int) < (T : Int)) != decide ((0 : Int) < ((ordO n st M x).length : Int))) = false := by
  have : decide ((0 : Int) < (T : Int)) = decide ((0 : Int) < ((ordO n st M x).length : Int)) := by
   rw [decide_eq_decide]; omega
  rw [this]; simp
 have z0 : W4.cell? ⟨PP, 0, none⟩ = some (.int .i64 ((n : Nat) : Int)) := by rw [← hW4]; exact Old.cellOf' ((Upd.refl (fun _ => False) w4).drew) z0
 rw [hTw, hW4]
 clear HOPS hops e7 z7 hTw O24 HRU H4 H3
 refine Lib.hid ?_
 go_wp2
 generalize decide (0 < (ordO n st M x).length) = bL
 clear g3
 have hO2 : Hid (∀ x2 : IdxS, x2.es = x.es → ordO n st M x2 = ordO n st M x) := Lib.hid (fun x2 h => by unfold ordO; rw [h])
 have hLN := ordO_len n st M x
 have hTL : Hid (0 < T → T = cntU s n + (ordO n st M x).length ∧ ordO n st M x ≠ []) := Lib.hid (fun h => by
  rw [← hT] at h ⊢
  split
  ·rename_i e; rw [if_pos e] at h; omega
  ·rename_i e; exact ⟨rfl, e⟩)
 generalize ordO n st M x = L at *
 go_loopw [19, 20, 21, 22, 23, 24, 25, 26, 27, 28, 29, 30] (fun av _ _ _ _ _ _ _ _ _ _ _ wr => ∃ j : Nat, 1 ≤ j ∧ j ≤ T + 1 ∧ av = .int .i64 j ∧ Old W4 wr) (fun av _ _ _ _ _ _ _ _ _ _ _ _ => T + 1 - (intOf av).toNat)
 case atStart => exact ⟨1, Nat.le_refl _, by omega, rfl, Upd.refl _ _⟩
 case round =>
  obtain ⟨jj, hj1, hjT, rfl, hU⟩ := hrel
  by_cases hjn : jj ≤ T
  ·have g5 : (jj : Int) ≤ (T : Int) := by omega
   have HU := Lib.hid hU
   clear hU
   go_wp2_with (first | (go_at_call 22; refine (HPC.out _ (O4.out.trans HU.out)).mono ?_; rintro e wc ⟨P2, D2, B2, X2, col2, x2, rfl, hU2, hE2, hxe, hpp2, hnw⟩; have hP2 := pp_ne hpp2 (HD1.out.upd ((O4.out.trans HU.out).trans hU2) (fun x => x)); obtain ⟨-, d7, d8, d9, -⟩ := hE2.cells hP2; have HC := Lib.hid (And.intro hU2 (And.intro hE2 (And.intro hxe hnw))); clear hU2 hE2 hxe hpp2 hnw) | (go_at_call 13; refine ((HC.out.2.1.old ((Upd.refl _ wc).alloc _)).arm (kb := wc.heap.size) (kc := 1) (kx := kp) (a := jj) (dn := dn) (one_cell wc _ kp) (by omega) (by omega) hj1).mono ?_; rintro e w5 ⟨rfl, hU5, col3, hA, hK⟩; obtain ⟨-, d7, d8, d9, -⟩ := hA.rest.pp.resolve_left hP2; have HA := Lib.hid (And.intro hA (And.intro hU5 hK)); clear hA hU5 hK))
   have HRN := Lib.hid (fun W (U : Old w5 W) => (HA.out.1.old U).prun ⟨fun i hi h2 => by rw [HC.out.2.2.1]; exact HOK.out.ne i hi h2, HOK.out.du, HOK.out.o0, HOK.out.o1⟩ hj1 (by rw [hO2.out x2 HC.out.2.2.1]; unfold totA; rw [if_pos rfl, ← (hTL.out (by omega)).1]; exact hjn) (by rw [hO2.out x2 HC.out.2.2.1]; exact (hTL.out (by omega)).2) (by omega))
   rw [hO2.out x2 HC.out.2.2.1] at HRN
   go_region_held3 (fun x => x.cell? ⟨P2, 7, none⟩ = some (.pointer (some ⟨D2, 0, none⟩)) ∧ x.cell? ⟨P2, 8, none⟩ = some (.pointer (some ⟨B2, 0, none⟩)) ∧ x.cell? ⟨P2, 9, none⟩ = some (.pointer (some ⟨X2, 0, none⟩))) (first | (with_reducible exact QQ) | go_keep)
    (first | (go_at_call 25; (with_reducible refine (HRN.out _ ?_).mono ?_); (exact (Upd.refl _ w5).drew); rintro e w6 ⟨rfl, j, sx2, hj, hsd, hcg⟩; have hA2 := HA.out.1.old ((Upd.refl _ w5).drew); have H6 := Lib.hid (And.intro hj (And.intro hcg (crash_restart hA2 hP2 hcg hsd hj))); have QQ := crg_cells hA2 hP2 hcg; clear hj hsd hcg hA2))
   simp only [Exit.then]
   obtain ⟨d7, -, -⟩ := crg_cells (HA.out.1.old ((Upd.refl _ w5).drew)) hP2 H6.out.2.1
   refine Lib.hid ?_
   go_upto_block 2 with (first | (go_at_call 35; refine H6.out.2.2.mono ?_; rintro e w7 ⟨rfl, hU7, bq, hq, hlf⟩; have HQ := Lib.hid (And.intro hq hlf); have HU7 : Hid (Old wr w7) := Lib.hid (round_old HC.out.1 HC.out.2.2.2 ((Upd.refl _ wc).alloc _) (HA.out.2.1.drew) HA.out.2.2 H6.out.2.1.1 hU7 HA.out.1.cD); clear hq hlf hU7))
   have hj := H6.out.1
   have hTp := (hTL.out (by omega)).2
   have hLp : 0 < L.length := List.length_pos_iff.2 hTp
   have O17 : Hid (Old w1 w7) := Lib.hid (O4.out.trans (HU.out.trans HU7.out))
   have HCG : Hid (∃ g, va = some ⟨g, 0, none⟩ ∧ ∀ W, Old w7 W → ∀ k y, L[k]? = some y → W.cell? ⟨g, k, none⟩ = some (.int .i64 ((y : Nat) : Int))) := Lib.hid (by
    obtain ⟨g, vc2, hv⟩ := own_block HOV.out.1 hLp
    injection hv with hv1 hv2 hv3
    subst hv1 hv3
    refine ⟨g, rfl, fun W U k y hy => ?_⟩
    have h := (HOV.out.1).cells (g := g) rfl k (.int .i64 ((y : Nat) : Int)) (by unfold intsV; rw [List.getElem?_map, hy]; rfl)
    rw [show (⟨g, 0, none⟩ : Addr).add k = ⟨g, k, none⟩ from by unfold Addr.add; split <;> simp_all] at h
    exact Old.cellOf' (O34.out.trans (HU.out.trans (HU7.out.trans U))) h)
   obtain ⟨g, rfl, hcg⟩ := HCG.out
   have HCG2 := Lib.hid hcg
   have HBP := Lib.hid (fun W (U : Old w7 W) i (hi : i < n) => (HE1.out.old (O17.out.trans U)).bytes hP hi)
   clear hcg HCG H6 HRN HA HC d7 d8 d9 hTp
   go_cut [23] from 158 to 183 (fun s23 wi => ∃ v : Int, s23 = .int .i64 v ∧ Hid (v = (j : Int)) ∧ Old w7 wi)
   case first =>
    go_wp2
    go_loopw [23] (fun iv wi => ∃ i : Nat, i ≤ j ∧ iv = .int .i64 i ∧ Old w7 wi) (fun iv _ => j - (intOf iv).toNat)
    case atStart => exact ⟨0, Nat.zero_le _, rfl, Upd.refl _ _⟩
    case round =>
     obtain ⟨i, hi, rfl, hUi⟩ := hrel
     by_cases hij : i < j
     ·have hil : i < L.length := by omega
      obtain ⟨y, hy⟩ : ∃ y, L[i]? = some y := ⟨L[i], List.getElem?_eq_getElem hil⟩
      obtain ⟨hyn, hy2⟩ := hLN.2 y (List.mem_of_getElem? hy)
      have ck := HCG2.out _ hUi i y hy
      have gl : (i : Int) < (L.length : Int) := by omega
      have hbz := LeftB.gone HQ.out.2 hij hy hyn
      have hpz := HLE.out y hyn hy2
      have g9 : (0 : Int) < ((s.img y).bs.length : Int) := by omega
      have HBQ := Lib.hid (HQ.out.1 _ hUi y hyn)
      have HUi := Lib.hid hUi
      clear hUi
      go_wp2_with (first | (go_at_call 33; (with_reducible refine HBQ.out.mono ?_); rintro e w8 ⟨⟨a8, n8, c8, rfl, hb8⟩, hO8⟩; have e8 : n8 = 0 := (by rw [bytes_len hb8, hbz]); subst e8; have ck2 := Old.cellOf' hO8 ck; have H8 := Lib.hid (HUi.out.trans hO8); clear hO8 hb8) | (go_at_call 33; (with_reducible refine (HBP.out _ H8.out y hyn).mono ?_); rintro e w9 ⟨⟨a9, n9, c9, rfl, hb9⟩, hO9⟩; obtain rfl := bytes_len hb9; have H9 := Lib.hid (H8.out.trans hO9); clear hO9 hb9))
      go_roundw
      all_goals first
       | exact ⟨⟨i + 1, by omega, by go_num, H9.out⟩, by simp [intOf]; omega⟩
       | exact ⟨i + 1, by omega, by go_num, H9.out⟩
       | exact ⟨i + 1, by omega, by simp, H9.out⟩
       | (simp [intOf]; omega)
     ·obtain rfl : i = j := by omega
      have HUi := Lib.hid hUi
      clear hUi
      by_cases hil : i < L.length
      case' pos =>
       obtain ⟨y, hy⟩ : ∃ y, L[i]? = some y := ⟨L[i], List.getElem?_eq_getElem hil⟩
       obtain ⟨hyn, hy2⟩ := hLN.2 y (List.mem_of_getElem? hy)
       have ck := HCG2.out _ HUi.out i y hy
       have gl : (i : Int) < (L.length : Int) := by omega
       have hbz := LeftB.stay HQ.out.2 hLN.1 hy hyn (HOK.out.du y hyn hy2) (HLE.out y hyn hy2)
       have HBQ := Lib.hid (HQ.out.1 _ HUi.out y hyn)
       have g8 : (((bq y).length : Int) == 0) = false := by rw [beq_eq_false_iff_ne]; omega
       have g8' : ¬ ((bq y).length : Int) = 0 := by omega
       go_wp2_with (first | (go_at_call 33; (with_reducible refine HBQ.out.mono ?_); rintro e w8 ⟨⟨a8, n8, c8, rfl, hb8⟩, hO8⟩; obtain rfl := bytes_len hb8; have H8 : Hid (Old w7 w8) := Lib.hid (HUi.out.trans hO8); clear hO8 hb8))
      case' neg =>
       obtain ⟨w8, hw8⟩ : ∃ w8, w8 = wr := ⟨_, rfl⟩
       subst hw8
       have gl : ¬ (i : Int) < (L.length : Int) := by omega
       have H8 : Hid (Old w7 w8) := HUi
       go_wp2
      all_goals
       first
        | (go_meet; exact ⟨(i : Int), rfl, Lib.hid rfl, H8.out⟩)
   case rest =>
    obtain ⟨v, rfl, HV, hO8⟩ := hcut
    obtain ⟨w8, hw8⟩ : ∃ w8, w8 = wc := ⟨_, rfl⟩
    subst hw8
    have H8 := Lib.hid hO8
    clear hO8
    refine Lib.hid ?_
    go_wp2
    go_loopw [25] (fun kv wi => ∃ k : Nat, k ≤ L.length ∧ kv = .int .i64 k ∧ (∃ n' D', n' ≤ k ∧ OwnN wi w8.heap.size n' D' ∧ MapN D' (posN L k)) ∧ Old w8 wi) (fun kv _ => L.length - (intOf kv).toNat)
    case atStart => exact ⟨0, Nat.zero_le _, rfl, ⟨0, _, Nat.le_refl _, (pos_made w8 L).1, (pos_made w8 L).2⟩, (Upd.refl _ w8).alloc _⟩
    case round =>
     obtain ⟨k, hk, rfl, ⟨n', D', hn', hown, hM⟩, hUk⟩ := hrel
     by_cases hkl : k < L.length
     ·obtain ⟨y, hy⟩ : ∃ y, L[k]? = some y := ⟨L[k], List.getElem?_eq_getElem hkl⟩
      obtain ⟨hyn, hy2⟩ := hLN.2 y (List.mem_of_getElem? hy)
      obtain ⟨V', hrun, hnew, hUV⟩ := put_pos hown hM hy hLN.1 (by omega) (by omega) hn'
      have ck := HCG2.out _ (H8.out.trans hUk) k y hy
      have gl : (k : Int) < (L.length : Int) := by omega
      have HNW := Lib.hid (And.intro hnew (hUk.after hUV (fun b hb hf => by omega)))
      clear hown hM hnew hUk hUV
      go_wp2
      exact ⟨⟨k + 1, by omega, by go_num, HNW.out.1, HNW.out.2⟩, by simp [intOf]; omega⟩
     ·obtain rfl : k = L.length := by omega
      have gl : ¬ (L.length : Int) < (L.length : Int) := by omega
      have HOWN := Lib.hid (And.intro hown hM)
      obtain ⟨w9, hw9⟩ : ∃ w9, w9 = wr := ⟨_, rfl⟩
      subst hw9
      have H9 : Hid (Old w7 w9) := Lib.hid (H8.out.trans hUk)
      clear hUk hown hM
      go_wp2
      go_loopw [26, 27, 28, 29, 30] (fun iv _ _ _ _ wi => ∃ q : Nat, q ≤ n ∧ iv = .int .i64 q ∧ Old w9 wi) (fun iv _ _ _ _ _ => n - (intOf iv).toNat)
      case atStart => exact ⟨0, Nat.zero_le _, rfl, Upd.refl _ _⟩
      case round =>
       obtain ⟨q, hq, rfl, hUq⟩ := hrel
       have H7q : Hid (Old w7 wr) := Lib.hid (H9.out.trans hUq)
       have z0q : wr.cell? ⟨PP, 0, none⟩ = some (.int .i64 ((n : Nat) : Int)) := ((HE1.out.old (O17.out.trans H7q.out)).cells hP).1
       by_cases hqn : q < n
       ·have g6 : (q : Int) < (n : Int) := by omega
        have hlk := look_pos (HOWN.out.1.upd hUq (fun x => x)) HOWN.out.2 (show q ≤ 1000 by omega)
        have hps := posN_le (i := q) hj hLN.1
        have hv := HV.out
        generalize posN L L.length q = ps at *
        have HUq := Lib.hid hUq
        clear hUq
        by_cases hm : q ∈ L.take j
        ·obtain ⟨p1, p2⟩ := hps.2 hm
         have g7 : (0 : Int) < (ps : Int) := by omega
         have g8 : (ps : Int) ≤ v := by omega
         clear hps p1 p2 hm hv
         go_wp2
         exact ⟨⟨q + 1, by omega, by go_num, HUq.out⟩, by simp [intOf]; omega⟩
        ·have hcs : (¬ (0 : Int) < (ps : Int)) ∨ ((0 : Int) < (ps : Int) ∧ ¬ (ps : Int) ≤ v) := by
          have hnp : ¬ (0 < ps ∧ ps ≤ j) := fun h => hm (hps.1 h)
          omega
         obtain ⟨old, now, s1, s2, s3, s4, s5, s6, s7⟩ := LeftB.str HQ.out.2 hqn hm
         have hci : (¬ (0 : Int) < v) ∨ ((0 : Int) < v ∧ now = old) := by
          by_cases h : 0 < j
          ·exact .inr ⟨by omega, s7 h⟩
          ·exact .inl (by omega)
         obtain ⟨b1, b2⟩ := HBD.out q hqn
         have HBQq := Lib.hid (fun W (U : Old w7 W) => HQ.out.1 W U q hqn)
         have HBPq := Lib.hid (fun W (U : Old w7 W) => HBP.out W U q hqn)
         have HUN := Lib.hid (fun W (U : Old w7 W) => (HE1.out.old (O17.out.trans U)).uns hqn)
         have HZ7 := Lib.hid (fun W (U : Old w7 W) => ((HE1.out.old (O17.out.trans U)).cells hP).2.1)
         have HS := Lib.hid (And.intro s1 s2)
         rw [← s3] at HUN
         have hsl := fun wx => run_slice_string_h (P := Tryz.prog) wx 9 old Tryz.underlying9 .i64 ((now.size : Nat) : Int) (by omega) (by omega)
         simp only [Int.toNat_natCast, s6] at hsl
         have ga : ¬ (old.size : Int) < (now.size : Int) := by omega
         have gwr : IntKind.i64.wrap ((old.size : Int) - ((old.size : Int) - ((s.img q).dur : Int))) = ((s.img q).dur : Int) := by
          rw [show (old.size : Int) - ((old.size : Int) - ((s.img q).dur : Int)) = ((s.img q).dur : Int) by omega]
          exact IntWalk.i64_in _ (by omega)
         have gb : ¬ (now.size : Int) < ((s.img q).dur : Int) := by omega
         generalize (s.img q).dur = du at *
         clear hv hps hm s1 s2 s3 s4 s5 s6 s7 b1 b2
         rcases hcs with g7 | ⟨g7, g8⟩
         all_goals
          go_wp2
          go_cut [27, 28] from 218 to 225 (fun s27 s28 wi => s27 = .string old ∧ s28 = .string now ∧ Old wr wi)
          case first =>
           rw [← crA_eq, ← crB_eq]
           have hcrA := crA_eq
           have hcrB := crB_eq
           go_region_held3 (fun _ => True) (exact trivial)
            (first | (go_at_call 33; (with_reducible refine (HBPq.out _ ?_).mono ?_); (first | exact H7q.out | exact H7q.out.drew); rintro e w12 ⟨⟨a7, n7, c7', rfl, hb7⟩, hO⟩; have hcv7 := conv_at hb7; rw [HS.out.1] at hcv7; have HB7 := Lib.hid hb7; have H12 : Hid (Old wr w12) := (by first | exact hO | exact (Upd.drew (Upd.refl _ wr)).trans hO); clear hO hb7) | (go_at_call 33; (with_reducible refine (HBQq.out _ ?_).mono ?_); (first | exact H7q.out.trans H12.out | exact (H7q.out.trans H12.out).drew); rintro e w13 ⟨⟨a8, n8, c8', rfl, hb8⟩, hO⟩; have hcv8 := conv_at hb8; rw [HS.out.2] at hcv8; have hcv9 := conv_at (HB7.out.old hO); rw [HS.out.1] at hcv9; have H13 : Hid (Old wr w13) := (by first | exact H12.out.trans hO | exact H12.out.drew.trans hO); clear hO hb8))
           all_goals
            first
             | (go_meet; exact ⟨rfl, rfl, H13.out⟩)
             | (simp only [Exit.then]; refine Lib.hid ?_; go_wp2; go_meet; exact ⟨rfl, rfl, H13.out⟩)
          obtain ⟨rfl, rfl, hO13⟩ := hcut
          have H13 := Lib.hid hO13
          clear hO13
          refine Lib.hid ?_
          have c7q := HZ7.out _ (H7q.out.trans H13.out)
          rcases hci with g9 | ⟨g9, rfl⟩
         all_goals
          go_wp2_with (first | (go_at_call 11; (with_reducible refine (HUN.out _ (H7q.out.trans H13.out)).mono ?_); rintro e w14 ⟨rfl, hO⟩; have H14 := Lib.hid ((HUq.out.trans H13.out).trans hO); clear hO))
         all_goals first
          | exact ⟨⟨q + 1, by omega, by go_num, H14.out⟩, by simp [intOf]; omega⟩
          | exact ⟨⟨q + 1, by omega, by simp, H14.out⟩, by simp [intOf]; omega⟩
       ·obtain rfl : q = n := by omega
        have g6 : ¬ (q : Int) < (q : Int) := by omega
        have HEnd : Hid (Old W4 wr) := Lib.hid (HU.out.trans (HU7.out.trans H7q.out))
        clear hUq
        go_wp2
        exact ⟨⟨jj + 1, by omega, by omega, by go_num, HEnd.out⟩, by simp [intOf]; omega⟩
  ·obtain rfl : jj = T + 1 := by omega
   have g5 : ¬ ((T + 1 : Nat) : Int) ≤ (T : Int) := by omega
   have HU := Lib.hid hU
   clear hU
   go_wp2_with (first | (go_at_call 20; refine (HWK.out _ (HO1.out.trans (O4.out.trans HU.out))).mono ?_; rintro eW wW ⟨rfl, hKw⟩; have HKW := Lib.hid hKw; clear hKw))
   go_ret
   exact ⟨rfl, Upd.kpt (HO1.out.trans (O4.out.trans HU.out)) HKW.out⟩
end Go.M
