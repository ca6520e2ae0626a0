/- Walks 48. -/
import Derived.Test.YtjadmbkmlehfdaaGreatDoorProg
import Derived.Test.YtjadmbkmlehfdaaGreatDoorK47
set_option linter.unusedVariables false
set_option linter.unusedSimpArgs false
set_option maxRecDepth 100000
namespace Go.M
open Go.Proofs Go.RowKit Go.Shelf Go.Maps
set_option linter.unusedSimpArgs false
attribute [local go_sem] Oper.semAt_some
set_option maxHeartbeats 40000000 in
theorem pruneMap_walk {w : World} {n0 n1 n2 n3 n4 n5 n6 ll lc l2 c2 : Nat} {al al2 : Option Addr} {sl : Bool} (h0 : n0 < 256) (h1 : n1 < 256) (h2 : n2 < 256) (h3 : n3 < 256) (h4 : n4 < 256) (h5 : n5 < 256) (h6 : n6 < 256) (hdb : DbAt w) (hse : SealAt w) (hdr : DropAt w) (hll : ll ≤ lc) (hlc : lc ≤ 9223372036854775807) (hal : ll = 0 ∨ al.isSome = true) (hL : ∀ j, j < ll → j < 60 → ∃ lb lo, al = some ⟨lb, lo, none⟩ ∧ MoveAt w lb lo j)
 (hc2 : l2 ≤ c2) (hN : ∀ j, j < l2 → j < 20 → NumAt w al2 j) (hl63 : (l2 : Int) ≤ 9223372036854775807)
 (hW : ∀ w' : World, Old w w' → Calls Tryz.prog 20 #[] w' fun e w'' => e = .returned (.bool true) ∧ Kpt w' w'') :
 Calls Tryz.prog 4 #[.agg #[.int .u8 ((n0 : Nat) : Int), .int .u8 ((n1 : Nat) : Int), .int .u8 ((n2 : Nat) : Int), .int .u8 ((n3 : Nat) : Int), .int .u8 ((n4 : Nat) : Int), .int .u8 ((n5 : Nat) : Int), .int .u8 ((n6 : Nat) : Int), .slice al ll lc], .slice al2 l2 c2, .bool sl] w fun e w' => e = .returned (.bool true) ∧ Kpt w w' := by
 have HCD : Hid (l2 ≤ 20 → ∀ W : World, Old w W → Calls Tryz.prog 21 #[.agg #[.int .u8 ((n0 : Nat) : Int), .int .u8 ((n1 : Nat) : Int), .int .u8 ((n2 : Nat) : Int), .int .u8 ((n3 : Nat) : Int), .int .u8 ((n4 : Nat) : Int), .int .u8 ((n5 : Nat) : Int), .int .u8 ((n6 : Nat) : Int), .slice al ll lc], .slice al2 l2 c2, .bool sl] W fun e w1 => ∃ k PP D B X, e = .returned (.tuple #[.pointer (some ⟨PP, 0, none⟩), .bool true]) ∧ CdR W k PP D B X 21 w1) := fun hl W U => by
  refine (copied_walk h0 h1 h2 h3 h4 h5 h6 (hdb.upd U (fun x => x)) (hse.upd U (fun x => x)) (hdr.upd U (fun x => x)) hll hlc hal (fun j a b => by obtain ⟨lb, lo, ha, kd, ky, sz, q1, q2, q3, m0, m1, m2⟩ := hL j a b; exact ⟨lb, lo, ha, kd, ky, sz, q1, q2, q3, Old.cellOf' U m0, Old.cellOf' U m1, Old.cellOf' U m2⟩) hl hc2 (fun j hj => by obtain ⟨lb, lo, q, a, b, c⟩ := hN j hj (by omega); exact ⟨lb, lo, q, a, b, Old.cellOf' U c⟩)).mono ?_
  rintro e w1 ⟨PP, D, B, X, rfl, hm⟩
  exact ⟨_, PP, D, B, X, rfl, hm⟩
 have HDR := Lib.hid hdr
 have HWK := Lib.hid hW
 clear hdb hse hdr hL hN hW
 have hmm := @run_makeMap Tryz.prog
 refine (callsIn_wide (n := 8)).1 ?_
 refine callsIn_of_wp_marks Tryz.func4 rfl trivial ?_ rfl
 simp only [Tryz.ntmps4, List.size_toArray, List.length_cons, List.length_nil, Nat.reduceAdd, Nat.reduceSub, Array.replicate_succ, Array.replicate_zero, List.push_toArray, List.append_toArray, List.nil_append, List.cons_append]
 refine wpIn_wide.2 ?_
 have HKK : Hid (∀ c1 t1, PmK w [] ((w.alloc (.cells c1 t1)).alloc (.cells #[.bool false] 4))) := fun c1 t1 => ⟨((Upd.refl _ w).alloc _).alloc _, has_new_at, List.nodup_nil, fun D' h => (by cases h)⟩
 by_cases hl20 : 20 < l2
 ·have g0 : (20 : Int) < (l2 : Int) := by omega
  go_wp2_with (first | (go_at_call 20; refine (HWK.out _ (((Upd.refl _ w).alloc _).alloc _)).mono ?_; rintro eW wW ⟨rfl, hKw⟩; have d6 := hKw.has (HKK.out _ _).h6; have c6 : wW.cell? ⟨w.heap.size + 1, 0, none⟩ = some (.bool false) := d6.cell 0; have f6 := d6.frozen 0; have l6 := d6.lt; have HKW := Lib.hid hKw; clear hKw d6))
  exact pm_leave (HKK.out _ _) HKW.out rfl
 have g0 : ¬ (20 : Int) < (l2 : Int) := by omega
 go_wp2_with (first | (go_at_call 21; refine (HCD.out (by omega) _ (((Upd.refl _ w).alloc _).alloc _)).mono ?_; rintro e w1 ⟨k, PP, D, B, X, rfl, hb1⟩; have HK1 := Lib.hid ((show PmK w [] _ from ⟨((Upd.refl _ w).alloc _).alloc _, has_new_at, List.nodup_nil, fun D' h => (by cases h)⟩).old hb1.roles.1); have HB := Lib.hid hb1; clear hb1; refine Hid.out ?_))
 obtain ⟨col, s, st, M, x, next, hE1, hok, hle, -, hc0, hpp, hP⟩ := HB.out
 have hkn : ∃ n, k.n = n := ⟨_, rfl⟩
 obtain ⟨n, hkn⟩ := hkn
 have HD1 := Lib.hid (HDR.out.upd HK1.out.u (fun x => x))
 have c7 := (hE1.cells hP).2.1
 have c8 := (hE1.cells hP).2.2.1
 have c9 := (hE1.cells hP).2.2.2.1
 have hes := hok.ents
 have heok := hok.eok
 have hcop := hok.cop
 rw [hkn] at hE1 hes heok hcop
 have HPC := Lib.hid (hE1.pcopy hpp hkn)
 have HE1 := Lib.hid hE1
 have HES := Lib.hid hes
 have HOK := Lib.hid (show EOk n s st x 700 from ⟨heok.ne, heok.du, heok.o0, by have := heok.o1; omega⟩)
 have HCP := Lib.hid hcop
 have HPP := Lib.hid hpp
 have HC0 : Hid (∀ b, b < w.heap.size + 2 → (col b).1 = 0) := Lib.hid (fun b hb => hc0 b (by simpa using hb))
 clear hE1 hes heok hcop hok hle hpp HB HCD hc0
 refine Lib.hid ?_
 go_wp2_with (first | (go_at_call 22; refine HPC.out.mono ?_; rintro e w2 ⟨PP', D', B', X', col', x', rfl, hU2, hE2, hxe, hpp2, hnw⟩; have H2 := Lib.hid (And.intro hU2 (And.intro hE2 (And.intro hxe (And.intro hpp2 hnw)))); clear hU2 hE2 hxe hpp2 hnw) | (go_at_call 23; refine ((HE1.out.old H2.out.1).lmap hP HES.out).mono ?_; rintro e w3 ⟨mb, mk, MD, rfl, hm1, hm2, hm3, hm4, hU3⟩; have H3 := Lib.hid (And.intro hm1 (And.intro hm2 (And.intro hm3 (And.intro hm4 hU3)))); have c7 := Old.cellOf' hU3 (Old.cellOf' H2.out.1 c7); have c8 := Old.cellOf' hU3 (Old.cellOf' H2.out.1 c8); have c9 := Old.cellOf' hU3 (Old.cellOf' H2.out.1 c9); clear hm1 hm2 hm3 hm4 hU3))
 have hl8 := World.block_lt_of_cell? w3 _ c8
 simp only at hl8
 have hne8 : ¬ PP = w3.heap.size := by omega
 have hne8' : ¬ w3.heap.size = PP := by omega
 have HOR := Lib.hid (fun W (U : Old w1 W) => (HE1.out.old U).porder HOK.out.ne)
 have H13 : Hid (Old w1 w3) := H2.out.1.trans H3.out.2.2.2.2
 refine wp_cutL [49, 50, 51, 52, 53, 54, 55, 56, 57, 48, 58, 59, 11, 12] (OrdF w3 (ordO n st M x)) (fun R hR => ?_) ?_
 ·go_region_held3 (fun x => x.cell? ⟨PP, 8, none⟩ = some (.pointer (some ⟨B, 0, none⟩)) ∧ x.cell? ⟨PP, 9, none⟩ = some (.pointer (some ⟨X, 0, none⟩))) (first | (with_reducible exact QQ) | go_keep)
   (first | (go_at_call 24; (with_reducible refine (HOR.out _ ?_).mono ?_); (exact (H13.out.alloc _).drew); rintro e w4 ⟨ov, rfl, ho1, ho2, ho3⟩; obtain ⟨va, vc, rfl⟩ := own_slice ho1; have U34 : Old w3 w4 := ((Upd.refl (fun _ => False) w3).alloc _).drew.trans ho2; have d11 : Has w4 w3.heap.size 48 #[.slice none 0 0] := Old.has ho2 (Has.new w3 _ _); have HFF := Lib.hid (ord_a d11 ho1 U34 (fun b hb => by have := ho3 b hb; simpa using this)); have c11 := d11.cell 0; have f11 := d11.frozen 0; have l11 := d11.lt; have c8 := Old.cellOf' U34 c8; have c9 := Old.cellOf' U34 c9; have QQ := And.intro c8 c9; clear ho1 ho2 ho3 U34 d11) | (go_at_call 24; (with_reducible refine (HOR.out _ ?_).mono ?_); (exact H13.out.drew); rintro e w4 ⟨ov, rfl, ho1, ho2, ho3⟩; obtain ⟨va, vc, rfl⟩ := own_slice ho1; have U34 : Old w3 w4 := (Upd.refl (fun _ => False) w3).drew.trans ho2; have HFF := Lib.hid (ord_b ho1 U34 (fun b hb => ho3 b hb)); have c8 := Old.cellOf' U34 c8; have c9 := Old.cellOf' U34 c9; have QQ := And.intro c8 c9; clear ho1 ho2 ho3 U34))
  all_goals
   refine cut_end hR ?_ (HFF.out _ rfl rfl)
   simp only [setL, List.foldl_cons, List.foldl_nil, List.setIfInBounds_toArray, List.set_cons_succ, List.set_cons_zero]
   kernel_rfl
 rintro f W5 ⟨OB, va, vc, e11, e12, hf1, hf2, hf3, hf4, hf5⟩
 simp only [setL, List.foldl_cons, List.foldl_nil, List.setIfInBounds_toArray, List.set_cons_succ, List.set_cons_zero, e11, e12, Exit.then]
 have H15 : Hid (Old w1 W5) := H13.out.trans hf3
 have c7 := Old.cellOf' hf3 c7
 have c8 := Old.cellOf' hf3 c8
 have c9 := Old.cellOf' hf3 c9
 have HF5 := Lib.hid (And.intro hf1 (And.intro hf2 (And.intro hf4 hf5)))
 have HO35 := Lib.hid hf3
 have HRU := Lib.hid (fun W (U : Old w1 W) => (HE1.out.old U).prun HOK.out (by have := ordO_nine st M x HE1.out.n9; omega))
 clear hf1 hf2 hf3 hf4 hf5 e11 e12 HOR
 refine Lib.hid ?_
 go_wp2
 go_region_held3 (fun x => x.cell? ⟨PP, 7, none⟩ = some (.pointer (some ⟨D, 0, none⟩)) ∧ x.cell? ⟨PP, 8, none⟩ = some (.pointer (some ⟨B, 0, none⟩)) ∧ x.cell? ⟨PP, 9, none⟩ = some (.pointer (some ⟨X, 0, none⟩))) (first | (with_reducible exact QQ) | go_keep)
  (first | (go_at_call 25; (with_reducible refine (HRU.out _ ?_).mono ?_); (exact H15.out.drew); rintro e w6 ⟨rfl, hS⟩; have H6 := Lib.hid (RuS.base hS (Upd.drew (Upd.refl (fun _ => False) W5))); have QQ := (pm_cells hS hP); clear hS))
 go_wp2
 have HA := Lib.hid (pm_a HK1.out HC0.out HE1.out H15.out H6.out (H2.out.2.1.old (H3.out.2.2.2.2.trans HO35.out)) H2.out.2.2.1 H2.out.2.2.2.2 HF5.out.1 HF5.out.2.1 (Nat.le_trans H13.out.size HF5.out.2.2.1) (fun b hb => Nat.le_trans H13.out.size (HF5.out.2.2.2 b hb).1))
 have hMB := (H3.out.1.upd HO35.out (fun x => x)).upd H6.out.u (fun h => by have := HE1.out.new mb (Nat.le_trans H2.out.1.size H3.out.2.2.1); unfold EF at h; omega)
 have HMB := Lib.hid hMB
 have HMD := Lib.hid H3.out.2.1
 have hPq := pp_ne H2.out.2.2.2.1 (HD1.out.upd H2.out.1 (fun x => x))
 have hn10 : n ≤ 10 := by have := HE1.out.n9; omega
 obtain ⟨hlnd, hlmem⟩ := ordO_len n st M x
 have hll9 : (ordO n st M x).length ≤ 9 := by
  have := List.Nodup.length_le_of_subset hlnd (fun i hi => List.mem_range.2 (hlmem i hi).1)
  rw [List.length_range] at this
  have := HE1.out.n9
  omega
 have hcnt : ∀ st', (∀ i, st' i = if i ∈ ordO n st M x then 0 else st i) → cntS st' n 0 = cntS st n 0 + (ordO n st M x).length := fun st' h => cntS_gone hlnd hlmem h
 have hcn : cntS st n 0 ≤ 10 := by
  have := stL_len st n 0
  unfold stL at this
  unfold cntS
  omega
 have hlive : ∀ W, Old w6 W → Calls Tryz.prog 23 #[.pointer (some ⟨PP, 0, none⟩)] W (fun e w' => ∃ b k, e = .returned (.map (some b)) ∧ OwnS w' b k MD ∧ Old W w') := fun W U => by
  obtain ⟨col6, s', st', M', x6, q1, q2, q3, q4, q5⟩ := HA.out.p
  refine ((q1.old U).lmap hP (HES.out.fold q2)).mono ?_
  rintro e w' ⟨b, k, D2, rfl, a1, a2, a3, a4, a5⟩
  have hsq : seqM M' = seqM M := seqM_fold (fun ky => by
   have := ordL_live 10 (stL st n 2) (M, x.es) HE1.out.idx.con HCP.out (fun i hi => (stL_mem.1 hi).1) ky
   have hX' : ((ordL 10 (stL st n 2) (M, x.es)).foldl dropX (M, x.es)) = (M', x6.es) := q2.symm
   rw [hX'] at this
   exact this)
  rw [hsq] at a2
  have hDD : D2 = MD := MapL.same a2 HMD.out (World.ownsMap.canon a1 (string_keyed Tryz.underlying9)) (World.ownsMap.canon HMB.out (string_keyed Tryz.underlying9))
  rw [hDD] at a1
  exact ⟨b, k, rfl, a1, a5⟩
 have hfree1 : ∀ W, Old w6 W → Calls Tryz.prog 27 #[.pointer (some ⟨B, 0, none⟩)] W fun e w' => e = .returned (.int .i64 ((cntS st n 0 : Nat) + (ordO n st M x).length : Int)) ∧ W = w' := fun W U => by
  obtain ⟨col6, s', st', M', x6, q1, q2, q3, q4, q5⟩ := HA.out.p
  have := (q1.old U).tab.free
  rw [hcnt st' q3] at this
  simpa using this
 have hfree2 : ∀ W, Old w6 W → Calls Tryz.prog 27 #[.pointer (some ⟨B', 0, none⟩)] W fun e w' => e = .returned (.int .i64 ((cntS st n 0 : Nat) : Int)) ∧ W = w' := fun W U => by
  obtain ⟨col6, x6, q1, q2⟩ := HA.out.q
  exact (q1.old U).tab.free
 have HLV := Lib.hid hlive
 have HFR1 := Lib.hid hfree1
 have HFR2 := Lib.hid hfree2
 have q8 : w6.cell? ⟨PP', 8, none⟩ = some (.pointer (some ⟨B', 0, none⟩)) := by
  obtain ⟨col6, x6, q1, q2⟩ := HA.out.q
  exact (q1.cells hPq).2.2.1
 have q11 : w6.cell? ⟨OB, 0, none⟩ = some (.slice va (ordO n st M x).length vc) := HA.out.o.cell 0
 obtain ⟨c7, c8, c9⟩ := pm_cells H6.out hP
 clear hlive hfree1 hfree2 hcnt hlnd hlmem hMB
 generalize hLL : ordO n st M x = L at *
 have hw1 : IntKind.i64.wrap ((cntS st n 0 : Int) + (L.length : Int)) = (cntS st n 0 : Int) + (L.length : Int) := IntWalk.i64_in _ (by omega)
 generalize cntS st n 0 = cz at *
 have hw2 : ((L.length : Int) != (L.length : Int)) = false := by simp
 have hw3 : (((cz : Int) + (L.length : Int)) != ((cz : Int) + (L.length : Int))) = false := by simp
 go_region_held3 (fun x => x.cell? ⟨OB, 0, none⟩ = some (.slice va L.length vc) ∧ x.cell? ⟨PP, 8, none⟩ = some (.pointer (some ⟨B, 0, none⟩)) ∧ x.cell? ⟨PP', 8, none⟩ = some (.pointer (some ⟨B', 0, none⟩))) (first | (with_reducible exact QQ) | go_keep)
  (first | (go_at_call 23; (with_reducible refine (HLV.out _ ?_).mono ?_); (first | exact Upd.refl _ _ | exact (Upd.refl _ _).drew); rintro e w7 ⟨b7, k7, rfl, hm7, hU7⟩; have H7 : Hid (Old w6 w7) := (by first | exact hU7 | exact (Upd.drew (Upd.refl _ w6)).trans hU7); have HM7 := Lib.hid hm7; have QQ := And.intro (Old.cellOf' H7.out q11) (And.intro (Old.cellOf' H7.out c8) (Old.cellOf' H7.out q8)); clear hm7 hU7) | (go_at_call 26; (first | refine (equal36 HM7.out (HMB.out.upd H7.out (fun x => x))).mono ?_ | refine (equal36 (HM7.out.drew) (HMB.out.upd H7.out (fun x => x)).drew).mono ?_); rintro e w8 ⟨rfl, hU8⟩; have H8 : Hid (Old w6 w8) := (by first | exact H7.out.trans hU8 | exact (H7.out.drew).trans hU8); clear QQ; have QQ := And.intro (Old.cellOf' H8.out q11) (And.intro (Old.cellOf' H8.out c8) (Old.cellOf' H8.out q8)); clear hU8) | (go_at_call 27; (with_reducible refine (HFR1.out _ ?_).mono ?_); (first | exact H8.out | exact H8.out.drew); rintro e w9 ⟨rfl, rfl⟩) | (go_at_call 27; (with_reducible refine (HFR2.out _ ?_).mono ?_); (first | exact H8.out | exact H8.out.drew); rintro e w9 ⟨rfl, rfl⟩))
 have q9 : w8.cell? ⟨PP', 9, none⟩ = some (.pointer (some ⟨X', 0, none⟩)) := by
  obtain ⟨col6, x6, q1, q2⟩ := (HA.out.old H8.out).q
  exact (q1.cells hPq).2.2.2.1
 have hq9 : ∀ c t, ((w8.alloc (.map #[] 0)).alloc (.cells c t)).cell? ⟨PP', 9, none⟩ = some (.pointer (some ⟨X', 0, none⟩)) := fun c t => Old.cellOf' (((Upd.refl _ w8).alloc _).alloc _) q9
 have HXC := Lib.hid (fun W (U : Old w6 W) => (HA.out.old U).xcopy)
 clear HLV HFR1 HFR2 HMB HMD HM7 hw1 hw2 hw3
 simp only [Exit.then]
 refine Lib.hid ?_
 go_wp2_with (first | (go_at_call 28; refine (HXC.out _ ((H8.out.alloc _).alloc _)).mono ?_; rintro e w9 ⟨C, cc, x2, rfl, hU9, hx2, hix⟩; have H9 := Lib.hid (And.intro hU9 (And.intro hx2 hix)); clear hU9 hx2 hix; refine Hid.out ?_))
 have HL0 := Lib.hid (pml_start (L := L) H9.out.1 H9.out.2.1 H9.out.2.2)
 have HA8 := Lib.hid (HA.out.old H8.out)
 clear HA H6 HF5 HO35 H15 H13 H3 H2 HPC HE1 HD1 HRU HXC HK1 HC0 HPP
 refine Lib.hid ?_
 go_wp2
 refine wp_loop (fun a' wr => ∃ (j IC : Nat) (ds : List Nat), j ≤ L.length ∧ PmL w8 n M x L C w9.heap.size IC j j ds wr ∧ ∃ f, a' = pmA (w.heap.size + 1) PP PP' OB (w8.heap.size + 1) w9.heap.size IC f ds) (fun a' wr => L.length - cellI a' wr) ⟨0, w9.heap.size + 1, [], Nat.zero_le _, HL0.out, pmA_of (by kernel_rfl)⟩ ?_
 have hY : ∀ j y, L[j]? = some y → (redM ((L.take j).foldl dropX (M, x.es)).1 ((L.take j).foldl dropX (M, x.es)).2 y = true ∧ y < n ∧ st y = 2 ∧ y ∉ L.take j) ∧ ∀ i, i < n → st i = 2 → i ∉ L.take j → redM ((L.take j).foldl dropX (M, x.es)).1 ((L.take j).foldl dropX (M, x.es)).2 i = true → y ≤ i := fun j y hy => by
  subst hLL
  refine ⟨⟨ordL_at 10 _ _ j y hy, ((ordO_len n st M x).2 y (List.mem_of_getElem? hy)).1, ((ordO_len n st M x).2 y (List.mem_of_getElem? hy)).2, not_mem_take (ordO_len n st M x).1 hy⟩, fun i hi hi2 hn hr => ordL_least 10 _ _ j y (stL_sorted st n 2) hy i (stL_mem.2 ⟨hi, hi2⟩) hn hr⟩
 have HY := Lib.hid hY
 have HL9 : Hid (L.length ≤ 9) := hll9
 clear hY HL0 hll9
 rintro a' wb ⟨j, IC, ds, hj, hL, f, rfl⟩
 have hA := HA8.out.old hL.u
 have q11 : wb.cell? ⟨OB, 0, none⟩ = some (.slice va L.length vc) := by
  have := hA.o.cell 0
  rw [hLL] at this
  exact this
 have q17 : wb.cell? ⟨IC, 0, none⟩ = some (.int .i64 ((j : Nat) : Int)) := hL.ic.cell 0
 have q15 : wb.cell? ⟨w8.heap.size + 1, 0, none⟩ = some (.map (some w8.heap.size)) := hL.gc.cell 0
 have q16 : wb.cell? ⟨w9.heap.size, 0, none⟩ = some (.pointer (some ⟨C, 0, none⟩)) := hL.xc.cell 0
 have q8 : wb.cell? ⟨PP', 8, none⟩ = some (.pointer (some ⟨B', 0, none⟩)) := by
  obtain ⟨col6, x6, q1, q2⟩ := hA.q
  exact (q1.cells hPq).2.2.1
 have HLp := Lib.hid hL
 have HAp := Lib.hid hA
 clear hL hA
 unfold pmA
 by_cases hjl : j < L.length
 ·have g1 : (j : Int) < (L.length : Int) := by omega
  have hwj : IntKind.i64.wrap ((j : Int) + 1) = (j : Int) + 1 := IntWalk.i64_in _ (by have := HL9.out; omega)
  go_wp2_with (first | (go_at_call 29; refine table_in.mono ?_; rintro e w10 ⟨PT, PQ, rfl, t1, t2, hU⟩; have H10 := Lib.hid (And.intro t1 (And.intro t2 hU)); clear t1 t2 hU))
  obtain ⟨y, hy⟩ : ∃ y, L[j]? = some y := ⟨L[j], List.getElem?_eq_getElem hjl⟩
  obtain ⟨⟨y1, y2, y3, y4⟩, y5⟩ := HY.out j y hy
  obtain ⟨z, bx, hbits, hTi⟩ : ∃ z bx, BitsOf bx n st 2 ∧ ∀ V PT PQ, Old wb V → V.cell? ⟨PT, 0, none⟩ = some (.pointer (some ⟨B', 0, none⟩)) → V.cell? ⟨PQ, 0, none⟩ = some (.int .i64 2) → TiG PT PQ B' z n bx V := by
   obtain ⟨col6, x6, q1, q2⟩ := HAp.out.q
   exact q1.tab.sealedL
  have hn1 : 0 < n := by omega
  obtain ⟨gw, gcap, hgv⟩ := own_block (show wb.ownsRow 0 3 1 (.slice va L.length vc) L.length (intsV L) by have := HAp.out.w; rw [hLL] at this; exact this) (by omega)
  injection hgv with e1 e2 e3
  subst e1 e3
  have cy : wb.cell? ⟨gw, j, none⟩ = some (.int .i64 ((y : Nat) : Int)) := by
   have := (show wb.ownsRow 0 3 1 (.slice (some ⟨gw, 0, none⟩) L.length vc) L.length (intsV L) by have := HAp.out.w; rw [hLL] at this; exact this).cells (g := gw) rfl j (.int .i64 ((y : Nat) : Int)) (by unfold intsV; rw [List.getElem?_map, hy]; rfl)
   rw [show (⟨gw, 0, none⟩ : Addr).add j = ⟨gw, j, none⟩ from by unfold Addr.add; split <;> simp_all] at this
   exact this
  have HTI := Lib.hid hTi
  have O10 : Hid (Old wb w10) := H10.out.2.2
  have r11 := Old.cellOf' O10.out q11
  have r17 := Old.cellOf' O10.out q17
  have r15 := Old.cellOf' O10.out q15
  have r16 := Old.cellOf' O10.out q16
  have ry := Old.cellOf' O10.out cy
  clear q11 q17 q15 q16 q8 cy hTi
  refine (wpIn_wide (n := 8)).1 ?_
  refine name_tmps fun T0 hT0 => ?_
  simp only at hT0
  refine range_w rfl (by omega) (gf := 84) (lb := #[.pointer (some ⟨PT, 0, none⟩), .pointer (some ⟨PQ, 0, none⟩)]) rfl trivial (enters_of Tryz.func84 (by kernel_rfl) rfl) (encs := fun i : Nat => #[.int .i64 ((i : Nat) : Int)]) (fun _ => rfl)
   (tin_w (PT := PT) (PQ := PQ) (B := B') (z := z) (n := n) (x := bx) (st := st) 7 (by omega) hn1 hn10 hbits)
   (fun pre V => Old w10 V) (fun _ _ => False) (fun _ _ => False) ⟨fun _ _ _ _ h => h.elim, fun _ _ _ _ _ _ _ _ h => h⟩
   (fun pre A B' row hs hg hr => hs.grown hg (fun k e => .inr (hr k e).1))
   (fun _ _ _ _ _ h _ _ => h) (Upd.refl _ _) (fun pre V h => HTI.out V PT PQ (O10.out.trans h) (Old.cellOf' h H10.out.1) (Old.cellOf' h H10.out.2.1))
   (fun i => { tmps := (T0.setIfInBounds 127 (.int .i64 ((i : Nat) : Int))).setIfInBounds 18 (.int .i64 ((i : Nat) : Int)), defers := [] })
   ?assign ?body ?done ?stop
  case assign =>
   intro l2 x V K hK
   subst hT0
   gi_wp2
   exact hK
  case body =>
   rintro l2 pre i V hl hU ⟨hin, hi2, -⟩
   subst hT0
   have hUr : Old wb V := O10.out.trans hU
   have hLV := HLp.out.old hUr
   obtain ⟨colx, Mi, xi, b1, b2, -⟩ := hLV.ix
   obtain ⟨Dg, dg1, dg2⟩ := hLV.g
   have hrd := b1.red hin
   have e1 : Mi = ((L.take j).foldl dropX (M, x.es)).1 := congrArg Prod.fst b2
   have e2 : xi.es = ((L.take j).foldl dropX (M, x.es)).2 := congrArg Prod.snd b2
   rw [e1, e2] at hrd
   have h3 : (decide (i ∈ L.take j) = true ∧ i ≠ y) ∨ (decide (i ∈ L.take j) = false ∧ redM ((L.take j).foldl dropX (M, x.es)).1 ((L.take j).foldl dropX (M, x.es)).2 i = true ∧ y ≤ i) ∨ (decide (i ∈ L.take j) = false ∧ redM ((L.take j).foldl dropX (M, x.es)).1 ((L.take j).foldl dropX (M, x.es)).2 i = false ∧ i ≠ y) := by
    by_cases hg : i ∈ L.take j
    ·exact .inl ⟨by simpa using hg, fun e => y4 (e ▸ hg)⟩
    ·cases hr : redM ((L.take j).foldl dropX (M, x.es)).1 ((L.take j).foldl dropX (M, x.es)).2 i with
     | true => exact .inr (.inl ⟨by simpa using hg, rfl, y5 i hin hi2 hg hr⟩)
     | false => exact .inr (.inr ⟨by simpa using hg, rfl, fun e => by rw [e, y1] at hr; cases hr⟩)
   have v11 := Old.cellOf' hU r11
   have v17 := Old.cellOf' hU r17
   have v15 := Old.cellOf' hU r15
   have v16 := Old.cellOf' hU r16
   have vy := Old.cellOf' hU ry
   have HRD := Lib.hid hrd
   have HG1 := Lib.hid dg1
   have HG2 := Lib.hid dg2
   have HU := Lib.hid hU
   have hin3 : i ≤ 1000 := by omega
   generalize redM ((L.take j).foldl dropX (M, x.es)).1 ((L.take j).foldl dropX (M, x.es)).2 i = rv at *
   generalize hgv : decide (i ∈ L.take j) = gv at *
   clear hrd b1 b2 e1 e2 dg1 dg2 hLV hUr hU r11 r17 r15 r16 ry
   rcases h3 with ⟨rfl, h4⟩ | ⟨rfl, rfl, h4⟩ | ⟨rfl, rfl, h4⟩
   case' inr.inl => have h5 : ¬ (i : Int) < (y : Int) := by omega
   case' inl =>
    have h5 : ¬ (i : Int) = (y : Int) := by omega
    have h6 : ((i : Int) == (y : Int)) = false := by rw [beq_eq_false_iff_ne]; omega
   case' inr.inr =>
    have h5 : ¬ (i : Int) = (y : Int) := by omega
    have h6 : ((i : Int) == (y : Int)) = false := by rw [beq_eq_false_iff_ne]; omega
   all_goals
    gi_wp2_with (first | (refine ⟨trivial, ?_⟩; gi_at_call 30; refine (callsIn_wide.2 HRD.out).mono ?_; rintro e1 w11 ⟨rfl, hO⟩; have hlk := look_gone (HG1.out.upd hO (fun x => x)) HG2.out hin3; rw [hgv] at hlk; have H11 := Lib.hid hO; have v11 := Old.cellOf' hO v11; have v17 := Old.cellOf' hO v17; have v15 := Old.cellOf' hO v15; have vy := Old.cellOf' hO vy; clear hO))
   all_goals exact ⟨KeepsW.old H11.out, fun k h => h.elim, HU.out.trans H11.out⟩
  case done =>
   rintro D1 xs V1 hD rfl hU hKD
   subst hT0
   have hL1 := HLp.out.mark (O10.out.trans hU) (Nat.le_trans O10.out.size hD) hKD
   have hne : ((L.take j).foldl dropX (M, x.es)).2 y ≠ [] := by
    rw [fold_es, if_neg y4]
    exact HOK.out.ne y y2 y3
   obtain ⟨w12, hrun, h12i, h12x, h12g, h12o, hdp⟩ := hL1.gone hy (by have := HL9.out; omega) y2 hn10 hne
   have v11 := Old.cellOf' hU r11
   have v17 := Old.cellOf' hU r17
   have v15 := Old.cellOf' hU r15
   have vy := Old.cellOf' hU ry
   have k11 : w8.cell? ⟨OB, 0, none⟩ = some (.slice (some ⟨gw, 0, none⟩) L.length vc) := by
    have := HA8.out.o.cell 0
    rw [hLL] at this
    exact this
   have ky : w8.cell? ⟨gw, j, none⟩ = some (.int .i64 ((y : Nat) : Int)) := by
    have := (show w8.ownsRow 0 3 1 (.slice (some ⟨gw, 0, none⟩) L.length vc) L.length (intsV L) by have := HA8.out.w; rw [hLL] at this; exact this).cells (g := gw) rfl j (.int .i64 ((y : Nat) : Int)) (by unfold intsV; rw [List.getElem?_map, hy]; rfl)
    rw [show (⟨gw, 0, none⟩ : Addr).add j = ⟨gw, j, none⟩ from by unfold Addr.add; split <;> simp_all] at this
    exact this
   have s17 : w12.cell? ⟨IC, 0, none⟩ = some (.int .i64 ((j : Nat) : Int)) := h12i.cell 0
   have s16 : w12.cell? ⟨w9.heap.size, 0, none⟩ = some (.pointer (some ⟨C, 0, none⟩)) := h12x.cell 0
   have s15 : w12.cell? ⟨w8.heap.size + 1, 0, none⟩ = some (.map (some w8.heap.size)) := h12g.cell 0
   have s11 := Old.cellOf' h12o k11
   have sy := Old.cellOf' h12o ky
   have HDP := Lib.hid hdp
   have K11 := Lib.hid k11
   have KY := Lib.hid ky
   have HOK2 := Lib.hid hKD
   clear hdp hL1 hne hU r11 r17 r15 r16 ry h12i h12x h12g h12o k11 ky hKD
   go_wp2
   have QQ := And.intro s15 (And.intro s11 (And.intro s17 sy))
   go_region_held3 (fun x => x.cell? ⟨w8.heap.size + 1, 0, none⟩ = some (.map (some w8.heap.size)) ∧ x.cell? ⟨OB, 0, none⟩ = some (.slice (some ⟨gw, 0, none⟩) L.length vc) ∧ x.cell? ⟨IC, 0, none⟩ = some (.int .i64 ((j : Nat) : Int)) ∧ x.cell? ⟨gw, j, none⟩ = some (.int .i64 ((y : Nat) : Int))) (first | (with_reducible exact QQ) | go_keep) (fail)
   clear QQ
   go_wp2
   go_region_held3 (fun x => x.cell? ⟨w9.heap.size, 0, none⟩ = some (.pointer (some ⟨C, 0, none⟩)) ∧ x.cell? ⟨OB, 0, none⟩ = some (.slice (some ⟨gw, 0, none⟩) L.length vc) ∧ x.cell? ⟨IC, 0, none⟩ = some (.int .i64 ((j : Nat) : Int)) ∧ x.cell? ⟨gw, j, none⟩ = some (.int .i64 ((y : Nat) : Int))) (first | (with_reducible exact QQ) | go_keep)
    (first | (go_at_call 31; (with_reducible refine (HDP.out _ ?_).mono ?_); (first | exact Upd.refl _ _ | exact (Upd.refl _ _).drew); rintro e w13 ⟨⟨kk, rfl⟩, h13⟩; have H13 := Lib.hid h13; have t16 : w13.cell? ⟨w9.heap.size, 0, none⟩ = some (.pointer (some ⟨C, 0, none⟩)) := h13.xc.cell 0; have t17 : w13.cell? ⟨IC, 0, none⟩ = some (.int .i64 ((j : Nat) : Int)) := h13.ic.cell 0; have QQ := And.intro t16 (And.intro (Old.cellOf' h13.u K11.out) (And.intro t17 (Old.cellOf' h13.u KY.out))); clear h13))
   clear QQ
   go_wp2
   have hst := H13.out.step (j + 1)
   rw [show ((j + 1 : Nat) : Int) = (j : Int) + 1 by omega] at hst
   refine ⟨⟨j + 1, w13.heap.size, D1 :: ds, hjl, hst, pmA_of (by kernel_rfl)⟩, ?_⟩
   rw [cellI_of (IC := w13.heap.size) (iv := j + 1) rfl hst.ic, cellI_of (IC := IC) (iv := j) rfl HLp.out.ic]
   omega
  case stop =>
   rintro D1 c V1 _ h _
   exact h.elim
 ·obtain rfl : j = L.length := by omega
  obtain ⟨colp, s', st', M', xp, eE8, eX, eS, eB, eO, eC⟩ := HA8.out.p
  have eE := eE8.old HLp.out.u
  have HN8 := Lib.hid eE8.new
  have hw8 : w.heap.size + 1 < w8.heap.size := HA8.out.k.h6.lt
  obtain ⟨colq, xq, fE, fX⟩ := HAp.out.q
  obtain ⟨hag, hnil⟩ := ord_again eX eS hn10
  rw [hLL] at eS eB
  obtain ⟨Dg, dg1, dg2⟩ := HLp.out.g
  rw [List.take_length] at dg2
  have hmem : ∀ i, i ∈ L → i < n ∧ st i = 2 := fun i hi => (ordO_len n st M x).2 i (by rw [hLL]; exact hi)
  have HE := Lib.hid eE
  have HF := Lib.hid fE
  have HG1 := Lib.hid dg1
  have HG2 := Lib.hid dg2
  have HB := Lib.hid eB
  have HS := Lib.hid eS
  have HEO := Lib.hid eO
  have HEC := Lib.hid eC
  have HAG := Lib.hid hag
  have HNIL := Lib.hid hnil
  have HME := Lib.hid hmem
  have hcc : Hid (∀ W, Old wb W → W.cell? ⟨PP, 0, none⟩ = some (.int .i64 ((n : Nat) : Int)) ∧ W.cell? ⟨PP, 7, none⟩ = some (.pointer (some ⟨D, 0, none⟩)) ∧ W.cell? ⟨PP, 8, none⟩ = some (.pointer (some ⟨B, 0, none⟩)) ∧ W.cell? ⟨PP, 9, none⟩ = some (.pointer (some ⟨X, 0, none⟩)) ∧ W.cell? ⟨PP', 8, none⟩ = some (.pointer (some ⟨B', 0, none⟩)) ∧ W.cell? ⟨w8.heap.size + 1, 0, none⟩ = some (.map (some w8.heap.size))) := fun W U => by
   obtain ⟨a1, a2, a3, a4, -⟩ := (HE.out.old U).cells hP
   exact ⟨a1, a2, a3, a4, ((HF.out.old U).cells hPq).2.2.1, Old.cellOf' U q15⟩
  clear eE eE8 eX eS eB eO eC fE fX hag hnil dg1 dg2 hmem HY HA8 HOK
  go_wp2
  go_loopw [21, 22, 23, 24, 25, 26, 27] (fun i _ _ _ _ _ _ W => ∃ k : Nat, k ≤ n ∧ i = .int .i64 k ∧ Old wb W) (fun i _ _ _ _ _ _ _ => n - (intOf i).toNat)
  case atStart => exact ⟨0, Nat.zero_le _, rfl, Upd.refl _ _⟩
  case round =>
   obtain ⟨k, hk, rfl, hU⟩ := hrel
   obtain ⟨z0, z7, z8, z9, z8', z15⟩ := hcc.out _ hU
   by_cases hkn : k < n
   ·have hsq := (HF.out.old hU).tab.state hkn
    have hsp := (HE.out.old hU).tab.state hkn
    have hlk := look_gone (HG1.out.upd hU (fun x => x)) HG2.out (show k ≤ 1000 by omega)
    have hbp := fun W (U : Old wb W) => (HE.out.old U).bytes hP hkn
    have hbq := fun W (U : Old wb W) => (HF.out.old U).bytes hPq hkn
    have hrd := (HE.out.old hU).idx.red hkn
    have g2 : (k : Int) < (n : Int) := by omega
    rw [HS.out k] at hsp
    rw [HB.out k hkn] at hbp
    by_cases hg : k ∈ L
    ·rw [if_pos hg] at hsp hbp
     rw [(HME.out k hg).2] at hsq
     rw [decide_eq_true hg] at hlk
     have HSQ := Lib.hid hsq
     have HSP := Lib.hid hsp
     have HBP := Lib.hid hbp
     have HU := Lib.hid hU
     clear hsq hsp hbp hbq hrd hU
     go_wp2_with (first | (go_at_call 32; (with_reducible refine HSQ.out.mono ?_); rintro e w10 ⟨rfl, rfl⟩) | (go_at_call 32; (with_reducible refine HSP.out.mono ?_); rintro e w10 ⟨rfl, rfl⟩) | (go_at_call 33; (with_reducible refine (HBP.out _ HU.out).mono ?_); rintro e w11 ⟨⟨a7, n7, c7', rfl, hb7⟩, hO⟩; obtain rfl := bytes_none hb7; have H11 := Lib.hid hO; clear hO hb7))
     go_roundw
     case rel => exact ⟨k + 1, by omega, by go_num, HU.out.trans H11.out⟩
     case measure => simp [intOf]; omega
    ·rw [if_neg hg] at hsp hbp
     rw [decide_eq_false hg] at hlk
     have h2c : (st k = 2 ∧ redM M' xp.es k = false) ∨ st k ≠ 2 := by
      by_cases h2 : st k = 2
      ·exact .inl ⟨h2, HAG.out k hkn (by rw [HS.out k, if_neg hg, h2])⟩
      ·exact .inr h2
     have h3 := HF.out.tab.few.2.2.2.1 k hkn
     have HSQ := Lib.hid hsq
     have HSP := Lib.hid hsp
     have HBP := Lib.hid hbp
     have HBQ := Lib.hid hbq
     have HRD := Lib.hid hrd
     have HU := Lib.hid hU
     clear hsq hsp hbp hbq hrd hU
     generalize redM M' xp.es k = rv at *
     generalize (s.img k).bs = bs at *
     generalize st k = sk at *
     have g3 : ((sk : Int) != (sk : Int)) = false := by simp
     go_wp2_with (first | (go_at_call 32; (with_reducible refine HSQ.out.mono ?_); rintro e w10 ⟨rfl, rfl⟩) | (go_at_call 32; (with_reducible refine HSP.out.mono ?_); rintro e w10 ⟨rfl, rfl⟩) | (go_at_call 30; (with_reducible refine HRD.out.mono ?_); rintro e w11 ⟨rfl, hO⟩; have H11 := Lib.hid hO; clear hO))
     rw [← roA_eq, ← roB_eq, ← roC_eq]
     have hroA := roA_eq
     have hroB := roB_eq
     have hroC := roC_eq
     have hQ : True := trivial
     clear h3
     rcases h2c with ⟨rfl, rfl⟩ | h2
     case' inr =>
      have g6 : ¬ (sk : Int) = 2 := by omega
      have g5 : ((sk : Int) == 2) = false := by rw [beq_eq_false_iff_ne]; omega
     all_goals
      go_region_held3 (fun _ => True) (exact trivial)
       (first | (go_at_call 33; (with_reducible refine (HBP.out _ ?_).mono ?_); (first | exact HU.out.trans H11.out | exact (HU.out.trans H11.out).drew); rintro e w12 ⟨⟨a7, n7, c7', rfl, hb7⟩, hO⟩; have hcv7 := conv_at hb7; have HB7 := Lib.hid hb7; have H12 : Hid (Old wb w12) := (by first | exact (HU.out.trans H11.out).trans hO | exact (HU.out.trans H11.out).drew.trans hO); clear hO hb7) | (go_at_call 33; (with_reducible refine (HBQ.out _ ?_).mono ?_); (first | exact H12.out | exact H12.out.drew); rintro e w13 ⟨⟨a8, n8, c8', rfl, hb8⟩, hO⟩; have hcv8 := conv_at hb8; have hcv9 := conv_at (HB7.out.old hO); have H13 : Hid (Old wb w13) := (by first | exact H12.out.trans hO | exact H12.out.drew.trans hO); clear hO hb8))
      simp only [Exit.then]
      refine Lib.hid ?_
      go_wp2
      go_roundw
     all_goals first
      | exact ⟨⟨k + 1, by omega, by simp, H13.out⟩, by simp [intOf]; omega⟩
      | exact ⟨k + 1, by omega, by simp, H13.out⟩
      | exact ⟨k + 1, by omega, by go_num, H13.out⟩
      | (simp [intOf]; omega)
      | (simp only [intOf]; omega)
   ·obtain rfl : n = k := by omega
    have HOP := Lib.hid ((HE.out.old hU).ops)
    have HRN := Lib.hid (fun W (U : Old wb W) => (HE.out.old U).prun HEO.out (by rw [HNIL.out]; simp))
    have HKW := Lib.hid (HAp.out.k.old hU)
    have HLW := Lib.hid (HLp.out.old hU)
    have HU := Lib.hid hU
    have g2 : ¬ (n : Int) < (n : Int) := by omega
    have g3 : (s'.ops == s'.ops) = true := by simp
    clear hU
    go_wp2_with (first | (go_at_call 34; (with_reducible refine HOP.out.mono ?_); rintro e w10 ⟨rfl, rfl⟩))
    go_region_held3 (fun x => x.cell? ⟨PP, 7, none⟩ = some (.pointer (some ⟨D, 0, none⟩)) ∧ x.cell? ⟨PP, 8, none⟩ = some (.pointer (some ⟨B, 0, none⟩)) ∧ x.cell? ⟨PP, 9, none⟩ = some (.pointer (some ⟨X, 0, none⟩))) (first | (with_reducible exact QQ) | go_keep)
     (first | (go_at_call 25; (with_reducible refine (HRN.out _ ?_).mono ?_); (first | exact HU.out | exact HU.out.drew); rintro e w14 ⟨rfl, hS⟩; rw [HNIL.out] at hS; have H14 := Lib.hid (RuS.base hS (Upd.drew (Upd.refl (fun _ => False) _))); have QQ := pm_cells hS hP; clear hS))
    obtain ⟨⟨col2, s2, st2, M2, x2, e1, -, -, -, -, -, e7⟩, eU⟩ := H14.out
    have hs2 : s2 = s' := e7 rfl
    subst hs2
    have HOP2 := Lib.hid e1.ops
    have z7 := (e1.cells hP).2.1
    have HK14 := Lib.hid (pm_fin HKW.out (fun D hD => HLW.out.dm D hD) HLW.out.nd eU HEC.out HN8.out hw8)
    have hnl : ((ordO n st' M' xp).length : Int) = 0 := by rw [HNIL.out]; rfl
    rw [hnl]
    clear e1 eU e7 H14 hnl
    simp only [Exit.then]
    refine Lib.hid ?_
    go_wp2_with (first | (go_at_call 34; (with_reducible refine HOP2.out.mono ?_); rintro e w15 ⟨rfl, rfl⟩) | (go_at_call 20; (with_reducible refine (HWK.out _ HK14.out.u).mono ?_); rintro eW wW ⟨rfl, hKw⟩; have d6 := hKw.has HK14.out.h6; have c6 : wW.cell? ⟨w.heap.size + 1, 0, none⟩ = some (.bool false) := d6.cell 0; have f6 := d6.frozen 0; have l6 := d6.lt; have HKW2 := Lib.hid hKw; clear hKw d6))
    exact pm_leave HK14.out HKW2.out rfl
end Go.M
