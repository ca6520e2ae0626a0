/- Walks 46. -/
import Derived.Test.YtjadmbkmlehfdaaGreatDoorProg
import Derived.Test.YtjadmbkmlehfdaaGreatDoorK26
import Derived.Test.YtjadmbkmlehfdaaGreatDoorK34
import Derived.Test.YtjadmbkmlehfdaaGreatDoorK45
import Derived.Deep.RegionHeld3
import Derived.Test.YtjadmbkmlehfdaaGreatDoorK22
set_option linter.unusedVariables false
set_option linter.unusedSimpArgs false
set_option maxRecDepth 100000
namespace Go.M
open Go.Proofs Go.RowKit Go.Shelf
attribute [local go_sem] Oper.semAt_some
theorem CxW.old {p : CxP} {W W' : World} (h : CxW p W) (U : Old W W') : CxW p W' :=
 ⟨Old.cellOf' U h.pd, Old.cellOf' U h.bd, Old.cellOf' U h.bk, Old.cellOf' U h.k0, fun i hi => Old.cellOf' U (h.s0 i hi), fun i hi => by obtain ⟨t, len, dur, hm, r⟩ := h.m i hi; exact ⟨t, len, dur, U.has hm, r⟩, Old.cellOf' U h.kp⟩
theorem setCell_far {W : World} {b i c j : Nat} {v u : Value} (h : b ≠ c) (hc : W.cell? ⟨b, i, none⟩ = some u) : (W.setCell ⟨c, j, none⟩ v).cell? ⟨b, i, none⟩ = some u := by
 rw [World.cell?_setCell_far _ _ _ _ (by simpa using Ne.symm h)]; exact hc
theorem CxW.crash {p : CxP} {W : World} (h : CxW p W) (hne : ∀ i, i < p.n + 2 → p.M i ≠ p.PD ∧ p.M i ≠ p.BD ∧ p.M i ≠ p.BK ∧ p.M i ≠ p.K ∧ p.M i ≠ p.S ∧ p.M i ≠ p.kb) (hin : ∀ i j, i < p.n + 2 → j < p.n + 2 → p.M i = p.M j → i = j) {i len dur k : Nat} {t : TypeId} (hi : i < p.n + 2)
 (hm : Has W (p.M i) t #[.slice (p.A i) len (p.C i), .int .i64 ((p.Z i : Nat) : Int), .int .i64 ((dur : Nat) : Int)]) (q0 : p.E i ≤ k) (q1 : k ≤ p.L i) (q2 : k ≤ p.C i) (q3 : k ≤ p.Z i) (q4 : 1 ≤ p.Z i) (q5 : p.Z i ≤ 8192) (q6 : (p.A i = none ∧ k = 0 ∧ p.C i = 0) ∨ ∃ g, p.A i = some ⟨g, 0, none⟩) :
 CxW p (((W.setCell ⟨p.M i, 0, none⟩ (.slice (p.A i) k (p.C i))).setCell ⟨p.M i, 2, none⟩ (.int .i64 ((k : Nat) : Int))).drew) := by
 obtain ⟨n1, n5, n6, n2, n3, n4⟩ := hne i hi
 refine ⟨setCell_far (Ne.symm n1) (setCell_far (Ne.symm n1) h.pd), setCell_far (Ne.symm n5) (setCell_far (Ne.symm n5) h.bd), setCell_far (Ne.symm n6) (setCell_far (Ne.symm n6) h.bk), setCell_far (Ne.symm n2) (setCell_far (Ne.symm n2) h.k0), fun j hj => setCell_far (Ne.symm n3) (setCell_far (Ne.symm n3) (h.s0 j hj)), fun j hj => ?_, setCell_far (Ne.symm n4) (setCell_far (Ne.symm n4) h.kp)⟩
 by_cases hj2 : p.M j = p.M i
 ·obtain rfl := hin j i hj hi hj2
  have := ((hm.set 0 (.slice (p.A j) k (p.C j))).set 2 (.int .i64 ((k : Nat) : Int))).drew
  exact ⟨t, k, k, this, q0, Nat.le_refl _, q1, q2, q3, q4, q5, q6⟩
 ·obtain ⟨t', len', dur', hm', r⟩ := h.m j hj
  exact ⟨t', len', dur', ((hm'.setOther (Ne.symm hj2) _).setOther (Ne.symm hj2) _).drew, r⟩
theorem upd2 {F : Nat → Prop} {w W : World} (h : Upd F w W) {m : Nat} (hm : F m) (v v' : Value) : Upd F w (((W.drew.setCell ⟨m, 0, none⟩ v).setCell ⟨m, 2, none⟩ v').drew) := ((h.drew.setCell _ _ (.inl hm)).setCell _ _ (.inl hm)).drew
def CxK (p : CxP) (A B : World) : Prop := CxW p A → CxW p B
theorem used_stopsx {p : CxP} (nf : Nat) (hnf : 1 ≤ nf) (hn : p.n ≤ 32) {w : World} (hC : CxW p w) :
 SeqStopsK Fence.wide nf Tryz.prog 256 #[.pointer (some ⟨p.PD, 0, none⟩)] (fun i : {i : Nat // i < p.n + 2} => #[.int .i64 ((i.1 : Nat) : Int)]) (CxK p) (fun _ => True) (fun _ => True) (p.n + 2) w := fun l J Jx W hW hJ hJx hY h0 =>
 callsIn_wide.2 (used_iterx nf hnf l p hn J Jx hY W hJ (hC.old (old_of_below hW)) h0)
theorem KeepsFrom.of_upd {F : Nat → Prop} {B : Nat} {W W' : World} (h : Upd F W W') (hF : ∀ b, F b → b < B) : KeepsFrom B W W' :=
 ⟨h.size, fun k o hB ho _ => (h.keep k (Array.getElem?_eq_some_iff.1 ho).1 (fun hf => by have := hF k hf; omega)).trans ho⟩
theorem smin1x {w : World} {kb kc : Nat} {x : Nat} (c : w.cell? ⟨kb, 0, none⟩ = some (.int .i64 ((x : Nat) : Int))) :
 Calls Tryz.prog 203 #[.slice (some ⟨kb, 0, none⟩) 1 kc] w fun e w' => e = .returned (.int .i64 ((x : Nat) : Int)) ∧ w = w' := by
 go_enter Tryz.func203, Tryz.ntmps203
 go_wp2
 go_loopw [3, 4] (fun m i wr => m = .int .i64 ((x : Nat) : Int) ∧ i = .int .i64 1 ∧ w = wr) (fun _ _ _ => 0)
 case atStart => exact ⟨rfl, rfl, rfl⟩
 case round =>
  obtain ⟨rfl, rfl, rfl⟩ := hrel
  go_wp2
  go_ret
  exact ⟨rfl, rfl⟩
set_option maxHeartbeats 1600000 in
theorem dcrashx {w : World} {K S cap kb kc n x : Nat} {M : Nat → Nat} {A : Nat → Option Addr} {C L E Z : Nat → Nat} (hn : n ≤ 32) (hx : x ≤ 8192) (k0 : w.cell? ⟨K, 0, none⟩ = some (.slice (some ⟨S, 0, none⟩) (n + 2) cap)) (s0 : ∀ i, i < n + 2 → w.cell? ⟨S, i, none⟩ = some (.pointer (some ⟨M i, 0, none⟩)))
 (hm : ∀ i, i < n + 2 → ImgX w (M i) (A i) (C i) (L i) (E i) (Z i)) (kp : w.cell? ⟨kb, 0, none⟩ = some (.int .i64 ((x : Nat) : Int))) (hne : ∀ i, i < n + 2 → M i ≠ K ∧ M i ≠ S ∧ M i ≠ kb) (hin : ∀ i j, i < n + 2 → j < n + 2 → M i = M j → i = j) :
 Calls Tryz.prog 121 #[.pointer (some ⟨K, 0, none⟩), .slice (some ⟨kb, 0, none⟩) 1 kc] w fun e w' => e = .returned (.int .i64 0) ∧ Upd (fun b => ∃ i, i < n + 2 ∧ b = M i) w w' ∧ ∀ i, i < n + 2 → ImgX w' (M i) (A i) (C i) (L i) (E i) (Z i) := by
 refine (callsIn_wide (n := 8)).1 ?_
 refine callsIn_of_wp_marks Tryz.func121 rfl trivial ?_ rfl
 simp only [Tryz.ntmps121, List.size_toArray, List.length_cons, List.length_nil, Nat.reduceAdd, Nat.reduceSub, Array.replicate_succ, Array.replicate_zero, List.push_toArray, List.append_toArray, List.nil_append, List.cons_append]
 refine wpIn_wide.2 ?_
 have hMl : ∀ i, i < n + 2 → M i < w.heap.size := fun i hi => by obtain ⟨t, len, dur, h, _⟩ := hm i hi; exact h.lt
 have g1 : (0 : Int) < (n : Int) + 2 := by omega
 have g2 : ¬ ((x : Int) < 0) := by omega
 have gd : decide ((x : Int) < 0) = false := by simp
 have HM := Lib.hid hMl
 have HN := Lib.hid hne
 have HI := Lib.hid hm
 have HS := Lib.hid s0
 have hKl : K < w.heap.size := World.block_lt_of_cell? w _ k0
 have hkl : kb < w.heap.size := World.block_lt_of_cell? w _ kp
 have kK : ∀ k, K < w.heap.size + k := fun k => by omega
 have kB : ∀ k, kb < w.heap.size + k := fun k => by omega
 clear hMl hne hm s0
 go_wp2_with (first | (go_at_call 203; refine (smin1x (x := x) (by go_simp)).mono ?_; rintro e w1 ⟨rfl, rfl⟩) | go_in)
 obtain ⟨W0, hW0⟩ : ∃ W0, (((w.alloc (.cells #[.pointer (some ⟨K, 0, none⟩)] 99)).alloc (.cells #[.slice (some ⟨kb, 0, none⟩) 1 kc] 48)).alloc (.cells #[.pointer (some ⟨K, 0, none⟩)] 99)) = W0 := ⟨_, rfl⟩
 have U0 : Old w W0 := by rw [← hW0]; exact (((Upd.refl _ w).alloc _).alloc _).alloc _
 have z0 : W0.heap.size = w.heap.size + 3 := by rw [← hW0]; simp
 have p0 : W0.cell? ⟨w.heap.size, 0, none⟩ = some (.pointer (some ⟨K, 0, none⟩)) := by subst hW0; go_simp
 have p1 : W0.cell? ⟨w.heap.size + 1, 0, none⟩ = some (.slice (some ⟨kb, 0, none⟩) 1 kc) := by subst hW0; go_simp
 have p2 : W0.cell? ⟨w.heap.size + 1 + 1, 0, none⟩ = some (.pointer (some ⟨K, 0, none⟩)) := by subst hW0; go_simp
 rw [hW0]
 obtain ⟨p, hp⟩ : ∃ p : CxP, p = ⟨w.heap.size + 1 + 1, w.heap.size, w.heap.size + 1, K, S, cap, kb, kc, n, x, M, A, C, L, E, Z⟩ := ⟨_, rfl⟩
 have hC0 : CxW p W0 := by
  subst hp
  exact ⟨p2, p0, p1, Old.cellOf' U0 k0, fun i hi => Old.cellOf' U0 (HS.out i hi), fun i hi => by obtain ⟨t, len, dur, h, r⟩ := HI.out i hi; exact ⟨t, len, dur, U0.has h, r⟩, Old.cellOf' U0 kp⟩
 have HNE : Hid (∀ i, i < p.n + 2 → p.M i ≠ p.PD ∧ p.M i ≠ p.BD ∧ p.M i ≠ p.BK ∧ p.M i ≠ p.K ∧ p.M i ≠ p.S ∧ p.M i ≠ p.kb) := by
  subst hp
  intro i hi
  have a := HM.out i hi
  obtain ⟨b, c, d⟩ := HN.out i hi
  exact ⟨by simp only; omega, by simp only; omega, by simp only; omega, b, c, d⟩
 have HML : Hid (∀ i, i < p.n + 2 → p.M i < w.heap.size) := by subst hp; exact HM.out
 have hpn : p.n = n := by rw [hp]
 have hpx : p.x = x := by rw [hp]
 have hK0 : p.K = K := by rw [hp]
 have hkb : p.kb = kb := by rw [hp]
 have hkc : p.kc = kc := by rw [hp]
 have HIN : Hid (∀ i j, i < p.n + 2 → j < p.n + 2 → p.M i = p.M j → i = j) := by subst hp; exact hin
 have HEN : Hid (∀ W, CxW p W → ∀ i, i < n + 2 → ImgX W (M i) (A i) (C i) (L i) (E i) (Z i)) := by subst hp; exact fun W h => h.m
 have hBD : p.BD = w.heap.size := by rw [hp]
 have hBK : p.BK = w.heap.size + 1 := by rw [hp]
 have hPD : p.PD = w.heap.size + 1 + 1 := by rw [hp]
 have HFI : Hid (∀ b, (∃ i, i < p.n + 2 ∧ b = p.M i) → ∃ i, i < n + 2 ∧ b = M i) := by subst hp; exact fun b h => h
 clear hp HM HN HS HI hW0 p0 p1 p2
 refine (wpIn_wide (n := 8)).1 ?_
 refine wpIn_rangeFunc_ownH rfl (by omega) (Kp := CxK p) (gf := 256) (lb := #[.pointer (some ⟨w.heap.size + 1 + 1, 0, none⟩)]) rfl trivial (enters_of Tryz.func256 (by kernel_rfl) rfl)
  (by rw [← hPD]; exact used_stopsx (p := p) 7 (by omega) (by omega) hC0) (fun h k c => k (h c)) (fun W l o o' _ ho hc _ c => c.grown (grownBy_putObj' W l o') (fun r e => by cases e; exact ⟨o, ho, hc⟩)) (Below.refl _ _) (fun _ => rfl)
  (fun (pre : List {i : Nat // i < p.n + 2}) W => CxW p W ∧ Upd (fun b => ∃ i, i < p.n + 2 ∧ b = p.M i) w W)
  (fun _ _ _ => False)
  (fun s X Y row hs hg hr => ⟨hs.1.grown hg (fun r e => (hr r e).2), hs.2.grown hg (fun k e => .inr (by have := (hr k e).1; omega))⟩)
  (fun _ _ _ _ _ hs _ _ => hs)
  ⟨hC0, U0.mono (fun b _ h => h.elim)⟩
  (fun i a' W => a' = { tmps := ((.pointer (some ⟨K, 0, none⟩) :: .slice (some ⟨kb, 0, none⟩) 1 kc :: .pointer (some ⟨w.heap.size, 0, none⟩) :: .pointer (some ⟨w.heap.size + 1, 0, none⟩) :: .int .i64 0 :: .int .i64 ((i.1 : Nat) : Int) :: .bool false :: .pointer (some ⟨K, 0, none⟩) :: .bool true :: .bool false :: .bool false :: .slice (some ⟨kb, 0, none⟩) 1 kc :: .int .i64 1 :: .bool false :: .bool false :: .slice (some ⟨kb, 0, none⟩) 1 kc :: .int .i64 1 :: .bool false :: .bool false :: .bool false :: .slice (some ⟨kb, 0, none⟩) 1 kc :: .int .i64 ((x : Nat) : Int) :: .bool false :: .bool false :: .pointer (some ⟨K, 0, none⟩) :: .func (.func 256) #[] #[.pointer (some ⟨w.heap.size + 1 + 1, 0, none⟩)] :: .int .i64 ((i.1 : Nat) : Int) :: undef :: undef :: undef :: undef :: undef :: undef :: undef :: undef :: undef :: undef :: undef :: undef :: undef :: undef :: undef :: undef :: [] : List Value)).toArray, defers := [] })
  (fun _ _ _ _ _ _ hs _ _ => hs)
  ?assign ?body ?done ?stop
 case assign =>
  rintro l pre i W K' h hK'
  gi_wp2
  exact hK' _ _ (KeepsFrom.refl _ _) (fun c => c) h rfl
 case body =>
  rintro l pre i a' W hl ⟨r, hr⟩ ⟨hc, hU⟩ rfl hlt
  obtain ⟨iv, hi0⟩ := i
  obtain ⟨t, len, dur, hm, q0, q1, q7, q2, q3, q4, q5, q6⟩ := hc.m iv hi0
  have m0 := hm.cell 0
  have m1 := hm.cell 1
  have m2 := hm.cell 2
  have e1 : W.cell? ⟨w.heap.size, 0, none⟩ = some (.pointer (some ⟨K, 0, none⟩)) := by rw [← hBD, ← hK0]; exact hc.bd
  have e2 : W.cell? ⟨w.heap.size + 1, 0, none⟩ = some (.slice (some ⟨kb, 0, none⟩) 1 kc) := by rw [← hBK, ← hkb, ← hkc]; exact hc.bk
  have e3 := hc.k0
  have e4 := hc.s0 iv hi0
  have e5 := hc.kp
  rw [hK0, hpn] at e3
  rw [hkb, hpx] at e5
  have hi := hi0
  rw [hpn] at hi
  have w1 : ((iv : Nat) : Int).tmod 1 = 0 := Int.tmod_one _
  have w2 : ((iv : Nat) : Int) < (n : Int) + 2 := by omega
  have w3 : ¬ ((8192 : Int) < (x : Int)) := by omega
  have wif : (if (8192 : Int) < (x : Int) then (8192 : Int) else (x : Int)) = (x : Int) := if_neg w3
  have hne := HNE.out iv hi0
  have hml := HML.out iv hi0
  have hfi : ∃ i, i < p.n + 2 ∧ p.M iv = p.M i := ⟨iv, hi0, rfl⟩
  gi_wp2
  refine region_round (fun x' => x'.cell? ⟨w.heap.size, 0, none⟩ = some (.pointer (some ⟨K, 0, none⟩)) ∧ x'.cell? ⟨w.heap.size + 1, 0, none⟩ = some (.slice (some ⟨kb, 0, none⟩) 1 kc) ∧ x'.cell? ⟨K, 0, none⟩ = some (.slice (some ⟨p.S, 0, none⟩) (n + 2) p.cap) ∧ x'.cell? ⟨p.S, iv, none⟩ = some (.pointer (some ⟨p.M iv, 0, none⟩)) ∧ x'.cell? ⟨kb, 0, none⟩ = some (.int .i64 ((x : Nat) : Int))) (by kernel_rfl) (by kernel_rfl) (fun ⟨_, _, h⟩ => h) ?_
  have hS : W.drew.cell? ⟨w.heap.size, 0, none⟩ = some (.pointer (some ⟨K, 0, none⟩)) ∧ W.drew.cell? ⟨w.heap.size + 1, 0, none⟩ = some (.slice (some ⟨kb, 0, none⟩) 1 kc) ∧ W.drew.cell? ⟨K, 0, none⟩ = some (.slice (some ⟨p.S, 0, none⟩) (n + 2) p.cap) ∧ W.drew.cell? ⟨p.S, iv, none⟩ = some (.pointer (some ⟨p.M iv, 0, none⟩)) ∧ W.drew.cell? ⟨kb, 0, none⟩ = some (.int .i64 ((x : Nat) : Int)) := ⟨e1, e2, e3, e4, e5⟩
  refine wpAnyH_take (i := 0) (v := .pointer (some ⟨K, 0, none⟩)) rfl (by kernel_rfl) (by kernel_rfl) (by kernel_rfl) (fun _ _ _ h => h) (Or.inl ⟨by rfl, fun w' hS' => by obtain ⟨s1, s2, s3, s4, s5⟩ := hS'; go_simp⟩) hS ?_
  simp only [Act.put, List.setIfInBounds_toArray, List.set_cons_zero, List.set_cons_succ]
  refine wpAnyH_take (i := 1) (v := .pointer (some ⟨K, 0, none⟩)) rfl (by kernel_rfl) (by kernel_rfl) (by kernel_rfl) (fun _ _ _ h => h) (Or.inl ⟨by rfl, fun w' hS' => by obtain ⟨s1, s2, s3, s4, s5⟩ := hS'; go_simp⟩) hS ?_
  simp only [Act.put, List.setIfInBounds_toArray, List.set_cons_zero, List.set_cons_succ]
  refine wpAnyH_take (i := 2) (v := .pointer (some ⟨K, 0, none⟩)) rfl (by kernel_rfl) (by kernel_rfl) (by kernel_rfl) (fun _ _ _ h => h) (Or.inl ⟨by rfl, fun w' hS' => by obtain ⟨s1, s2, s3, s4, s5⟩ := hS'; go_simp⟩) hS ?_
  simp only [Act.put, List.setIfInBounds_toArray, List.set_cons_zero, List.set_cons_succ]
  refine wpAnyH_take (i := 3) (v := .slice (some ⟨p.S, 0, none⟩) (n + 2) p.cap) rfl (by kernel_rfl) (by kernel_rfl) (by kernel_rfl) (fun _ _ _ h => h) (Or.inl ⟨by rfl, fun w' hS' => by obtain ⟨s1, s2, s3, s4, s5⟩ := hS'; go_simp⟩) hS ?_
  simp only [Act.put, List.setIfInBounds_toArray, List.set_cons_zero, List.set_cons_succ]
  refine wpAnyH_take (i := 4) (v := .int .i64 ((iv : Nat) : Int)) rfl (by kernel_rfl) (by kernel_rfl) (by kernel_rfl) (fun _ _ _ h => h) (Or.inl ⟨by rfl, fun w' hS' => by obtain ⟨s1, s2, s3, s4, s5⟩ := hS'; go_simp⟩) hS ?_
  simp only [Act.put, List.setIfInBounds_toArray, List.set_cons_zero, List.set_cons_succ]
  refine wpAnyH_take (i := 5) (v := .pointer (some ⟨p.S, iv, none⟩)) rfl (by kernel_rfl) (by kernel_rfl) (by kernel_rfl) (fun _ _ _ h => h) (Or.inl ⟨by rfl, fun w' hS' => by obtain ⟨s1, s2, s3, s4, s5⟩ := hS'; go_simp⟩) hS ?_
  simp only [Act.put, List.setIfInBounds_toArray, List.set_cons_zero, List.set_cons_succ]
  refine wpAnyH_take (i := 6) (v := .pointer (some ⟨p.M iv, 0, none⟩)) rfl (by kernel_rfl) (by kernel_rfl) (by kernel_rfl) (fun _ _ _ h => h) (Or.inl ⟨by rfl, fun w' hS' => by obtain ⟨s1, s2, s3, s4, s5⟩ := hS'; go_simp⟩) hS ?_
  simp only [Act.put, List.setIfInBounds_toArray, List.set_cons_zero, List.set_cons_succ]
  refine wpAnyH_take (i := 7) (v := .slice (some ⟨kb, 0, none⟩) 1 kc) rfl (by kernel_rfl) (by kernel_rfl) (by kernel_rfl) (fun _ _ _ h => h) (Or.inl ⟨by rfl, fun w' hS' => by obtain ⟨s1, s2, s3, s4, s5⟩ := hS'; go_simp⟩) hS ?_
  simp only [Act.put, List.setIfInBounds_toArray, List.set_cons_zero, List.set_cons_succ]
  refine wpAnyH_take (i := 8) (v := .int .i64 ((iv : Nat) : Int)) rfl (by kernel_rfl) (by kernel_rfl) (by kernel_rfl) (fun _ _ _ h => h) (Or.inl ⟨by rfl, fun w' hS' => by obtain ⟨s1, s2, s3, s4, s5⟩ := hS'; go_simp⟩) hS ?_
  simp only [Act.put, List.setIfInBounds_toArray, List.set_cons_zero, List.set_cons_succ]
  refine wpAnyH_take (i := 9) (v := .slice (some ⟨kb, 0, none⟩) 1 kc) rfl (by kernel_rfl) (by kernel_rfl) (by kernel_rfl) (fun _ _ _ h => h) (Or.inl ⟨by rfl, fun w' hS' => by obtain ⟨s1, s2, s3, s4, s5⟩ := hS'; go_simp⟩) hS ?_
  simp only [Act.put, List.setIfInBounds_toArray, List.set_cons_zero, List.set_cons_succ]
  refine wpAnyH_take (i := 10) (v := .int .i64 1) rfl (by kernel_rfl) (by kernel_rfl) (by kernel_rfl) (fun _ _ _ h => h) (Or.inl ⟨by rfl, fun w' hS' => by obtain ⟨s1, s2, s3, s4, s5⟩ := hS'; go_simp⟩) hS ?_
  simp only [Act.put, List.setIfInBounds_toArray, List.set_cons_zero, List.set_cons_succ]
  refine wpAnyH_take (i := 11) (v := .int .i64 0) rfl (by kernel_rfl) (by kernel_rfl) (by kernel_rfl) (fun _ _ _ h => h) (Or.inl ⟨by rfl, fun w' hS' => by obtain ⟨s1, s2, s3, s4, s5⟩ := hS'; go_simp⟩) hS ?_
  simp only [Act.put, List.setIfInBounds_toArray, List.set_cons_zero, List.set_cons_succ]
  refine wpAnyH_take (i := 12) (v := .pointer (some ⟨kb, 0, none⟩)) rfl (by kernel_rfl) (by kernel_rfl) (by kernel_rfl) (fun _ _ _ h => h) (Or.inl ⟨by rfl, fun w' hS' => by obtain ⟨s1, s2, s3, s4, s5⟩ := hS'; go_simp⟩) hS ?_
  simp only [Act.put, List.setIfInBounds_toArray, List.set_cons_zero, List.set_cons_succ]
  refine wpAnyH_take (i := 13) (v := .int .i64 ((x : Nat) : Int)) rfl (by kernel_rfl) (by kernel_rfl) (by kernel_rfl) (fun _ _ _ h => h) (Or.inl ⟨by rfl, fun w' hS' => by obtain ⟨s1, s2, s3, s4, s5⟩ := hS'; go_simp⟩) hS ?_
  simp only [Act.put, List.setIfInBounds_toArray, List.set_cons_zero, List.set_cons_succ]
  refine wpAnyH_take (i := 14) (v := .int .i64 ((x : Nat) : Int)) rfl (by kernel_rfl) (by kernel_rfl) (by kernel_rfl) (fun _ _ _ h => h) (Or.inl ⟨by rfl, fun w' hS' => by obtain ⟨s1, s2, s3, s4, s5⟩ := hS'; go_simp⟩) hS ?_
  simp only [Act.put, List.setIfInBounds_toArray, List.set_cons_zero, List.set_cons_succ]
  have hne := HNE.out iv hi0
  have hml := HML.out iv hi0
  have hfi : ∃ i, i < p.n + 2 ∧ p.M iv = p.M i := ⟨iv, hi0, rfl⟩
  have hcW := hc.old ((Upd.refl _ W).drew)
  refine wpAnyH_ready (rs := [15]) (by kernel_rfl) (by simp) ?_
  refine AllReadyH.cons rfl (fun K' hK => ?_) AllReadyH.nil
  go_simp
  rcases q6 with ⟨hA, rfl, hC⟩ | ⟨g, hA⟩
  ·obtain rfl : dur = 0 := by omega
   have m0' := m0
   rw [List.getElem?_toArray] at m0'
   simp only [List.getElem?_cons_zero, hA, hC] at m0'
   refine (icrash0 (w := W.drew) m0' m1 m2 hm.drew.frozen (by omega) hx).mono ?_
   rintro e w1 ⟨rfl, rfl⟩
   have hS2 := hcW.crash (k := 0) HNE.out HIN.out hi0 hm.drew (by omega) (Nat.zero_le _) (by omega) (Nat.zero_le _) q4 q5 (.inl ⟨hA, rfl, hC⟩)
   rw [hA, hC] at hS2
   refine hK.out _ _ ⟨by rw [← hBD, ← hK0]; exact hS2.bd, by rw [← hBK, ← hkb, ← hkc]; exact hS2.bk, by rw [← hK0, ← hpn]; exact hS2.k0, hS2.s0 iv hi0, by rw [← hkb, ← hpx]; exact hS2.kp⟩ (fun _ => wpAnyH_done (by kernel_rfl) ?_ _)
   exact ⟨KeepsFrom.of_upd (F := fun b => b = p.M iv) (upd2 (F := fun b => b = p.M iv) (m := p.M iv) (Upd.refl _ W) rfl _ _) (fun b hb => by omega), fun c => hS2, hS2, upd2 hU hfi _ _⟩
  ·have m0' := m0
   rw [List.getElem?_toArray] at m0'
   simp only [List.getElem?_cons_zero, hA] at m0'
   refine (icrash (w := W.drew) m0' m1 m2 hm.drew.frozen (by omega) q1 q2 (by omega) hx).mono ?_
   rintro e w1 ⟨rfl, k, hk1, hk2, rfl⟩
   have hS2 := hcW.crash (k := k) HNE.out HIN.out hi0 hm.drew (by omega) (by omega) (by omega) (by omega) q4 q5 (.inr ⟨g, hA⟩)
   rw [hA] at hS2
   refine hK.out _ _ ⟨by rw [← hBD, ← hK0]; exact hS2.bd, by rw [← hBK, ← hkb, ← hkc]; exact hS2.bk, by rw [← hK0, ← hpn]; exact hS2.k0, hS2.s0 iv hi0, by rw [← hkb, ← hpx]; exact hS2.kp⟩ (fun _ => wpAnyH_done (by kernel_rfl) ?_ _)
   exact ⟨KeepsFrom.of_upd (F := fun b => b = p.M iv) (upd2 (F := fun b => b = p.M iv) (m := p.M iv) (Upd.refl _ W) rfl _ _) (fun b hb => by omega), fun c => hS2, hS2, upd2 hU hfi _ _⟩
 case done =>
  rintro D ys W hD - ⟨hc, hU⟩ hKD
  go_wp2
  refine ⟨by simp, .inl ⟨_, _, rfl, run_takeDeferred hKD, ?_⟩⟩
  exact ⟨_, results_tmp rfl _ _ _, rfl, (hU.grown (grownBy_putObj' W D _) (fun k e => by cases e; exact .inr (by omega))).mono (fun b _ h => HFI.out b h), HEN.out _ (hc.grown (grownBy_putObj' W D _) (fun r e => by cases e; exact ⟨_, hKD, rfl⟩))⟩
 case stop =>
  rintro D c pre W _ _ h _
  exact h.elim
end Go.M
namespace Go.M
open Go.Proofs Go.RowKit
set_option linter.unusedSimpArgs false
theorem one_far {w : World} {g x b i : Nat} {v : Value} (h : One w g x) (hn : g ≠ b) : One (w.setCell ⟨b, i, none⟩ v) g x := by
 unfold One at *
 rw [World.cell?_setCell_far _ _ _ _ (by simpa using Ne.symm hn)]
 exact h
structure PlT (w : World) (D K S T Mi PL kb kc a x : Nat) (dn : Bool) : Prop where
 pl : Has w PL 50 #[.int .i64 ((a : Nat) : Int), .bool dn, .slice (some ⟨kb, 0, none⟩) 1 kc]
 kp : One w kb x
 nD : PL ≠ D
 nK : PL ≠ K
 nS : PL ≠ S
 nT : PL ≠ T
 nM : PL ≠ Mi
set_option maxHeartbeats 1000000 in
theorem sync_go {w : World} {D K S T Mi PL kb kc a x : Nat} {n i len sz dur cap : Nat} {ops : Int} {va : Option Addr} {vc : Nat} {dn : Bool} (h : DcT w D K S T Mi n i len sz dur cap ops false va vc (.pointer (some ⟨PL, 0, none⟩))) (p : PlT w D K S T Mi PL kb kc a x dn) (o0 : 0 ≤ ops) (o1 : ops ≤ 1000000000) (ha : a ≤ 1000000) (ha2 : 2 ≤ a) :
 Calls Tryz.prog 108 #[.pointer (some ⟨D, 0, none⟩), .int .i64 ((i : Nat) : Int)] w fun e w' => e = .returned (.int .i64 0) ∧ Old (((w.setCell ⟨D, 3, none⟩ (.int .i64 (ops + 1))).setCell ⟨PL, 0, none⟩ (.int .i64 ((a : Int) - 1))).setCell ⟨Mi, 2, none⟩ (.int .i64 ((len : Nat) : Int))) w' := by
 have HP := Lib.hid (fun (W : World) (U : Old w W) => plan_some (Old.cellOf' U h.t1) (U.has p.pl) (show One W kb x from Old.cellOf' U p.kp))
 have HD := Lib.hid h
 have HPL := Lib.hid p.pl
 obtain ⟨-, -, nD, nK, nS, nT, nM⟩ := p
 obtain ⟨d0, d1, d2, d3, d4, k0, t0, t1, s0, m0, m1, m2, fD, fM, hD, hK, hS, hT, hM, b0, p0, p1, p2, p3, p4, p5, p6, p7, DK, DS, DT, DM, KM, SM, TM⟩ := h
 have nD' := Ne.symm nD
 have nK' := Ne.symm nK
 have nS' := Ne.symm nS
 have nT' := Ne.symm nT
 have nM' := Ne.symm nM
 have g1 : (0 : Int) < (a : Int) - 1 := by omega
 go_enter Tryz.func108, Tryz.ntmps108
 have kD : ∀ k, D < w.heap.size + k := fun k => by omega
 have kK : ∀ k, K < w.heap.size + k := fun k => by omega
 have kS : ∀ k, S < w.heap.size + k := fun k => by omega
 have kT : ∀ k, T < w.heap.size + k := fun k => by omega
 have kM : ∀ k, Mi < w.heap.size + k := fun k => by omega
 go_wp2_with (first | (go_at_call 194; refine (HP.out _ ?_).mono ?_; (exact (((Upd.refl _ _).alloc _).alloc _)); rintro e w1 ⟨g, gc, rfl, -, -, -, hU⟩; have x0 : w1.cell? ⟨w.heap.size, 0, none⟩ = some (.pointer (some ⟨D, 0, none⟩)) := Old.cellOf' hU (by go_simp); have x1 : w1.cell? ⟨w.heap.size + 1, 0, none⟩ = some (.int .i64 ((i : Nat) : Int)) := Old.cellOf' hU (by go_simp); have O1 : Old w w1 := (((Upd.refl _ _).alloc _).alloc _).trans hU; clear hU d0 d1 d2 d3 d4 k0 t0 t1 s0 m0 m1 m2 fD fM hD hK hS hT hM kD kK kS kT kM; obtain ⟨d0, d1, d2, d3, d4, k0, t0, t1, s0, m0, m1, m2, fD, fM, hD, hK, hS, hT, hM, -, -, -, -, -, -, -, -, -, -, -, -, -, -, -, -⟩ := HD.out.old O1; have c0 := (O1.has HPL.out).cell 0; have f0 := (O1.has HPL.out).frozen 0; have hPl := (O1.has HPL.out).lt; have kD : ∀ k, D < w1.heap.size + k := (fun k => by omega); have kT : ∀ k, T < w1.heap.size + k := (fun k => by omega); have kP : ∀ k, PL < w1.heap.size + k := (fun k => by omega); have kK : ∀ k, K < w1.heap.size + k := (fun k => by omega); have kS : ∀ k, S < w1.heap.size + k := (fun k => by omega); have kM : ∀ k, Mi < w1.heap.size + k := (fun k => by omega); have y0 := World.block_lt_of_cell? w1 _ x0; have y1 := World.block_lt_of_cell? w1 _ x1; simp only at y0 y1; have u0 : D ≠ w.heap.size := (by have := HD.out.hD; omega); have u1 : D ≠ w.heap.size + 1 := (by have := HD.out.hD; omega); have u2 : PL ≠ w.heap.size := (by have := HPL.out.lt; omega); have u3 : PL ≠ w.heap.size + 1 := (by have := HPL.out.lt; omega); have HO1 := Lib.hid O1; clear O1) | (go_at_call 188; refine (sync1 (D := D) (K := K) (S := S) (Mi := Mi) (n := n) (i := i) (len := len) (cap := cap) (sz := sz) (dur := dur) (va := va) (vc := vc) (by go_simp) (by go_simp) (by go_simp) (by go_simp) (by go_simp) (by go_simp) (by go_simp) (by go_simp) (by go_simp) p1 p2 p3 p4 b0).mono ?_; rintro e w1 ⟨rfl, rfl⟩) | go_in)
 go_ret
 exact ⟨rfl, ((((HO1.out.both _ _).both _ _).both _ _).alloc _).drew⟩
set_option maxHeartbeats 1000000 in
theorem erase_go {w : World} {D K S T Mi PL kb kc a x : Nat} {n i len sz dur cap : Nat} {ops : Int} {va : Option Addr} {vc : Nat} {dn : Bool} (h : DcT w D K S T Mi n i len sz dur cap ops false va vc (.pointer (some ⟨PL, 0, none⟩))) (p : PlT w D K S T Mi PL kb kc a x dn) (o0 : 0 ≤ ops) (o1 : ops ≤ 1000000000) (ha : a ≤ 1000000) (ha2 : 2 ≤ a) :
 Calls Tryz.prog 59 #[.pointer (some ⟨D, 0, none⟩), .int .i64 ((i : Nat) : Int)] w fun e w' => e = .returned (.int .i64 0) ∧ Old ((((w.setCell ⟨D, 3, none⟩ (.int .i64 (ops + 1))).setCell ⟨PL, 0, none⟩ (.int .i64 ((a : Int) - 1))).setCell ⟨Mi, 0, none⟩ (.slice none 0 0)).setCell ⟨Mi, 2, none⟩ (.int .i64 0)) w' := by
 have HP := Lib.hid (fun (W : World) (U : Old w W) => plan_some (Old.cellOf' U h.t1) (U.has p.pl) (show One W kb x from Old.cellOf' U p.kp))
 have HD := Lib.hid h
 have HPL := Lib.hid p.pl
 obtain ⟨-, -, nD, nK, nS, nT, nM⟩ := p
 obtain ⟨d0, d1, d2, d3, d4, k0, t0, t1, s0, m0, m1, m2, fD, fM, hD, hK, hS, hT, hM, b0, p0, p1, p2, p3, p4, p5, p6, p7, DK, DS, DT, DM, KM, SM, TM⟩ := h
 have nD' := Ne.symm nD
 have nK' := Ne.symm nK
 have nS' := Ne.symm nS
 have nT' := Ne.symm nT
 have nM' := Ne.symm nM
 have g1 : (0 : Int) < (a : Int) - 1 := by omega
 go_enter Tryz.func59, Tryz.ntmps59
 have kD : ∀ k, D < w.heap.size + k := fun k => by omega
 have kK : ∀ k, K < w.heap.size + k := fun k => by omega
 have kS : ∀ k, S < w.heap.size + k := fun k => by omega
 have kT : ∀ k, T < w.heap.size + k := fun k => by omega
 have kM : ∀ k, Mi < w.heap.size + k := fun k => by omega
 go_wp2_with (first | (go_at_call 194; refine (HP.out _ ?_).mono ?_; (exact (((Upd.refl _ _).alloc _).alloc _)); rintro e w1 ⟨g, gc, rfl, -, -, -, hU⟩; have x0 : w1.cell? ⟨w.heap.size, 0, none⟩ = some (.pointer (some ⟨D, 0, none⟩)) := Old.cellOf' hU (by go_simp); have x1 : w1.cell? ⟨w.heap.size + 1, 0, none⟩ = some (.int .i64 ((i : Nat) : Int)) := Old.cellOf' hU (by go_simp); have O1 : Old w w1 := (((Upd.refl _ _).alloc _).alloc _).trans hU; clear hU d0 d1 d2 d3 d4 k0 t0 t1 s0 m0 m1 m2 fD fM hD hK hS hT hM kD kK kS kT kM; obtain ⟨d0, d1, d2, d3, d4, k0, t0, t1, s0, m0, m1, m2, fD, fM, hD, hK, hS, hT, hM, -, -, -, -, -, -, -, -, -, -, -, -, -, -, -, -⟩ := HD.out.old O1; have c0 := (O1.has HPL.out).cell 0; have f0 := (O1.has HPL.out).frozen 0; have hPl := (O1.has HPL.out).lt; have kD : ∀ k, D < w1.heap.size + k := (fun k => by omega); have kT : ∀ k, T < w1.heap.size + k := (fun k => by omega); have kP : ∀ k, PL < w1.heap.size + k := (fun k => by omega); have kK : ∀ k, K < w1.heap.size + k := (fun k => by omega); have kS : ∀ k, S < w1.heap.size + k := (fun k => by omega); have kM : ∀ k, Mi < w1.heap.size + k := (fun k => by omega); have y0 := World.block_lt_of_cell? w1 _ x0; have y1 := World.block_lt_of_cell? w1 _ x1; simp only at y0 y1; have u0 : D ≠ w.heap.size := (by have := HD.out.hD; omega); have u1 : D ≠ w.heap.size + 1 := (by have := HD.out.hD; omega); have u2 : PL ≠ w.heap.size := (by have := HPL.out.lt; omega); have u3 : PL ≠ w.heap.size + 1 := (by have := HPL.out.lt; omega); have HO1 := Lib.hid O1; clear O1) | (go_at_call 123; refine (erase1 (D := D) (K := K) (S := S) (Mi := Mi) (n := n) (i := i) (len := len) (cap := cap) (sz := sz) (dur := dur) (va := va) (vc := vc) (by go_simp) (by go_simp) (by go_simp) (by go_simp) (by go_simp) (by go_simp) (by go_simp) (fun j => by have := fM j; go_simp) (by go_simp) p1 p2 p3 p4 b0).mono ?_; rintro e w1 ⟨rfl, rfl⟩) | go_in)
 go_ret
 exact ⟨rfl, (((((HO1.out.both _ _).both _ _).both _ _).both _ _).alloc _).drew⟩
theorem dcrash2x {w : World} {D K S kb kc n x cap at1 : Nat} {dn : Bool} {M : Nat → Nat} {A : Nat → Option Addr} {C L E Z : Nat → Nat} (hn : n ≤ 32) (hx : x ≤ 8192) (d0 : w.cell? ⟨D, 0, none⟩ = some (.pointer (some ⟨K, 0, none⟩))) (d4 : w.cell? ⟨D, 4, none⟩ = some (.bool false)) (f4 : w.frozen? ⟨D, 4, none⟩ = false) (k0 : w.cell? ⟨K, 0, none⟩ = some (.slice (some ⟨S, 0, none⟩) (n + 2) cap)) (s0 : ∀ i, i < n + 2 → w.cell? ⟨S, i, none⟩ = some (.pointer (some ⟨M i, 0, none⟩)))
 (hm : ∀ i, i < n + 2 → ImgX w (M i) (A i) (C i) (L i) (E i) (Z i)) (kp : w.cell? ⟨kb, 0, none⟩ = some (.int .i64 ((x : Nat) : Int))) (hne : ∀ i, i < n + 2 → M i ≠ K ∧ M i ≠ S ∧ M i ≠ kb) (hD : ∀ i, i < n + 2 → M i ≠ D) (hin : ∀ i j, i < n + 2 → j < n + 2 → M i = M j → i = j) :
 Calls Tryz.prog 56 #[.pointer (some ⟨D, 0, none⟩), .agg #[.int .i64 ((at1 : Nat) : Int), .bool dn, .slice (some ⟨kb, 0, none⟩) 1 kc]] w fun e w' => e = .returned (.tuple #[]) ∧ ∃ w1, Upd (fun b => ∃ i, i < n + 2 ∧ b = M i) w w1 ∧ (∀ i, i < n + 2 → ImgX w1 (M i) (A i) (C i) (L i) (E i) (Z i)) ∧ Old (w1.setCell ⟨D, 4, none⟩ (.bool true)) w' := by
 have HC := Lib.hid (fun (w' : World) (U : Old w w') => dcrashx (kc := kc) (w := w') hn hx (Old.cellOf' U k0) (fun i hi => Old.cellOf' U (s0 i hi)) (fun i hi => by obtain ⟨t, len, dur, h, r⟩ := hm i hi; exact ⟨t, len, dur, U.has h, r⟩) (Old.cellOf' U kp) hne hin)
 have hDl := block_lt_of_cell d0
 simp only at hDl
 have HD := Lib.hid (fun (w1 : World) (U : Upd (fun b => ∃ i, i < n + 2 ∧ b = M i) w w1) => And.intro (U.cellOf d4 (fun ⟨i, hi, e⟩ => hD i hi e.symm)) (show w1.frozen? ⟨D, 4, none⟩ = false by rw [World.frozen?, U.keep D hDl (fun ⟨i, hi, e⟩ => hD i hi e.symm)]; exact f4))
 have kD : ∀ k, D < w.heap.size + k := fun k => by omega
 clear k0 s0 hm kp hne hD hin
 go_enter Tryz.func56, Tryz.ntmps56
 go_wp2
 obtain ⟨W, hW⟩ : ∃ W, w.alloc (.cells #[.int .i64 ((at1 : Nat) : Int), .bool dn, .slice (some ⟨kb, 0, none⟩) 1 kc] 50) = W := ⟨_, rfl⟩
 have hO : Old w W := by rw [← hW]; exact (Upd.refl _ _).alloc _
 have p2 : W.cell? ⟨w.heap.size, 2, none⟩ = some (.slice (some ⟨kb, 0, none⟩) 1 kc) := by rw [← hW]; exact (Has.new w _ _).cell 2
 have e0 := Old.cellOf' hO d0
 rw [hW]
 clear hW
 go_still_tail 7, (by kernel_rfl)
 change wpList _ _ _ _ _ W.drew
 go_wp2_with (first | (go_at_call 121; refine (HC.out _ ?_).mono ?_; (exact hO.drew); rintro e w1 ⟨rfl, hU, hX⟩; have HX := Lib.hid hX; clear hX; have hO2 := ((hO.mono (G := fun b => ∃ i, i < n + 2 ∧ b = M i) (fun b _ h => h.elim)).drew).trans hU; obtain ⟨q4, q5⟩ := HD.out _ hO2; have hD1 : D < w1.heap.size := block_lt_of_cell q4; clear d0 d4 f4 HC HD hU hO; have HU := Lib.hid hO2; clear hO2))
 go_end0
 exact ⟨rfl, w1, HU.out, HX.out, Upd.refl _ _⟩
set_option maxHeartbeats 1000000 in
theorem sync_end {w : World} {D K S T Mi PL kb kc x : Nat} {n i len sz dur cap : Nat} {ops : Int} {va : Option Addr} {vc : Nat} {dn : Bool} (h : DcT w D K S T Mi n i len sz dur cap ops false va vc (.pointer (some ⟨PL, 0, none⟩))) (p : PlT w D K S T Mi PL kb kc 1 x dn) (o0 : 0 ≤ ops) (o1 : ops ≤ 1000000000) {P : World → Prop} (hP : ∀ W W', P W → Old W W' → P W')
 (hgD : D < w.heap.size) (hgT : T < w.heap.size) (hgP : PL < w.heap.size)
 (hC : ∀ W g gc, Old (((w.setCell ⟨D, 3, none⟩ (.int .i64 (ops + 1))).setCell ⟨PL, 0, none⟩ (.int .i64 0)).setCell ⟨T, 1, none⟩ (.pointer none)) W → One W g x → w.heap.size ≤ g → Calls Tryz.prog 56 #[.pointer (some ⟨D, 0, none⟩), .agg #[.int .i64 1, .bool dn, .slice (some ⟨g, 0, none⟩) 1 gc]] W fun e w' => e = .returned (.tuple #[]) ∧ P w') (fT : w.frozen? ⟨T, 1, none⟩ = false) :
 Calls Tryz.prog 108 #[.pointer (some ⟨D, 0, none⟩), .int .i64 ((i : Nat) : Int)] w fun e w' => e = .returned (.int .i64 13) ∧ P w' := by
 have HP := Lib.hid (fun (W : World) (U : Old w W) => plan_some (Old.cellOf' U h.t1) (U.has p.pl) (show One W kb x from Old.cellOf' U p.kp))
 have HD := Lib.hid h
 have HPL := Lib.hid p.pl
 have HCR := Lib.hid hC
 have HFT := Lib.hid fT
 have HPO := Lib.hid hP
 clear hC fT hP
 obtain ⟨-, -, nD, nK, nS, nT, nM⟩ := p
 obtain ⟨d0, d1, d2, d3, d4, k0, t0, t1, s0, m0, m1, m2, fD, fM, hD, hK, hS, hT, hM, b0, p0, p1, p2, p3, p4, p5, p6, p7, DK, DS, DT, DM, KM, SM, TM⟩ := h
 have nD' := Ne.symm nD
 have nK' := Ne.symm nK
 have nS' := Ne.symm nS
 have nT' := Ne.symm nT
 have nM' := Ne.symm nM
 go_enter Tryz.func108, Tryz.ntmps108
 have kD : ∀ k, D < w.heap.size + k := fun k => by omega
 have kK : ∀ k, K < w.heap.size + k := fun k => by omega
 have kS : ∀ k, S < w.heap.size + k := fun k => by omega
 have kT : ∀ k, T < w.heap.size + k := fun k => by omega
 have kM : ∀ k, Mi < w.heap.size + k := fun k => by omega
 go_wp2_with (first | (go_at_call 194; refine (HP.out _ ?_).mono ?_; (exact (((Upd.refl _ _).alloc _).alloc _)); rintro e w1 ⟨g, gc, rfl, hg, -, hone, hU⟩; have hg2 : w.heap.size + 2 ≤ g := (by simpa using hg); have HONE := Lib.hid hone; clear hg hone; have x0 : w1.cell? ⟨w.heap.size, 0, none⟩ = some (.pointer (some ⟨D, 0, none⟩)) := Old.cellOf' hU (by go_simp); have x1 : w1.cell? ⟨w.heap.size + 1, 0, none⟩ = some (.int .i64 ((i : Nat) : Int)) := Old.cellOf' hU (by go_simp); have O1 : Old w w1 := (((Upd.refl _ _).alloc _).alloc _).trans hU; clear hU d0 d1 d2 d3 d4 k0 t0 t1 s0 m0 m1 m2 fD fM hD hK hS hT hM kD kK kS kT kM; obtain ⟨d0, d1, d2, d3, d4, k0, t0, t1, s0, m0, m1, m2, fD, fM, hD, hK, hS, hT, hM, -, -, -, -, -, -, -, -, -, -, -, -, -, -, -, -⟩ := HD.out.old O1; have c0 := (O1.has HPL.out).cell 0; have f0 := (O1.has HPL.out).frozen 0; have hPl := (O1.has HPL.out).lt; have kD : ∀ k, D < w1.heap.size + k := (fun k => by omega); have kT : ∀ k, T < w1.heap.size + k := (fun k => by omega); have kP : ∀ k, PL < w1.heap.size + k := (fun k => by omega); have kK : ∀ k, K < w1.heap.size + k := (fun k => by omega); have kS : ∀ k, S < w1.heap.size + k := (fun k => by omega); have kM : ∀ k, Mi < w1.heap.size + k := (fun k => by omega); have y0 := World.block_lt_of_cell? w1 _ x0; have y1 := World.block_lt_of_cell? w1 _ x1; simp only at y0 y1; have u0 : D ≠ w.heap.size := (by have := HD.out.hD; omega); have u1 : D ≠ w.heap.size + 1 := (by have := HD.out.hD; omega); have u2 : PL ≠ w.heap.size := (by have := HPL.out.lt; omega); have u3 : PL ≠ w.heap.size + 1 := (by have := HPL.out.lt; omega); have fT1 : w1.frozen? ⟨T, 1, none⟩ = false := O1.frz HD.out.hT HFT.out; have HO1 := Lib.hid O1; clear O1) | (go_at_call 56; refine (HCR.out _ g gc ?_ ?_ ?_).mono ?_; (exact ((((HO1.out.both _ _).both _ _).both _ _).alloc _).alloc _); (exact (Old.cellOf' (((Upd.refl _ _).alloc _).alloc _) (one_far (one_far (one_far HONE.out (by omega)) (by omega)) (by omega)))); (omega); rintro e w2 ⟨rfl, hp⟩; have HPP := Lib.hid hp; clear hp) | go_in)
 go_ret
 exact ⟨rfl, HPP.out⟩
set_option maxHeartbeats 1000000 in
theorem erase_end0 {w : World} {D K S T Mi PL kb kc x : Nat} {n i len sz dur cap : Nat} {ops : Int} {va : Option Addr} {vc : Nat} (h : DcT w D K S T Mi n i len sz dur cap ops false va vc (.pointer (some ⟨PL, 0, none⟩))) (p : PlT w D K S T Mi PL kb kc 1 x false) (o0 : 0 ≤ ops) (o1 : ops ≤ 1000000000) {P : World → Prop} (hP : ∀ W W', P W → Old W W' → P W')
 (hgD : D < w.heap.size) (hgT : T < w.heap.size) (hgP : PL < w.heap.size)
 (hC : ∀ W g gc, Old (((w.setCell ⟨D, 3, none⟩ (.int .i64 (ops + 1))).setCell ⟨PL, 0, none⟩ (.int .i64 0)).setCell ⟨T, 1, none⟩ (.pointer none)) W → One W g x → w.heap.size ≤ g → Calls Tryz.prog 56 #[.pointer (some ⟨D, 0, none⟩), .agg #[.int .i64 1, .bool false, .slice (some ⟨g, 0, none⟩) 1 gc]] W fun e w' => e = .returned (.tuple #[]) ∧ P w') (fT : w.frozen? ⟨T, 1, none⟩ = false) :
 Calls Tryz.prog 59 #[.pointer (some ⟨D, 0, none⟩), .int .i64 ((i : Nat) : Int)] w fun e w' => e = .returned (.int .i64 13) ∧ P w' := by
 have HP := Lib.hid (fun (W : World) (U : Old w W) => plan_some (Old.cellOf' U h.t1) (U.has p.pl) (show One W kb x from Old.cellOf' U p.kp))
 have HD := Lib.hid h
 have HPL := Lib.hid p.pl
 have HCR := Lib.hid hC
 have HFT := Lib.hid fT
 have HPO := Lib.hid hP
 clear hC fT hP
 obtain ⟨-, -, nD, nK, nS, nT, nM⟩ := p
 obtain ⟨d0, d1, d2, d3, d4, k0, t0, t1, s0, m0, m1, m2, fD, fM, hD, hK, hS, hT, hM, b0, p0, p1, p2, p3, p4, p5, p6, p7, DK, DS, DT, DM, KM, SM, TM⟩ := h
 have nD' := Ne.symm nD
 have nK' := Ne.symm nK
 have nS' := Ne.symm nS
 have nT' := Ne.symm nT
 have nM' := Ne.symm nM
 go_enter Tryz.func59, Tryz.ntmps59
 have kD : ∀ k, D < w.heap.size + k := fun k => by omega
 have kK : ∀ k, K < w.heap.size + k := fun k => by omega
 have kS : ∀ k, S < w.heap.size + k := fun k => by omega
 have kT : ∀ k, T < w.heap.size + k := fun k => by omega
 have kM : ∀ k, Mi < w.heap.size + k := fun k => by omega
 go_wp2_with (first | (go_at_call 194; refine (HP.out _ ?_).mono ?_; (exact (((Upd.refl _ _).alloc _).alloc _)); rintro e w1 ⟨g, gc, rfl, hg, -, hone, hU⟩; have hg2 : w.heap.size + 2 ≤ g := (by simpa using hg); have HONE := Lib.hid hone; clear hg hone; have x0 : w1.cell? ⟨w.heap.size, 0, none⟩ = some (.pointer (some ⟨D, 0, none⟩)) := Old.cellOf' hU (by go_simp); have x1 : w1.cell? ⟨w.heap.size + 1, 0, none⟩ = some (.int .i64 ((i : Nat) : Int)) := Old.cellOf' hU (by go_simp); have O1 : Old w w1 := (((Upd.refl _ _).alloc _).alloc _).trans hU; clear hU d0 d1 d2 d3 d4 k0 t0 t1 s0 m0 m1 m2 fD fM hD hK hS hT hM kD kK kS kT kM; obtain ⟨d0, d1, d2, d3, d4, k0, t0, t1, s0, m0, m1, m2, fD, fM, hD, hK, hS, hT, hM, -, -, -, -, -, -, -, -, -, -, -, -, -, -, -, -⟩ := HD.out.old O1; have c0 := (O1.has HPL.out).cell 0; have f0 := (O1.has HPL.out).frozen 0; have hPl := (O1.has HPL.out).lt; have kD : ∀ k, D < w1.heap.size + k := (fun k => by omega); have kT : ∀ k, T < w1.heap.size + k := (fun k => by omega); have kP : ∀ k, PL < w1.heap.size + k := (fun k => by omega); have kK : ∀ k, K < w1.heap.size + k := (fun k => by omega); have kS : ∀ k, S < w1.heap.size + k := (fun k => by omega); have kM : ∀ k, Mi < w1.heap.size + k := (fun k => by omega); have y0 := World.block_lt_of_cell? w1 _ x0; have y1 := World.block_lt_of_cell? w1 _ x1; simp only at y0 y1; have u0 : D ≠ w.heap.size := (by have := HD.out.hD; omega); have u1 : D ≠ w.heap.size + 1 := (by have := HD.out.hD; omega); have u2 : PL ≠ w.heap.size := (by have := HPL.out.lt; omega); have u3 : PL ≠ w.heap.size + 1 := (by have := HPL.out.lt; omega); have fT1 : w1.frozen? ⟨T, 1, none⟩ = false := O1.frz HD.out.hT HFT.out; have HO1 := Lib.hid O1; clear O1) | (go_at_call 56; refine (HCR.out _ g gc ?_ ?_ ?_).mono ?_; (exact ((((HO1.out.both _ _).both _ _).both _ _).alloc _).alloc _); (exact (Old.cellOf' (((Upd.refl _ _).alloc _).alloc _) (one_far (one_far (one_far HONE.out (by omega)) (by omega)) (by omega)))); (omega); rintro e w2 ⟨rfl, hp⟩; have HPP := Lib.hid hp; clear hp) | go_in)
 go_ret
 exact ⟨rfl, HPP.out⟩
set_option maxHeartbeats 1000000 in
theorem erase_end1 {w : World} {D K S T Mi PL kb kc x : Nat} {n i len sz dur cap : Nat} {ops : Int} {va : Option Addr} {vc : Nat} (h : DcT w D K S T Mi n i len sz dur cap ops false va vc (.pointer (some ⟨PL, 0, none⟩))) (p : PlT w D K S T Mi PL kb kc 1 x true) (o0 : 0 ≤ ops) (o1 : ops ≤ 1000000000) {P : World → Prop} (hP : ∀ W W', P W → Old W W' → P W')
 (hTK : T ≠ K) (hTS : T ≠ S) (hgD : D < w.heap.size) (hgT : T < w.heap.size) (hgP : PL < w.heap.size)
 (hC : ∀ W g gc, Old (((((w.setCell ⟨D, 3, none⟩ (.int .i64 (ops + 1))).setCell ⟨PL, 0, none⟩ (.int .i64 0)).setCell ⟨T, 1, none⟩ (.pointer none)).setCell ⟨Mi, 0, none⟩ (.slice none 0 0)).setCell ⟨Mi, 2, none⟩ (.int .i64 0)) W → One W g x → w.heap.size ≤ g → Calls Tryz.prog 56 #[.pointer (some ⟨D, 0, none⟩), .agg #[.int .i64 1, .bool true, .slice (some ⟨g, 0, none⟩) 1 gc]] W fun e w' => e = .returned (.tuple #[]) ∧ P w') (fT : w.frozen? ⟨T, 1, none⟩ = false) :
 Calls Tryz.prog 59 #[.pointer (some ⟨D, 0, none⟩), .int .i64 ((i : Nat) : Int)] w fun e w' => e = .returned (.int .i64 13) ∧ P w' := by
 have HP := Lib.hid (fun (W : World) (U : Old w W) => plan_some (Old.cellOf' U h.t1) (U.has p.pl) (show One W kb x from Old.cellOf' U p.kp))
 have HD := Lib.hid h
 have HPL := Lib.hid p.pl
 have HCR := Lib.hid hC
 have HFT := Lib.hid fT
 have HPO := Lib.hid hP
 clear hC fT hP
 obtain ⟨-, -, nD, nK, nS, nT, nM⟩ := p
 obtain ⟨d0, d1, d2, d3, d4, k0, t0, t1, s0, m0, m1, m2, fD, fM, hD, hK, hS, hT, hM, b0, p0, p1, p2, p3, p4, p5, p6, p7, DK, DS, DT, DM, KM, SM, TM⟩ := h
 have hKT := Ne.symm hTK
 have hST := Ne.symm hTS
 have nD' := Ne.symm nD
 have nK' := Ne.symm nK
 have nS' := Ne.symm nS
 have nT' := Ne.symm nT
 have nM' := Ne.symm nM
 go_enter Tryz.func59, Tryz.ntmps59
 have kD : ∀ k, D < w.heap.size + k := fun k => by omega
 have kK : ∀ k, K < w.heap.size + k := fun k => by omega
 have kS : ∀ k, S < w.heap.size + k := fun k => by omega
 have kT : ∀ k, T < w.heap.size + k := fun k => by omega
 have kM : ∀ k, Mi < w.heap.size + k := fun k => by omega
 go_wp2_with (first | (go_at_call 194; refine (HP.out _ ?_).mono ?_; (exact (((Upd.refl _ _).alloc _).alloc _)); rintro e w1 ⟨g, gc, rfl, hg, -, hone, hU⟩; have hg2 : w.heap.size + 2 ≤ g := (by simpa using hg); have HONE := Lib.hid hone; clear hg hone; have x0 : w1.cell? ⟨w.heap.size, 0, none⟩ = some (.pointer (some ⟨D, 0, none⟩)) := Old.cellOf' hU (by go_simp); have x1 : w1.cell? ⟨w.heap.size + 1, 0, none⟩ = some (.int .i64 ((i : Nat) : Int)) := Old.cellOf' hU (by go_simp); have O1 : Old w w1 := (((Upd.refl _ _).alloc _).alloc _).trans hU; clear hU d0 d1 d2 d3 d4 k0 t0 t1 s0 m0 m1 m2 fD fM hD hK hS hT hM kD kK kS kT kM; obtain ⟨d0, d1, d2, d3, d4, k0, t0, t1, s0, m0, m1, m2, fD, fM, hD, hK, hS, hT, hM, -, -, -, -, -, -, -, -, -, -, -, -, -, -, -, -⟩ := HD.out.old O1; have c0 := (O1.has HPL.out).cell 0; have f0 := (O1.has HPL.out).frozen 0; have hPl := (O1.has HPL.out).lt; have kD : ∀ k, D < w1.heap.size + k := (fun k => by omega); have kT : ∀ k, T < w1.heap.size + k := (fun k => by omega); have kP : ∀ k, PL < w1.heap.size + k := (fun k => by omega); have kK : ∀ k, K < w1.heap.size + k := (fun k => by omega); have kS : ∀ k, S < w1.heap.size + k := (fun k => by omega); have kM : ∀ k, Mi < w1.heap.size + k := (fun k => by omega); have y0 := World.block_lt_of_cell? w1 _ x0; have y1 := World.block_lt_of_cell? w1 _ x1; simp only at y0 y1; have u0 : D ≠ w.heap.size := (by have := HD.out.hD; omega); have u1 : D ≠ w.heap.size + 1 := (by have := HD.out.hD; omega); have u2 : PL ≠ w.heap.size := (by have := HPL.out.lt; omega); have u3 : PL ≠ w.heap.size + 1 := (by have := HPL.out.lt; omega); have fT1 : w1.frozen? ⟨T, 1, none⟩ = false := O1.frz HD.out.hT HFT.out; have HO1 := Lib.hid O1; clear O1) | (go_at_call 123; refine (erase1 (D := D) (K := K) (S := S) (Mi := Mi) (n := n) (i := i) (len := len) (cap := cap) (sz := sz) (dur := dur) (va := va) (vc := vc) (by go_simp) (by go_simp) (by go_simp) (by go_simp) (by go_simp) (by go_simp) (by go_simp) (fun j => by have := fM j; go_simp) (by go_simp) p1 p2 p3 p4 b0).mono ?_; rintro e w1 ⟨rfl, rfl⟩) | (go_at_call 56; refine (HCR.out _ g gc ?_ ?_ ?_).mono ?_; (exact ((((((((HO1.out.both _ _).both _ _).both _ _).both _ _).both _ _).alloc _).alloc _).drew)); (exact (Old.cellOf' ((((Upd.refl _ _).alloc _).alloc _).drew) (one_far (one_far (one_far (one_far (one_far HONE.out (by omega)) (by omega)) (by omega)) (by have := HD.out.hM; omega)) (by have := HD.out.hM; omega)))); (omega); rintro e w2 ⟨rfl, hp⟩; have HPP := Lib.hid hp; clear hp) | go_in)
 go_ret
 exact ⟨rfl, HPP.out⟩
end Go.M
