/- Walks 5. -/
import Derived.Test.YtnmkiflnonafbaaGreatDoorProg
import Derived.Test.YtnmkiflnonafbaaGreatDoorK4
set_option linter.unusedVariables false
set_option linter.unusedSimpArgs false
set_option maxRecDepth 100000
namespace Go.M
open Go.Proofs Go.RowKit
theorem Zeq : (Tryz.prog.info? 111).map (fun i => (i.zero, i.size, i.bytes)) = some (some (.agg #[.int .i64 0, .string ⟨#[]⟩, .bool false, .int .i64 0, .int .i64 0, .int .i64 0]), 6, 56) := by kernel_rfl
theorem ZjB {w : World} {v : Value} {n c : Nat} {xs el : List Value} {ad : Addr} (own : w.ownsRow 0 111 6 v n xs) (hl : el.length = 6) (he : ∀ j u, el[j]? = some u → w.cell? (ad.add j) = some u) (h1 : ∀ u ∈ el, u.oneCell' = true) (hn : n ≤ 1000) :
 Calls Tryz.prog 130 #[v, .int .i64 ((n : Nat) : Int), .slice (some ad) 1 c] w (ZbW w v 111 6 (n + 1) (xs ++ el)) := by
 obtain ⟨i0, hi0, hz0, hz1, hz2⟩ := info_parts Zeq;obtain ⟨va, vc, rfl⟩ := Zac own;have HO := Lib.hid own;have HE := Lib.hid he;have HL := Lib.hid hl;clear own he hl
 go_enter Tryz.func130, Tryz.ntmps130
 go_wp2_with (first | (at_builtin; refine Zb4 rfl (.tmp 23) (.tmp 24) 105 83 rfl 111 i0 (.agg #[.int .i64 0, .string ⟨#[]⟩, .bool false, .int .i64 0, .int .i64 0, .int .i64 0]) 6 56 Tryz.underlying105 Tryz.underlying83 hi0 hz0 hz1 hz2 rfl (by decide) (.slice va n vc) n xs rfl HO.out ad 1 c el rfl HL.out HE.out h1 (by unfold maxLen; omega) (by omega) ?_; intro v' w1 hown' hgrow hnil hfresh))
 all_goals
  go_wp2;go_ret;exact ⟨_, rfl, hown', (Upd.refl _ _).grown hgrow (fun k hk => .inl (by revert hk; cases va <;> exact id)), fun b hb => (hfresh b hb).imp (by cases va <;> exact id) id⟩
theorem Zmo {w : World} {g n i c : Nat} {xs el : List Value} {ad : Addr} {cur : Array Value} (hg : Has w g 111 cur) (hx : cur.toList.take (n * 6) = xs) (hxl : xs.length = n * 6) (hl : el.length = 6) (he : ∀ j u, el[j]? = some u → w.cell? (ad.add j) = some u) (h1 : ∀ u ∈ el, u.oneCell' = true) (hx1 : ∀ u ∈ xs, u.oneCell' = true) (hn : n ≤ 1000) (hi : i < n) :
 Calls Tryz.prog 130 #[.slice (some ⟨g, 0, none⟩) n n, .int .i64 ((i : Nat) : Int), .slice (some ad) 1 c] w (ZbW w (.slice (some ⟨g, 0, none⟩) n n) 111 6 (n + 1) (xs.take (i * 6) ++ el ++ xs.drop (i * 6))) := by
 obtain ⟨i0, hi0, hz0, hz1, hz2⟩ := info_parts Zeq;have HE := Lib.hid he;have HL := Lib.hid hl;have HG := Lib.hid hg;have HX := Lib.hid hx;clear hg he hl hx;have e1 : ((i : Int) == (n : Int)) = false := by rw [beq_eq_false_iff_ne]; omega
 have e2 : ¬ n = i := by omega
 have e3 : ¬ i = n := by omega
 have hcell : ∀ j u, xs[j]? = some u → w.cell? ⟨g, j, none⟩ = some u := by
  intro j u hj;rw [HG.out.cell j];have hlt : j < n * 6 := by rw [← hxl]; exact (List.getElem?_eq_some_iff.1 hj).1
  rw [← HX.out, List.getElem?_take_of_lt hlt] at hj;simpa using hj
 have holds : ∀ j u, (xs.take (i * 6))[j]? = some u → w.cell? ((⟨g, 0, none⟩ : Addr).add j) = some u := by
  intro j u hj;have h2 : xs[j]? = some u := by
   have hlt : j < i * 6 := by
    have := (List.getElem?_eq_some_iff.1 hj).1;simp at this;omega
   rwa [List.getElem?_take_of_lt hlt] at hj
  have := hcell j u h2;rwa [show (⟨g, 0, none⟩ : Addr).add j = ⟨g, j, none⟩ from by unfold Addr.add; split <;> simp_all]
 have HCELL := Lib.hid hcell;have HOLDS := Lib.hid holds;have em : i + (n + 1 - i) = n + 1 := by omega
 have hgl := HG.out.lt;clear hcell holds;have EM := Lib.hid em;have HSZ : Hid ((Tryz.prog.info? 111).map (·.size) = some 6) := Lib.hid (by rw [hi0]; simp [hz1])
 clear em
 go_enter Tryz.func130, Tryz.ntmps130
 go_wp2_with (first | (at_builtin; refine ZbD rfl (.tmp 34) (.tmp 39) 105 3 rfl 111 i0 (.agg #[.int .i64 0, .string ⟨#[]⟩, .bool false, .int .i64 0, .int .i64 0, .int .i64 0]) .i64 6 56 Tryz.underlying105 Tryz.underlying3 hi0 hz0 hz1 hz2 rfl (by decide) ⟨g, 0, none⟩ i n rfl (xs.take (i * 6)) (by simp [hxl]; omega) HOLDS.out (n + 1 - i) (by rw [show ((n + 1 - i : Nat) : Int) = (n : Int) + 1 - (i : Int) from by omega]; rfl) (by omega) (by omega) (by omega) (by omega) ?_; rw [EM.out]; intro C cur1 w1 hC hC2 hcl hct hcg hO; have hcl2 : i * 6 + 6 ≤ cur1.length := (by rw [hcl.out]; omega); refine Hid.out ?_))
 show wpList _ _ _ _ _ _
 go_wp2_with (first | (refine Zat rfl (.tmp 43) (.tmp 44) 105 83 rfl 111 6 Tryz.underlying105 HSZ.out w.heap.size (i * 6) (n + 1 - i) (C - i) ad 1 c rfl rfl cur1 111 hcg.out el 1 (Nat.min_eq_left (by omega)) (by rw [HL.out]) (fun j v hv => Old.cellOf' hO.out (HE.out j v hv)) (by rw [HL.out]; exact hcl2) h1 ?_; intro w2 hcg2 hU2; refine Hid.out ?_))
 show wpList _ _ _ _ _ _;have hsrc : Hid (∀ j u, (xs.drop (i * 6))[j]? = some u → w2.drew.cell? ((⟨g, i * 6, none⟩ : Addr).add j) = some u) := by
  intro j u hj;rw [List.getElem?_drop] at hj;have h0 := Old.cellOf' hO.out (HCELL.out _ _ hj);have h3 := hU2.out.cellOf h0 (by omega)
  rw [show (⟨g, i * 6, none⟩ : Addr).add j = ⟨g, i * 6 + j, none⟩ from by unfold Addr.add; split <;> simp_all]
  exact h3
 go_wp2_with fail
 have g1 : IntKind.i64.wrap ((i : Int) + 1) = (i : Int) + 1 := IntWalk.i64_in _ (by omega)
 have g2 : (0 : Int) ≤ (i : Int) + 1 := by omega
 have g3 : ((i : Int) + 1).toNat = i + 1 := by omega
 have g4 : (i : Int) + 1 ≤ (n : Int) + 1 := by omega
 have g5 : ¬ C = i + 1 := by omega
 have g6 : ¬ i + 1 = C := by omega
 have g7 : (i : Int) ≤ (n : Int) := by omega
 have g8 : i + 1 ≤ n + 1 := by omega
 have g9 : i ≤ n := by omega
 have g10 : n + 1 ≤ C := hC;have g11 : ¬ C ≤ i + 1 := by omega
 have g12 : ¬ n ≤ i := by omega
 go_still_tail 8, (by kernel_rfl)
 change wpList _ _ _ _ _ w2.drew;have hlen : (splice cur1 (i * 6) el).length = C * 6 := by rw [length_splice _ _ _ (by rw [HL.out]; exact hcl2), hcl.out]
 refine Zat rfl (.tmp 50) (.tmp 53) 105 105 rfl 111 6 Tryz.underlying105 HSZ.out w.heap.size ((i + 1) * 6) _ _ ⟨g, i * 6, none⟩ (n - i) (n - i) rfl rfl (splice cur1 (i * 6) el) 111 (by exact hcg2.out) (xs.drop (i * 6)) (n - i) (Nat.min_eq_left (by omega)) (by simp [hxl]; omega) hsrc.out (by rw [hlen]; simp [hxl]; omega) (fun v hv => hx1 v (List.mem_of_mem_drop hv)) ?_
 intro w3 hcg3 hU3;go_wp2;go_ret;refine ⟨_, rfl, ⟨?_, .inr ⟨w.heap.size, C, (splice (splice cur1 (i * 6) el) ((i + 1) * 6) (xs.drop (i * 6))).toArray, rfl, Nat.zero_le _, hcg3.out, hC, hC2, ?_, ?_⟩⟩, ?_, ?_⟩
 ·simp [hxl, HL.out]; omega
 ·simp only [List.size_toArray];rw [length_splice _ _ _ (by rw [hlen]; simp [hxl]; omega), hlen]
 ·have h1 := Zdt cur1 (xs.take (i * 6)) el (xs.drop (i * 6)) (i * 6) hct.out (by simp [hxl]; omega)
  have e1 : i * 6 + el.length = (i + 1) * 6 := by rw [HL.out]; omega
  have e2 : (i + 1) * 6 + (xs.drop (i * 6)).length = (n + 1) * 6 := by simp [hxl]; omega
  rw [e1, e2] at h1;rw [List.append_assoc] at h1;simpa using h1
 ·exact (((hO.out.mono (fun _ _ h => h.elim)).after hU2.out (fun b hb hf => by omega)).drew).after hU3.out (fun b hb hf => by omega)
 ·intro b hb;have : w.heap.size = b := by simpa [Value.ownBlock] using hb
  exact .inr (by omega)
theorem Zmp {w : World} {g n i c cap : Nat} {xs el : List Value} {V : Nat} {tV : TypeId} {cV : Array Value} {cur : Array Value} (hg : Has w g 111 cur) (hcs : cur.size = cap * 6) (hx : cur.toList.take (n * 6) = xs) (hxl : xs.length = n * 6) (hl : el.length = 6) (he : ∀ j u, el[j]? = some u → w.cell? ((⟨V, 0, none⟩ : Addr).add j) = some u) (h1 : ∀ u ∈ el, u.oneCell' = true) (hx1 : ∀ u ∈ xs, u.oneCell' = true) (hn : n ≤ 1000) (hi : i < n) (hcap : n + 1 ≤ cap) (hcm : cap ≤ maxLen) (hag : V ≠ g) (hV : Has w V tV cV) :
 Calls Tryz.prog 130 #[.slice (some ⟨g, 0, none⟩) n cap, .int .i64 ((i : Nat) : Int), .slice (some ⟨V, 0, none⟩) 1 c] w (ZbW w (.slice (some ⟨g, 0, none⟩) n cap) 111 6 (n + 1) (xs.take (i * 6) ++ el ++ xs.drop (i * 6))) := by
 obtain ⟨i0, hi0, hz0, hz1, hz2⟩ := info_parts Zeq;have HE := Lib.hid he;have HL := Lib.hid hl;have HG := Lib.hid hg;have HX := Lib.hid hx;have HCS := Lib.hid hcs;clear hg he hl hx hcs;have HV := Lib.hid hV;clear hV;unfold maxLen at hcm;have hov : (callFunc 186 #[.slice (some ⟨V, 0, none⟩) 1 c, .slice (some ⟨g, (i + 1) * 6, none⟩) (n - i) (cap - (i + 1))]).run Tryz.prog w = .ok (.value (.bool false)) w :=
  Zcd (fn := Tryz.f186) (by kernel_rfl) (by kernel_rfl) (by kernel_rfl) (by kernel_rfl) (g := Extern.SlicesOverlaps.overlaps #[83, 83] #[4]) (by kernel_rfl) (Zcs rfl Tryz.underlying83 hi0 HG.out HV.out hag _ _ _ _ _ _)
 have e1 : ((i : Int) == (n : Int)) = false := by rw [beq_eq_false_iff_ne]; omega
 have e2 : ¬ n = i := by omega
 have e3 : ¬ i = n := by omega
 have e4 : ¬ cap < n + 1 := by omega
 have e5 : ¬ (cap : Int) < (n : Int) + 1 := by omega
 have e6 : ¬ cap = i := by omega
 have e7 : ¬ cap = i + 1 := by omega
 go_enter Tryz.func130, Tryz.ntmps130
 have HSZ : Hid ((Tryz.prog.info? 111).map (·.size) = some 6) := Lib.hid (by rw [hi0]; simp [hz1])
 have hcell : ∀ j u, xs[j]? = some u → w.cell? ⟨g, j, none⟩ = some u := by
  intro j u hj;rw [HG.out.cell j];have hlt : j < n * 6 := by rw [← hxl]; exact (List.getElem?_eq_some_iff.1 hj).1
  rw [← HX.out, List.getElem?_take_of_lt hlt] at hj;simpa using hj
 have hsrc : Hid (∀ j u, (xs.drop (i * 6))[j]? = some u → w.drew.cell? ((⟨g, i * 6, none⟩ : Addr).add j) = some u) := by
  intro j u hj;rw [List.getElem?_drop] at hj;have h0 := hcell _ _ hj;rw [show (⟨g, i * 6, none⟩ : Addr).add j = ⟨g, i * 6 + j, none⟩ from by unfold Addr.add; split <;> simp_all]
  exact h0
 clear hcell
 go_wp2_with fail
 have g1 : IntKind.i64.wrap ((i : Int) + 1) = (i : Int) + 1 := IntWalk.i64_in _ (by omega)
 have g2 : (0 : Int) ≤ (i : Int) + 1 := by omega
 have g3 : ((i : Int) + 1).toNat = i + 1 := by omega
 have g4 : (i : Int) + 1 ≤ (n : Int) + 1 := by omega
 have g5 : ¬ cap = i + 1 := by omega
 have g6 : ¬ i + 1 = cap := by omega
 have g7 : (i : Int) ≤ (n : Int) := by omega
 have g8 : i + 1 ≤ n + 1 := by omega
 have g9 : i ≤ n := by omega
 have g11 : ¬ cap ≤ i + 1 := by omega
 have g12 : ¬ n ≤ i := by omega
 have g13 : (i : Int) ≤ (n : Int) + 1 := by omega
 have g14 : i ≤ n + 1 := by omega
 have g15 : ¬ cap ≤ i := by omega
 clear hov
 go_still_tail 8, (by kernel_rfl)
 change wpList _ _ _ _ _ w.drew;refine Zat rfl (.tmp 73) (.tmp 76) 105 105 rfl 111 6 Tryz.underlying105 HSZ.out g ((i + 1) * 6) _ _ ⟨g, i * 6, none⟩ _ _ rfl rfl cur.toList 111 (by simpa using HG.out.drew) (xs.drop (i * 6)) (n - i) ?x1 (by simp [hxl]; omega) hsrc.out (by simp [hxl, HCS.out]; omega) (fun v hv => hx1 v (List.mem_of_mem_drop hv)) ?_
 case x1 => show min _ _ = _; omega
 intro w2 hcg2 hU2;have hlen : (splice cur.toList ((i + 1) * 6) (xs.drop (i * 6))).length = cap * 6 := by rw [length_splice _ _ _ (by simp [hxl, HCS.out]; omega)]; simp [HCS.out]
 have hE2 : Hid (∀ j u, el[j]? = some u → w2.cell? ((⟨V, 0, none⟩ : Addr).add j) = some u) := by
  intro j u hj;have h0 := HE.out j u hj;have hb : ((⟨V, 0, none⟩ : Addr).add j) = ⟨V, j, none⟩ := by unfold Addr.add; split <;> simp_all
  rw [hb] at h0 ⊢;exact hU2.out.cellOf (w := w.drew) h0 hag
 have HLEN := Lib.hid hlen;clear hlen
 go_wp2_with (first | (refine Zat rfl (.tmp 80) (.tmp 81) 105 83 rfl 111 6 Tryz.underlying105 HSZ.out g (i * 6) _ _ ⟨V, 0, none⟩ 1 c rfl rfl (splice cur.toList ((i + 1) * 6) (xs.drop (i * 6))) 111 hcg2.out el 1 (Nat.min_eq_left (by omega)) (by rw [HL.out]) hE2.out (by rw [HL.out, HLEN.out]; omega) h1 ?_; intro w3 hcg3 hU3))
 go_ret;have hUd : Upd (fun b => (Value.slice (some ⟨g, 0, none⟩) n cap).ownBlock = some b) w w3 := (((Upd.refl _ w).drew).after hU2.out (fun b hb hf => by subst hf; rfl)).after hU3.out (fun b hb hf => by subst hf; rfl)
 refine ⟨_, rfl, ⟨?_, .inr ⟨g, cap, (splice (splice cur.toList ((i + 1) * 6) (xs.drop (i * 6))) (i * 6) el).toArray, rfl, Nat.zero_le _, hcg3.out, hcap, hcm, ?_, ?_⟩⟩, hUd, ?_⟩
 ·simp [hxl, HL.out]; omega
 ·simp only [List.size_toArray];rw [length_splice _ _ _ (by rw [HLEN.out, HL.out]; omega), HLEN.out]
 ·have hA : cur.toList.take (i * 6) = xs.take (i * 6) := by rw [← HX.out, List.take_take, Nat.min_eq_left (by omega)]
  have h1 := ZcM cur.toList (xs.take (i * 6)) el (xs.drop (i * 6)) (i * 6) hA (by simp [hxl]; omega) (by simp [HL.out, HCS.out]; omega)
  have e1 : i * 6 + el.length = (i + 1) * 6 := by rw [HL.out]; omega
  have e2 : (i + 1) * 6 + (xs.drop (i * 6)).length = (n + 1) * 6 := by simp [hxl]; omega
  rw [e1, e2] at h1;rw [List.append_assoc] at h1;simpa using h1
 ·intro b hb;exact .inl hb
theorem Zr5 {w : World} {v : Value} {n i c V : Nat} {xs el : List Value} {tV : TypeId} {cV : Array Value} (own : w.ownsRow 0 111 6 v n xs) (hl : el.length = 6) (he : ∀ j u, el[j]? = some u → w.cell? ((⟨V, 0, none⟩ : Addr).add j) = some u) (h1 : ∀ u ∈ el, u.oneCell' = true) (hx1 : ∀ u ∈ xs, u.oneCell' = true) (hn : n ≤ 1000) (hi : i ≤ n) (hV : Has w V tV cV) (hag : v.ownBlock ≠ some V) :
 Calls Tryz.prog 130 #[v, .int .i64 ((i : Nat) : Int), .slice (some ⟨V, 0, none⟩) 1 c] w (ZbW w v 111 6 (n + 1) (xs.take (i * 6) ++ el ++ xs.drop (i * 6))) := by
 have hxl := own.1
 by_cases e : i = n
 ·subst e;have h := ZjB own hl he h1 hn (c := c);rw [List.take_of_length_le (by omega), List.drop_eq_nil_of_le (by omega), List.append_nil]
  exact h
 ·rcases own.2 with ⟨_, h2⟩ | ⟨g, cap, cur, rfl, hb, hg, hnc, hcm, hcs, htk⟩
  ·omega
  ·have hag' : V ≠ g := fun h => hag (by subst h; rfl)
   by_cases hc : n = cap
   ·subst hc;exact Zmo hg htk hxl hl he h1 hx1 hn (by omega)
   ·exact Zmp hg hcs htk hxl hl he h1 hx1 hn (by omega) (by omega) hcm hag' hV
theorem Zdv : (Tryz.prog.info? 216).map (fun i => (i.zero, i.size, i.bytes)) = some (some (.agg #[.string ⟨#[]⟩, .slice none 0 0]), 2, 40) := by kernel_rfl
theorem ZnP {w : World} {v : Value} {n c : Nat} {xs el : List Value} {ad : Addr} (own : w.ownsRow 0 216 2 v n xs) (hl : el.length = 2) (he : ∀ j u, el[j]? = some u → w.cell? (ad.add j) = some u) (h1 : ∀ u ∈ el, u.oneCell' = true) (hn : n ≤ 1000) :
 Calls Tryz.prog 151 #[v, .int .i64 ((n : Nat) : Int), .slice (some ad) 1 c] w (ZbW w v 216 2 (n + 1) (xs ++ el)) := by
 obtain ⟨i0, hi0, hz0, hz1, hz2⟩ := info_parts Zdv;obtain ⟨va, vc, rfl⟩ := Zac own;have HO := Lib.hid own;have HE := Lib.hid he;have HL := Lib.hid hl;clear own he hl
 go_enter Tryz.func151, Tryz.ntmps151
 go_wp2_with (first | (at_builtin; refine Zb4 rfl (.tmp 23) (.tmp 24) 177 177 rfl 216 i0 (.agg #[.string ⟨#[]⟩, .slice none 0 0]) 2 40 Tryz.underlying177 Tryz.underlying177 hi0 hz0 hz1 hz2 rfl (by decide) (.slice va n vc) n xs rfl HO.out ad 1 c el rfl HL.out HE.out h1 (by unfold maxLen; omega) (by omega) ?_; intro v' w1 hown' hgrow hnil hfresh))
 all_goals
  go_wp2;go_ret;exact ⟨_, rfl, hown', (Upd.refl _ _).grown hgrow (fun k hk => .inl (by revert hk; cases va <;> exact id)), fun b hb => (hfresh b hb).imp (by cases va <;> exact id) id⟩
theorem Zmq {w : World} {g n i c : Nat} {xs el : List Value} {ad : Addr} {cur : Array Value} (hg : Has w g 216 cur) (hx : cur.toList.take (n * 2) = xs) (hxl : xs.length = n * 2) (hl : el.length = 2) (he : ∀ j u, el[j]? = some u → w.cell? (ad.add j) = some u) (h1 : ∀ u ∈ el, u.oneCell' = true) (hx1 : ∀ u ∈ xs, u.oneCell' = true) (hn : n ≤ 1000) (hi : i < n) :
 Calls Tryz.prog 151 #[.slice (some ⟨g, 0, none⟩) n n, .int .i64 ((i : Nat) : Int), .slice (some ad) 1 c] w (ZbW w (.slice (some ⟨g, 0, none⟩) n n) 216 2 (n + 1) (xs.take (i * 2) ++ el ++ xs.drop (i * 2))) := by
 obtain ⟨i0, hi0, hz0, hz1, hz2⟩ := info_parts Zdv;have HE := Lib.hid he;have HL := Lib.hid hl;have HG := Lib.hid hg;have HX := Lib.hid hx;clear hg he hl hx;have e1 : ((i : Int) == (n : Int)) = false := by rw [beq_eq_false_iff_ne]; omega
 have e2 : ¬ n = i := by omega
 have e3 : ¬ i = n := by omega
 have hcell : ∀ j u, xs[j]? = some u → w.cell? ⟨g, j, none⟩ = some u := by
  intro j u hj;rw [HG.out.cell j];have hlt : j < n * 2 := by rw [← hxl]; exact (List.getElem?_eq_some_iff.1 hj).1
  rw [← HX.out, List.getElem?_take_of_lt hlt] at hj;simpa using hj
 have holds : ∀ j u, (xs.take (i * 2))[j]? = some u → w.cell? ((⟨g, 0, none⟩ : Addr).add j) = some u := by
  intro j u hj;have h2 : xs[j]? = some u := by
   have hlt : j < i * 2 := by
    have := (List.getElem?_eq_some_iff.1 hj).1;simp at this;omega
   rwa [List.getElem?_take_of_lt hlt] at hj
  have := hcell j u h2;rwa [show (⟨g, 0, none⟩ : Addr).add j = ⟨g, j, none⟩ from by unfold Addr.add; split <;> simp_all]
 have HCELL := Lib.hid hcell;have HOLDS := Lib.hid holds;have em : i + (n + 1 - i) = n + 1 := by omega
 have hgl := HG.out.lt;clear hcell holds;have EM := Lib.hid em;have HSZ : Hid ((Tryz.prog.info? 216).map (·.size) = some 2) := Lib.hid (by rw [hi0]; simp [hz1])
 clear em
 go_enter Tryz.func151, Tryz.ntmps151
 go_wp2_with (first | (at_builtin; refine ZbD rfl (.tmp 34) (.tmp 39) 177 3 rfl 216 i0 (.agg #[.string ⟨#[]⟩, .slice none 0 0]) .i64 2 40 Tryz.underlying177 Tryz.underlying3 hi0 hz0 hz1 hz2 rfl (by decide) ⟨g, 0, none⟩ i n rfl (xs.take (i * 2)) (by simp [hxl]; omega) HOLDS.out (n + 1 - i) (by rw [show ((n + 1 - i : Nat) : Int) = (n : Int) + 1 - (i : Int) from by omega]; rfl) (by omega) (by omega) (by omega) (by omega) ?_; rw [EM.out]; intro C cur1 w1 hC hC2 hcl hct hcg hO; have hcl2 : i * 2 + 2 ≤ cur1.length := (by rw [hcl.out]; omega); refine Hid.out ?_))
 show wpList _ _ _ _ _ _
 go_wp2_with (first | (refine Zat rfl (.tmp 43) (.tmp 44) 177 177 rfl 216 2 Tryz.underlying177 HSZ.out w.heap.size (i * 2) (n + 1 - i) (C - i) ad 1 c rfl rfl cur1 216 hcg.out el 1 (Nat.min_eq_left (by omega)) (by rw [HL.out]) (fun j v hv => Old.cellOf' hO.out (HE.out j v hv)) (by rw [HL.out]; exact hcl2) h1 ?_; intro w2 hcg2 hU2; refine Hid.out ?_))
 show wpList _ _ _ _ _ _;have hsrc : Hid (∀ j u, (xs.drop (i * 2))[j]? = some u → w2.drew.cell? ((⟨g, i * 2, none⟩ : Addr).add j) = some u) := by
  intro j u hj;rw [List.getElem?_drop] at hj;have h0 := Old.cellOf' hO.out (HCELL.out _ _ hj);have h3 := hU2.out.cellOf h0 (by omega)
  rw [show (⟨g, i * 2, none⟩ : Addr).add j = ⟨g, i * 2 + j, none⟩ from by unfold Addr.add; split <;> simp_all]
  exact h3
 go_wp2_with fail
 have g1 : IntKind.i64.wrap ((i : Int) + 1) = (i : Int) + 1 := IntWalk.i64_in _ (by omega)
 have g2 : (0 : Int) ≤ (i : Int) + 1 := by omega
 have g3 : ((i : Int) + 1).toNat = i + 1 := by omega
 have g4 : (i : Int) + 1 ≤ (n : Int) + 1 := by omega
 have g5 : ¬ C = i + 1 := by omega
 have g6 : ¬ i + 1 = C := by omega
 have g7 : (i : Int) ≤ (n : Int) := by omega
 have g8 : i + 1 ≤ n + 1 := by omega
 have g9 : i ≤ n := by omega
 have g10 : n + 1 ≤ C := hC;have g11 : ¬ C ≤ i + 1 := by omega
 have g12 : ¬ n ≤ i := by omega
 go_still_tail 8, (by kernel_rfl)
 change wpList _ _ _ _ _ w2.drew;have hlen : (splice cur1 (i * 2) el).length = C * 2 := by rw [length_splice _ _ _ (by rw [HL.out]; exact hcl2), hcl.out]
 refine Zat rfl (.tmp 50) (.tmp 53) 177 177 rfl 216 2 Tryz.underlying177 HSZ.out w.heap.size ((i + 1) * 2) _ _ ⟨g, i * 2, none⟩ (n - i) (n - i) rfl rfl (splice cur1 (i * 2) el) 216 (by exact hcg2.out) (xs.drop (i * 2)) (n - i) (Nat.min_eq_left (by omega)) (by simp [hxl]; omega) hsrc.out (by rw [hlen]; simp [hxl]; omega) (fun v hv => hx1 v (List.mem_of_mem_drop hv)) ?_
 intro w3 hcg3 hU3;go_wp2;go_ret;refine ⟨_, rfl, ⟨?_, .inr ⟨w.heap.size, C, (splice (splice cur1 (i * 2) el) ((i + 1) * 2) (xs.drop (i * 2))).toArray, rfl, Nat.zero_le _, hcg3.out, hC, hC2, ?_, ?_⟩⟩, ?_, ?_⟩
 ·simp [hxl, HL.out]; omega
 ·simp only [List.size_toArray];rw [length_splice _ _ _ (by rw [hlen]; simp [hxl]; omega), hlen]
 ·have h1 := Zdt cur1 (xs.take (i * 2)) el (xs.drop (i * 2)) (i * 2) hct.out (by simp [hxl]; omega)
  have e1 : i * 2 + el.length = (i + 1) * 2 := by rw [HL.out]; omega
  have e2 : (i + 1) * 2 + (xs.drop (i * 2)).length = (n + 1) * 2 := by simp [hxl]; omega
  rw [e1, e2] at h1;rw [List.append_assoc] at h1;simpa using h1
 ·exact (((hO.out.mono (fun _ _ h => h.elim)).after hU2.out (fun b hb hf => by omega)).drew).after hU3.out (fun b hb hf => by omega)
 ·intro b hb;have : w.heap.size = b := by simpa [Value.ownBlock] using hb
  exact .inr (by omega)
theorem Zmr {w : World} {g n i c cap : Nat} {xs el : List Value} {V : Nat} {tV : TypeId} {cV : Array Value} {cur : Array Value} (hg : Has w g 216 cur) (hcs : cur.size = cap * 2) (hx : cur.toList.take (n * 2) = xs) (hxl : xs.length = n * 2) (hl : el.length = 2) (he : ∀ j u, el[j]? = some u → w.cell? ((⟨V, 0, none⟩ : Addr).add j) = some u) (h1 : ∀ u ∈ el, u.oneCell' = true) (hx1 : ∀ u ∈ xs, u.oneCell' = true) (hn : n ≤ 1000) (hi : i < n) (hcap : n + 1 ≤ cap) (hcm : cap ≤ maxLen) (hag : V ≠ g) (hV : Has w V tV cV) :
 Calls Tryz.prog 151 #[.slice (some ⟨g, 0, none⟩) n cap, .int .i64 ((i : Nat) : Int), .slice (some ⟨V, 0, none⟩) 1 c] w (ZbW w (.slice (some ⟨g, 0, none⟩) n cap) 216 2 (n + 1) (xs.take (i * 2) ++ el ++ xs.drop (i * 2))) := by
 obtain ⟨i0, hi0, hz0, hz1, hz2⟩ := info_parts Zdv;have HE := Lib.hid he;have HL := Lib.hid hl;have HG := Lib.hid hg;have HX := Lib.hid hx;have HCS := Lib.hid hcs;clear hg he hl hx hcs;have HV := Lib.hid hV;clear hV;unfold maxLen at hcm;have hov : (callFunc 192 #[.slice (some ⟨V, 0, none⟩) 1 c, .slice (some ⟨g, (i + 1) * 2, none⟩) (n - i) (cap - (i + 1))]).run Tryz.prog w = .ok (.value (.bool false)) w :=
  Zcd (fn := Tryz.f192) (by kernel_rfl) (by kernel_rfl) (by kernel_rfl) (by kernel_rfl) (g := Extern.SlicesOverlaps.overlaps #[177, 177] #[4]) (by kernel_rfl) (Zcs rfl Tryz.underlying177 hi0 HG.out HV.out hag _ _ _ _ _ _)
 have e1 : ((i : Int) == (n : Int)) = false := by rw [beq_eq_false_iff_ne]; omega
 have e2 : ¬ n = i := by omega
 have e3 : ¬ i = n := by omega
 have e4 : ¬ cap < n + 1 := by omega
 have e5 : ¬ (cap : Int) < (n : Int) + 1 := by omega
 have e6 : ¬ cap = i := by omega
 have e7 : ¬ cap = i + 1 := by omega
 go_enter Tryz.func151, Tryz.ntmps151
 have HSZ : Hid ((Tryz.prog.info? 216).map (·.size) = some 2) := Lib.hid (by rw [hi0]; simp [hz1])
 have hcell : ∀ j u, xs[j]? = some u → w.cell? ⟨g, j, none⟩ = some u := by
  intro j u hj;rw [HG.out.cell j];have hlt : j < n * 2 := by rw [← hxl]; exact (List.getElem?_eq_some_iff.1 hj).1
  rw [← HX.out, List.getElem?_take_of_lt hlt] at hj;simpa using hj
 have hsrc : Hid (∀ j u, (xs.drop (i * 2))[j]? = some u → w.drew.cell? ((⟨g, i * 2, none⟩ : Addr).add j) = some u) := by
  intro j u hj;rw [List.getElem?_drop] at hj;have h0 := hcell _ _ hj;rw [show (⟨g, i * 2, none⟩ : Addr).add j = ⟨g, i * 2 + j, none⟩ from by unfold Addr.add; split <;> simp_all]
  exact h0
 clear hcell
 go_wp2_with fail
 have g1 : IntKind.i64.wrap ((i : Int) + 1) = (i : Int) + 1 := IntWalk.i64_in _ (by omega)
 have g2 : (0 : Int) ≤ (i : Int) + 1 := by omega
 have g3 : ((i : Int) + 1).toNat = i + 1 := by omega
 have g4 : (i : Int) + 1 ≤ (n : Int) + 1 := by omega
 have g5 : ¬ cap = i + 1 := by omega
 have g6 : ¬ i + 1 = cap := by omega
 have g7 : (i : Int) ≤ (n : Int) := by omega
 have g8 : i + 1 ≤ n + 1 := by omega
 have g9 : i ≤ n := by omega
 have g11 : ¬ cap ≤ i + 1 := by omega
 have g12 : ¬ n ≤ i := by omega
 have g13 : (i : Int) ≤ (n : Int) + 1 := by omega
 have g14 : i ≤ n + 1 := by omega
 have g15 : ¬ cap ≤ i := by omega
 clear hov
 go_still_tail 8, (by kernel_rfl)
 change wpList _ _ _ _ _ w.drew;refine Zat rfl (.tmp 73) (.tmp 76) 177 177 rfl 216 2 Tryz.underlying177 HSZ.out g ((i + 1) * 2) _ _ ⟨g, i * 2, none⟩ _ _ rfl rfl cur.toList 216 (by simpa using HG.out.drew) (xs.drop (i * 2)) (n - i) ?x1 (by simp [hxl]; omega) hsrc.out (by simp [hxl, HCS.out]; omega) (fun v hv => hx1 v (List.mem_of_mem_drop hv)) ?_
 case x1 => show min _ _ = _; omega
 intro w2 hcg2 hU2;have hlen : (splice cur.toList ((i + 1) * 2) (xs.drop (i * 2))).length = cap * 2 := by rw [length_splice _ _ _ (by simp [hxl, HCS.out]; omega)]; simp [HCS.out]
 have hE2 : Hid (∀ j u, el[j]? = some u → w2.cell? ((⟨V, 0, none⟩ : Addr).add j) = some u) := by
  intro j u hj;have h0 := HE.out j u hj;have hb : ((⟨V, 0, none⟩ : Addr).add j) = ⟨V, j, none⟩ := by unfold Addr.add; split <;> simp_all
  rw [hb] at h0 ⊢;exact hU2.out.cellOf (w := w.drew) h0 hag
 have HLEN := Lib.hid hlen;clear hlen
 go_wp2_with (first | (refine Zat rfl (.tmp 80) (.tmp 81) 177 177 rfl 216 2 Tryz.underlying177 HSZ.out g (i * 2) _ _ ⟨V, 0, none⟩ 1 c rfl rfl (splice cur.toList ((i + 1) * 2) (xs.drop (i * 2))) 216 hcg2.out el 1 (Nat.min_eq_left (by omega)) (by rw [HL.out]) hE2.out (by rw [HL.out, HLEN.out]; omega) h1 ?_; intro w3 hcg3 hU3))
 go_ret;have hUd : Upd (fun b => (Value.slice (some ⟨g, 0, none⟩) n cap).ownBlock = some b) w w3 := (((Upd.refl _ w).drew).after hU2.out (fun b hb hf => by subst hf; rfl)).after hU3.out (fun b hb hf => by subst hf; rfl)
 refine ⟨_, rfl, ⟨?_, .inr ⟨g, cap, (splice (splice cur.toList ((i + 1) * 2) (xs.drop (i * 2))) (i * 2) el).toArray, rfl, Nat.zero_le _, hcg3.out, hcap, hcm, ?_, ?_⟩⟩, hUd, ?_⟩
 ·simp [hxl, HL.out]; omega
 ·simp only [List.size_toArray];rw [length_splice _ _ _ (by rw [HLEN.out, HL.out]; omega), HLEN.out]
 ·have hA : cur.toList.take (i * 2) = xs.take (i * 2) := by rw [← HX.out, List.take_take, Nat.min_eq_left (by omega)]
  have h1 := ZcM cur.toList (xs.take (i * 2)) el (xs.drop (i * 2)) (i * 2) hA (by simp [hxl]; omega) (by simp [HL.out, HCS.out]; omega)
  have e1 : i * 2 + el.length = (i + 1) * 2 := by rw [HL.out]; omega
  have e2 : (i + 1) * 2 + (xs.drop (i * 2)).length = (n + 1) * 2 := by simp [hxl]; omega
  rw [e1, e2] at h1;rw [List.append_assoc] at h1;simpa using h1
 ·intro b hb;exact .inl hb
theorem Zr6 {w : World} {v : Value} {n i c V : Nat} {xs el : List Value} {tV : TypeId} {cV : Array Value} (own : w.ownsRow 0 216 2 v n xs) (hl : el.length = 2) (he : ∀ j u, el[j]? = some u → w.cell? ((⟨V, 0, none⟩ : Addr).add j) = some u) (h1 : ∀ u ∈ el, u.oneCell' = true) (hx1 : ∀ u ∈ xs, u.oneCell' = true) (hn : n ≤ 1000) (hi : i ≤ n) (hV : Has w V tV cV) (hag : v.ownBlock ≠ some V) :
 Calls Tryz.prog 151 #[v, .int .i64 ((i : Nat) : Int), .slice (some ⟨V, 0, none⟩) 1 c] w (ZbW w v 216 2 (n + 1) (xs.take (i * 2) ++ el ++ xs.drop (i * 2))) := by
 have hxl := own.1
 by_cases e : i = n
 ·subst e;have h := ZnP own hl he h1 hn (c := c);rw [List.take_of_length_le (by omega), List.drop_eq_nil_of_le (by omega), List.append_nil]
  exact h
 ·rcases own.2 with ⟨_, h2⟩ | ⟨g, cap, cur, rfl, hb, hg, hnc, hcm, hcs, htk⟩
  ·omega
  ·have hag' : V ≠ g := fun h => hag (by subst h; rfl)
   by_cases hc : n = cap
   ·subst hc;exact Zmq hg htk hxl hl he h1 hx1 hn (by omega)
   ·exact Zmr hg hcs htk hxl hl he h1 hx1 hn (by omega) (by omega) hcm hag' hV
end Go.M
