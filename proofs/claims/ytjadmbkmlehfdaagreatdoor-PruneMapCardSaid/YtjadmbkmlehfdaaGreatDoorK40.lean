/- Walks 40. -/
import Derived.Test.YtjadmbkmlehfdaaGreatDoorProg
import Derived.Test.YtjadmbkmlehfdaaGreatDoorK29
import Derived.Test.YtjadmbkmlehfdaaGreatDoorK26
import Derived.Test.YtjadmbkmlehfdaaGreatDoorK20
import Derived.Test.YtjadmbkmlehfdaaGreatDoorK21
set_option linter.unusedVariables false
set_option linter.unusedSimpArgs false
set_option maxRecDepth 100000
namespace Go.M
open Go.Proofs Go.RowKit
set_option linter.unusedSimpArgs false
def NewI (w : World) (m : ImgS) (e : Ending) (w' : World) : Prop := ∃ v, e = .returned (.pointer (some ⟨w.heap.size, 0, none⟩)) ∧ Has w' w.heap.size 265 #[v, .int .i64 ((m.sz : Nat) : Int), .int .i64 ((m.dur : Nat) : Int)] ∧ w'.ownsRow 0 5 1 v m.bs.length (m.bs.map bcell) ∧ (∀ b, v.ownBlock = some b → w.heap.size < b) ∧ Old w w'
theorem icopy {w : World} {M : Nat} {v : Value} {m : ImgS} (h : ImgAt w M v m) :
 Calls Tryz.prog 193 #[.pointer (some ⟨M, 0, none⟩)] w (NewI w m) := by
 obtain ⟨⟨t, hM⟩, own, h3, h4, h5, h6⟩ := h
 have m0 : w.cell? ⟨M, 0, none⟩ = some v := hM.cell 0
 have m1 : w.cell? ⟨M, 1, none⟩ = some (.int .i64 ((m.sz : Nat) : Int)) := hM.cell 1
 have m2 : w.cell? ⟨M, 2, none⟩ = some (.int .i64 ((m.dur : Nat) : Int)) := hM.cell 2
 have hl := hM.lt
 have HC := Lib.hid (fun (W : World) (U : Old w W) => clone_walk (own_bytes (U.own own (fun _ _ x => x))) (by omega))
 obtain ⟨va, vc, rfl⟩ := own_slice own
 have q1 : 0 < m.sz := by omega
 clear own hM
 go_enter Tryz.func193, Tryz.ntmps193
 go_wp2_with (first | (go_at_call 210; refine (HC.out _ ?_).mono ?_; (exact (Upd.refl _ w).alloc _); rintro e w1 ⟨v1, rfl, hown, hO, hfr⟩; have hN := Old.has hO (Has.new w 265 #[.slice va m.bs.length vc, .int .i64 ((m.sz : Nat) : Int), .int .i64 ((m.dur : Nat) : Int)]); have k0 : w1.cell? ⟨w.heap.size, 0, none⟩ = some (.slice va m.bs.length vc) := hN.cell 0; have kf := hN.frozen 0; have H1 := Lib.hid (And.intro hN (And.intro hown (And.intro hO hfr))); clear hN hown hO hfr; obtain ⟨a1, c1, rfl⟩ := own_slice H1.out.2.1) | go_in)
 go_ret
 obtain ⟨hN, hown, hO, hfr⟩ := H1.out
 have hfr' : ∀ b, (Value.slice a1 m.bs.length c1).ownBlock = some b → w.heap.size < b := fun b hb => by have := hfr b hb; simp at this; omega
 have U := (Upd.refl (fun b => b = w.heap.size) w1).setCell ⟨w.heap.size, 0, none⟩ (.slice a1 m.bs.length c1) (.inl rfl)
 refine ⟨_, rfl, by simpa using hN.set 0 (.slice a1 m.bs.length c1), U.own hown (fun b hb e => by have := hfr' b hb; omega), hfr', (((Upd.refl _ w).alloc _).trans hO).setCell _ _ (.inr (Nat.le_refl _))⟩
theorem tm_copy {w : World} {T : Nat} (t0 : w.cell? ⟨T, 0, none⟩ = some (.bool true)) (t1 : w.cell? ⟨T, 1, none⟩ = some (.pointer none)) :
 Calls Tryz.prog 112 #[.pointer (some ⟨T, 0, none⟩)] w fun e w' => e = .returned (.pointer (some ⟨w.heap.size, 0, none⟩)) ∧ Has w' w.heap.size 184 #[.bool true, .pointer none] ∧ Old w w' := by
 have hTl := World.block_lt_of_cell? w _ t0
 simp only at hTl
 go_enter Tryz.func112, Tryz.ntmps112
 go_wp2_with (first | (go_at_call 194; refine (plan_none (by go_simp)).mono ?_; rintro e w2 ⟨rfl, rfl⟩) | go_in)
 go_ret
 exact ⟨rfl, ((Has.new w _ _).alloc _).alloc _, (((Upd.refl _ w).alloc _).alloc _).alloc _⟩
structure DcI (w0 w : World) (img : Nat → ImgS) (D k : Nat) (M : Nat → Nat) (V : Nat → Value) (v : Value) : Prop where
 hD : Has w D 241 #[v]
 row : w.ownsRow 0 180 1 v k ((List.range k).map fun j => .pointer (some ⟨M j, 0, none⟩))
 im : ∀ j, j < k → Has w (M j) 265 #[V j, .int .i64 (((img j).sz : Nat) : Int), .int .i64 (((img j).dur : Nat) : Int)]
 by_ : ∀ j, j < k → w.ownsRow 0 5 1 (V j) (img j).bs.length ((img j).bs.map bcell)
 new : ∀ j, j < k → D < M j
 inc : ∀ i j, i < j → j < k → M i < M j
 vb : ∀ i b, i < k → (V i).ownBlock = some b → M i < b
 vi : ∀ i j b, i < j → j < k → (V i).ownBlock = some b → b < M j
 rnew : ∀ b, v.ownBlock = some b → D < b
 old : Old w0 w
theorem has_types {w : World} {b : Nat} {t t' : TypeId} {c c' : Array Value} (h : Has w b t c) (h' : Has w b t' c') : t = t' := by
 unfold Has at h h'
 rw [h] at h'
 injection h' with h'
 injection h' with _ h2 _
theorem DcI.put {w0 wr w1 w2 : World} {img : Nat → ImgS} {D k vc : Nat} {va : Option Addr} {M V : _} {v1 v2 : Value} {o : Obj} (h : DcI w0 wr img D k M V (.slice va k vc)) (hD0 : w0.heap.size ≤ D)
 (i1 : Has w1 wr.heap.size 265 #[v1, .int .i64 (((img k).sz : Nat) : Int), .int .i64 (((img k).dur : Nat) : Int)]) (i2 : w1.ownsRow 0 5 1 v1 (img k).bs.length ((img k).bs.map bcell)) (i3 : ∀ b, v1.ownBlock = some b → wr.heap.size < b) (U1 : Old wr w1)
 (hown : w2.ownsRow 0 180 1 v2 (k + 1) ((List.range k).map (fun j => .pointer (some ⟨M j, 0, none⟩)) ++ [.pointer (some ⟨wr.heap.size, 0, none⟩)])) (hg : (w1.alloc o).grownBy w2 (Value.slice va k vc).ownBlock) (hfr : ∀ b, v2.ownBlock = some b → (Value.slice va k vc).ownBlock = some b ∨ (w1.alloc o).heap.size ≤ b) :
 DcI w0 (w2.setCell ⟨D, 0, none⟩ v2) img D (k + 1) (fun j => if j = k then wr.heap.size else M j) (fun j => if j = k then v1 else V j) v2 := by
 have hDl := h.hD.lt
 have s1 := U1.size
 have U2 : Upd (fun b => (Value.slice va k vc).ownBlock = some b) wr w2 := (((U1.mono (fun _ _ x => x.elim)).alloc o).grown hg (fun k hk => .inl hk))
 have U12 : Upd (fun b => (Value.slice va k vc).ownBlock = some b) w1 w2 := (((Upd.refl _ w1).alloc o).grown hg (fun k hk => .inl hk))
 have hrow : ∀ b, (Value.slice va k vc).ownBlock = some b → b < wr.heap.size := fun b hb => own_lt' h.row hb
 have hrt : ∀ b t c, (Value.slice va k vc).ownBlock = some b → Has wr b t c → t = 180 := fun b t c hb hh => by
  obtain ⟨cur, hcur⟩ := own_has h.row hb
  exact has_types hh hcur
 have nM : ∀ j, j < k → ¬ (Value.slice va k vc).ownBlock = some (M j) := fun j hj e => by have := hrt _ _ _ e (h.im j hj); revert this; decide
 have nV : ∀ j b, j < k → (V j).ownBlock = some b → ¬ (Value.slice va k vc).ownBlock = some b := fun j b hj hb e => by
  obtain ⟨cur, hcur⟩ := own_has (h.by_ j hj) hb
  have := hrt _ _ _ e hcur; revert this; decide
 have nD : ¬ (Value.slice va k vc).ownBlock = some D := fun e => by have := h.rnew _ e; omega
 have U3 := (Upd.refl (fun b => b = D) w2).setCell ⟨D, 0, none⟩ v2 (.inl rfl)
 have hfr2 : ∀ b, v2.ownBlock = some b → D < b := fun b hb => by
  rcases hfr b hb with e | e
  ·exact h.rnew b e
  ·simp at e; omega
 have hD2 := U2.has h.hD nD
 refine ⟨by simpa using hD2.set 0 v2, ?_, fun j hj => ?_, fun j hj => ?_, fun j hj => ?_, fun i j hij hj => ?_, fun i b hi hb => ?_, fun i j b hij hj hb => ?_, hfr2, ((h.old.after U2 (fun b hb e => by have := h.rnew b e; omega)).after U3 (fun b hb e => by omega))⟩
 ·have h2 := U3.own hown (fun b hb e => by have := hfr2 b hb; omega)
  have e : ((List.range (k + 1)).map fun j => Value.pointer (some ⟨(if j = k then wr.heap.size else M j), 0, none⟩)) = (List.range k).map (fun j => Value.pointer (some ⟨M j, 0, none⟩)) ++ [.pointer (some ⟨wr.heap.size, 0, none⟩)] := by
   rw [List.range_succ, List.map_append]
   congr 1
   ·refine List.map_congr_left fun j hj => ?_
    have : j ≠ k := by have := List.mem_range.1 hj; omega
    simp [this]
   ·simp
  rw [e]
  exact h2
 ·(try simp only)
  by_cases e : j = k
  ·subst e
   simp only [if_true]
   exact U3.has (U12.has i1 (fun e => by have := hrow _ e; omega)) (by omega)
  ·simp only [if_neg e]
   have := h.new j (by omega)
   exact U3.has (U2.has (h.im j (by omega)) (nM j (by omega))) (by omega)
 ·by_cases e : j = k
  ·subst e
   simp only [if_true]
   exact U3.own (U12.own i2 (fun b hb e => by have := i3 b hb; have := hrow b e; omega)) (fun b hb e => by have := i3 b hb; omega)
  ·simp only [if_neg e]
   have hk2 : j < k := by omega
   exact U3.own (U2.own (h.by_ j hk2) (fun b hb => nV j b hk2 hb)) (fun b hb e => by have := h.vb j b hk2 hb; have := h.new j hk2; omega)
 ·by_cases e : j = k
  ·simp only [if_pos e]; omega
  ·simp only [if_neg e]; exact h.new j (by omega)
 ·have hi : i ≠ k := by omega
  by_cases e : j = k
  ·simp only [if_pos e, if_neg hi]
   exact (h.im i (by omega)).lt
  ·simp only [if_neg e, if_neg hi]
   exact h.inc i j hij (by omega)
 ·by_cases e : i = k
  ·simp only [if_pos e] at hb ⊢
   exact i3 b hb
  ·simp only [if_neg e] at hb ⊢
   exact h.vb i b (by omega) hb
 ·have hi : i ≠ k := by omega
  simp only [if_neg hi] at hb
  by_cases e : j = k
  ·simp only [if_pos e]
   exact own_lt' (h.by_ i (by omega)) hb
  ·simp only [if_neg e]
   exact h.vi i j b hij (by omega) hb
def DcR (w : World) (img : Nat → ImgS) (n : Nat) (i : Value) (wr : World) : Prop := ∃ (k : Nat) (M' : Nat → Nat) (V' : Nat → Value) (v : Value), k ≤ n + 2 ∧ i = .int .i64 k ∧ DcI w wr img w.heap.size k M' V' v
theorem dsk_made {w : World} {K n : Nat} {a : Option Addr} {cap : Nat} (k0 : w.cell? ⟨K, 0, none⟩ = some (.slice a (n + 2) cap)) :
 Calls Tryz.prog 192 #[.pointer (some ⟨K, 0, none⟩)] w fun e w' => e = .returned (.bool true) ∧ w = w' := by
 have g1 : (0 : Int) < (n : Int) + 2 := by omega
 go_enter Tryz.func192, Tryz.ntmps192
 go_wp2
 go_ret
 exact ⟨by simp [g1], rfl⟩
set_option maxHeartbeats 1000000 in
theorem disk_copy {w : World} {K S cap n : Nat} {img : Nat → ImgS} {M : Nat → Nat} {V : Nat → Value} (k0 : w.cell? ⟨K, 0, none⟩ = some (.slice (some ⟨S, 0, none⟩) (n + 2) cap)) (fs : ∀ i, i < n + 2 → w.cell? ⟨S, i, none⟩ = some (.pointer (some ⟨M i, 0, none⟩))) (fm : ∀ i, i < n + 2 → ImgAt w (M i) (V i) (img i)) (hn : n ≤ 32) :
 Calls Tryz.prog 111 #[.pointer (some ⟨K, 0, none⟩)] w fun e w' => e = .returned (.pointer (some ⟨w.heap.size, 0, none⟩)) ∧ ∃ M' V' v', DcI w w' img w.heap.size (n + 2) M' V' v' := by
 have HFS := Lib.hid fs
 have HFM := Lib.hid (fun (W : World) (U : Old w W) (i : Nat) (hi : i < n + 2) => icopy (w := W) (M := M i) (v := V i) (m := img i) (by
  obtain ⟨⟨t, hM⟩, own, h3, h4, h5, h6⟩ := fm i hi
  exact ⟨⟨t, U.has hM⟩, U.own own (fun _ _ x => x), h3, h4, h5, h6⟩))
 have hKl := World.block_lt_of_cell? w _ k0
 simp only at hKl
 clear fs fm
 obtain ⟨i0, hi0, hz0, hz1, hz2⟩ := info_parts info_pimg
 have g1 : (0 : Int) < (n : Int) + 2 := by omega
 go_enter Tryz.func111, Tryz.ntmps111
 go_wp2_with (first | (go_at_call 192; refine (dsk_made k0).mono ?_; rintro e w1 ⟨rfl, rfl⟩) | go_in)
 have hD0 : Has (w.alloc (.cells #[.slice none 0 0] 241)) w.heap.size 241 #[.slice none 0 0] := Has.new _ _ _
 have O0 : Old w (w.alloc (.cells #[.slice none 0 0] 241)) := (Upd.refl _ w).alloc _
 have hl0 : w.heap.size < (w.alloc (.cells #[.slice none 0 0] 241)).heap.size := by simp
 generalize w.alloc (.cells #[.slice none 0 0] 241) = W at *
 go_loopw [16] (fun i wr => DcR w img n i wr) (fun i _ => n + 2 - (intOf i).toNat)
 case atStart => exact ⟨0, fun _ => 0, fun _ => .slice none 0 0, .slice none 0 0, Nat.zero_le _, rfl, ⟨hD0, World.ownsRow_nil _ _ _ _, fun j hj => by omega, fun j hj => by omega, fun j hj => by omega, fun i j _ hj => by omega, fun i _ h => by omega, fun i j _ _ h => by omega, fun b hb => (by cases hb), O0⟩⟩
 case round =>
  obtain ⟨k, M', V', v, hk, rfl, hA⟩ := hrel
  clear hD0 O0 hl0
  have HA := Lib.hid hA
  by_cases hkn : k < n + 2
  ·have ck := Old.cellOf' hA.old (HFS.out k hkn)
   obtain ⟨va, vc, rfl⟩ := own_slice hA.row
   have cD : wr.cell? ⟨w.heap.size, 0, none⟩ = some (.slice va k vc) := hA.hD.cell 0
   have lD : w.heap.size < wr.heap.size := hA.hD.lt
   have lDk : ∀ j, w.heap.size < wr.heap.size + j := fun j => by omega
   have fD : wr.frozen? ⟨w.heap.size, 0, none⟩ = false := hA.hD.frozen 0
   clear hA
   go_wp2
   refine wp_only ?_
   refine wp_region_held (S := fun x' => True) (by kernel_rfl) ?_
   have hS : True := trivial
   refine wpAnyH_take (i := 0) (v := .pointer (some ⟨w.heap.size, 0, none⟩)) rfl (by kernel_rfl) (by kernel_rfl) (by kernel_rfl) (fun _ _ _ h => h) (Or.inl ⟨by rfl, fun w' s1 => by go_simp⟩) hS ?_
   simp only [Act.put, List.setIfInBounds_toArray, List.set_cons_zero, List.set_cons_succ]
   refine wpAnyH_take (i := 1) (v := .pointer (some ⟨w.heap.size, 0, none⟩)) rfl (by kernel_rfl) (by kernel_rfl) (by kernel_rfl) (fun _ _ _ h => h) (Or.inl ⟨by rfl, fun w' s1 => by go_simp⟩) hS ?_
   simp only [Act.put, List.setIfInBounds_toArray, List.set_cons_zero, List.set_cons_succ]
   refine wpAnyH_take (i := 2) (v := .pointer (some ⟨w.heap.size, 0, none⟩)) rfl (by kernel_rfl) (by kernel_rfl) (by kernel_rfl) (fun _ _ _ h => h) (Or.inl ⟨by rfl, fun w' s1 => by go_simp⟩) hS ?_
   simp only [Act.put, List.setIfInBounds_toArray, List.set_cons_zero, List.set_cons_succ]
   refine wpAnyH_take (i := 3) (v := .pointer (some ⟨w.heap.size, 0, none⟩)) rfl (by kernel_rfl) (by kernel_rfl) (by kernel_rfl) (fun _ _ _ h => h) (Or.inl ⟨by rfl, fun w' s1 => by go_simp⟩) hS ?_
   simp only [Act.put, List.setIfInBounds_toArray, List.set_cons_zero, List.set_cons_succ]
   refine wpAnyH_take (i := 5) (v := .pointer (some ⟨M k, 0, none⟩)) rfl (by kernel_rfl) (by kernel_rfl) (by kernel_rfl) (fun _ _ _ h => h) (Or.inl ⟨by rfl, fun w' s1 => by go_simp⟩) hS ?_
   simp only [Act.put, List.setIfInBounds_toArray, List.set_cons_zero, List.set_cons_succ]
   refine wpAnyH_ready (rs := [4, 6]) (by kernel_rfl) (by simp) ?_
   refine AllReadyH.cons rfl (fun K' hK => ?_) (AllReadyH.cons rfl (fun K' hK => ?_) AllReadyH.nil)
   case' refine_1 =>
    go_simp
    refine hK.out _ _ trivial (fun _ => ?_)
    refine wpAnyH_ready (rs := [6]) (by kernel_rfl) (by simp) ?_
    refine AllReadyH.cons rfl (fun K' hK => ?_) AllReadyH.nil
    go_simp
    refine (HFM.out wr.drew HA.out.old.drew k hkn).mono ?_
    rintro e w1 ⟨v1, rfl, i1, i2, i3, i4⟩
    have U1 : Old wr w1 := Upd.trans ((Upd.refl _ wr).drew) i4
    have cD1 := Old.cellOf' U1 cD
    have HI := Lib.hid (And.intro i1 (And.intro i2 (And.intro i3 U1)))
    clear i1 i2 i3 i4 U1
    refine hK.out _ _ trivial (fun _ => ?_)
    refine wpAnyH_ready (rs := [7]) (by kernel_rfl) (by simp) ?_
    refine AllReadyH.cons rfl (fun K' hK => ?_) AllReadyH.nil
    go_simp
    refine hK.out _ _ trivial (fun _ => ?_)
   case' refine_2 =>
    go_simp
    refine (HFM.out wr.drew HA.out.old.drew k hkn).mono ?_
    rintro e w1 ⟨v1, rfl, i1, i2, i3, i4⟩
    have U1 : Old wr w1 := Upd.trans ((Upd.refl _ wr).drew) i4
    have cD1 := Old.cellOf' U1 cD
    have lD1 := World.block_lt_of_cell? w1 _ cD1
    have HI := Lib.hid (And.intro i1 (And.intro i2 (And.intro i3 U1)))
    clear i1 i2 i3 i4 U1
    refine hK.out _ _ trivial (fun _ => ?_)
    refine wpAnyH_ready (rs := [4, 7]) (by kernel_rfl) (by simp) ?_
    refine AllReadyH.cons rfl (fun K' hK => ?_) (AllReadyH.cons rfl (fun K' hK => ?_) AllReadyH.nil)
   case' refine_2.refine_1 =>
    go_simp
    refine hK.out _ _ trivial (fun _ => ?_)
    refine wpAnyH_ready (rs := [7]) (by kernel_rfl) (by simp) ?_
    refine AllReadyH.cons rfl (fun K' hK => ?_) AllReadyH.nil
    go_simp
    refine hK.out _ _ trivial (fun _ => ?_)
   case' refine_2.refine_2 =>
    go_simp
    refine hK.out _ _ trivial (fun _ => ?_)
    refine wpAnyH_ready (rs := [4]) (by kernel_rfl) (by simp) ?_
    refine AllReadyH.cons rfl (fun K' hK => ?_) AllReadyH.nil
    go_simp
    refine hK.out _ _ trivial (fun _ => ?_)
   all_goals
    refine wpAnyH_ready (rs := [8]) (by kernel_rfl) (by simp) ?_
    refine AllReadyH.cons rfl (fun K' hK => ?_) AllReadyH.nil
    refine wp_append_mk (.tmp 24) (.tmp 27) 239 rfl 180 i0 (.pointer none) 1 8 Tryz.underlying239 hi0 hz0 hz1 hz2 rfl (by decide) (.slice va k vc) k _ rfl (Upd.own ((Upd.refl (fun _ => False) w1).alloc _) (Upd.own HI.out.2.2.2 HA.out.row (fun _ _ x => x)) (fun _ _ x => x)) ⟨w1.heap.size, 0, none⟩ 1 1 [.pointer (some ⟨wr.heap.size, 0, none⟩)] rfl rfl (one_new w1 _ _) (by simp [Value.oneCell']) (by unfold maxLen; omega) (by omega) ?_
    intro v2 w2 hown2 hgrow2 hfresh2
    obtain ⟨a2, c2, rfl⟩ := own_slice hown2
    have hP := HA.out.put (Nat.le_refl _) HI.out.1 HI.out.2.1 HI.out.2.2.1 HI.out.2.2.2 hown2 hgrow2 hfresh2
    have hD2 : ∃ t c0, Has w2 w.heap.size t #[c0] := by
     have U2 : Upd (fun b => (Value.slice va k vc).ownBlock = some b) wr w2 := (((HI.out.2.2.2.mono (fun _ _ x => x.elim)).alloc _).grown hgrow2 (fun k hk => .inl hk))
     exact ⟨_, _, U2.has HA.out.hD (fun e => by have := HA.out.rnew _ e; omega)⟩
    obtain ⟨tD, c0, hD2⟩ := hD2
    have cD2 : w2.cell? ⟨w.heap.size, 0, none⟩ = some c0 := hD2.cell 0
    have fD2 : w2.frozen? ⟨w.heap.size, 0, none⟩ = false := hD2.frozen 0
    have lD2 := hD2.lt
    have HP := Lib.hid hP
    clear hP hD2 hown2 hgrow2 hfresh2
    refine hK.out _ _ trivial (fun _ => ?_)
    refine wpAnyH_take (i := 9) (v := .pointer (some ⟨w.heap.size, 0, none⟩)) rfl (by kernel_rfl) (by kernel_rfl) (by kernel_rfl) (fun _ _ _ h => h) (Or.inl ⟨by rfl, fun w' s1 => by go_simp⟩) hS ?_
    simp only [Act.put, List.setIfInBounds_toArray, List.set_cons_zero, List.set_cons_succ]
    refine wpAnyH_take (i := 10) (v := .pointer (some ⟨w.heap.size, 0, none⟩)) rfl (by kernel_rfl) (by kernel_rfl) (by kernel_rfl) (fun _ _ _ h => h) (Or.inl ⟨by rfl, fun w' s1 => by go_simp⟩) hS ?_
    simp only [Act.put, List.setIfInBounds_toArray, List.set_cons_zero, List.set_cons_succ]
    refine wpAnyH_ready (rs := [11]) (by kernel_rfl) (by simp) ?_
    refine AllReadyH.cons rfl (fun K' hK => ?_) AllReadyH.nil
    go_simp
    refine hK.out _ _ trivial (fun _ => wpAnyH_done (by kernel_rfl) ?_ _)
    refine only_n ?_
    go_wp2
    go_roundw
    case rel => exact ⟨k + 1, _, _, _, by omega, by go_num, HP.out⟩
    case measure => simp [intOf]; omega
  ·obtain rfl : k = n + 2 := by omega
   clear hA
   go_wp2
   go_ret
   exact ⟨rfl, M', V', v, HA.out⟩
def whichV (V : Nat → Value) (k b : Nat) : Option Nat := (List.range k).find? fun i => (V i).ownBlock == some b
theorem whichV_some {V : Nat → Value} {k i b : Nat} (hm : ∀ i j, i < k → j < k → (V i).ownBlock = some b → (V j).ownBlock = some b → i = j) (hi : i < k) (hb : (V i).ownBlock = some b) : whichV V k b = some i := by
 unfold whichV
 rcases h : (List.range k).find? (fun j => (V j).ownBlock == some b) with _ | j
 ·rw [List.find?_eq_none] at h
  have := h i (List.mem_range.2 hi)
  simp [hb] at this
 ·have h1 := List.find?_some h
  have h2 := List.mem_of_find?_eq_some h
  simp only [beq_iff_eq] at h1
  rw [List.mem_range] at h2
  rw [hm i j hi h2 hb h1]
def devColV (q D K S T : Nat) (M : Nat → Nat) (V : Nat → Value) (k : Nat) : Col := fun b => if b = D then (q, 0) else if b = K then (q, 1) else if b = S then (q, 2) else if b = T then (q, 3) else match whichM M k b with | some i => (q, 4 + 2 * i) | none => match whichV V k b with | some i => (q, 5 + 2 * i) | none => (0, 0)
theorem dev_cp_at {w w1 w2 w3 : World} {col : Col} {q D : Nat} {s : DevS} {K S cap T : Nat} {M : Nat → Nat} {V : Nat → Value} (h : DevAt w col q D s K S cap T M V) {M' : Nat → Nat} {V' : Nat → Value} {v' : Value} (hC : DcI w.drew w1 s.img w.heap.size (s.n + 2) M' V' v') (hT : Has w2 w1.heap.size 184 #[.bool true, .pointer none]) (hO : Old w1 w2) (hU : Old w2 w3)
 (hD : Has w3 w2.heap.size 112 #[.pointer (some ⟨w.heap.size, 0, none⟩), .pointer (some ⟨w1.heap.size, 0, none⟩), .int .i64 ((s.n : Nat) : Int), .int .i64 s.ops, .bool s.down]) (q' : Nat) :
 ∃ c, ∀ col', Newly w w3 c col' → ∃ K' S' cap' T' M' V', DevAt w3 col' q' w2.heap.size s K' S' cap' T' M' V' := by
 obtain ⟨g, cap', hv⟩ := own_block hC.row (by omega)
 subst hv
 have hg := hC.rnew g rfl
 have hg1 : g < w1.heap.size := own_lt' hC.row rfl
 have hT1 := hT.lt
 have hUo : Old w1 w3 := Upd.trans hO hU
 have s3 := hU.size
 have hDl := hD.lt
 obtain ⟨cg, hcg⟩ := own_has hC.row (b := g) rfl
 have nM : ∀ i, i < s.n + 2 → M' i ≠ g := fun i hi e => by
  have := hC.im i hi
  rw [e] at this
  have := has_types this hcg
  revert this; decide
 have nV : ∀ i, i < s.n + 2 → ∀ b, (V' i).ownBlock = some b → b ≠ g := fun i hi b hb e => by
  obtain ⟨cur, hcur⟩ := own_has (hC.by_ i hi) hb
  rw [e] at hcur
  have := has_types hcur hcg
  revert this; decide
 have lM : ∀ i, i < s.n + 2 → M' i < w1.heap.size := fun i hi => (hC.im i hi).lt
 have lV : ∀ i, i < s.n + 2 → ∀ b, (V' i).ownBlock = some b → b < w1.heap.size := fun i hi b hb => own_lt' (hC.by_ i hi) hb
 have nMV : ∀ i, i < s.n + 2 → ∀ b, (V' i).ownBlock = some b → ∀ j, j < s.n + 2 → M' j ≠ b := fun i hi b hb j hj e => by
  rcases Nat.lt_or_ge i j with h1 | h1
  ·have := hC.vi i j b h1 hj hb; omega
  ·have h2 := hC.vb i b hi hb
   rcases Nat.lt_or_ge j i with h3 | h3
   ·have := hC.inc j i h3 hi; omega
   ·have : i = j := by omega
    subst this; omega
 have iV : ∀ b, ∀ i j, i < s.n + 2 → j < s.n + 2 → (V' i).ownBlock = some b → (V' j).ownBlock = some b → i = j := fun b i j hi hj h1 h2 => by
  rcases Nat.lt_trichotomy i j with h3 | h3 | h3
  ·have := hC.vi i j b h3 hj h1; have := hC.vb j b hj h2; omega
  ·exact h3
  ·have := hC.vi j i b h3 hi h2; have := hC.vb i b hi h1; omega
 refine ⟨devColV q' w2.heap.size w.heap.size g w1.heap.size M' V' (s.n + 2), fun col' hn => ⟨w.heap.size, g, cap', w1.heap.size, M', V', ⟨_, hD⟩, ⟨_, Old.has hUo hC.hD⟩, ⟨_, Old.has hU hT⟩, fun i hi => ?_, fun i hi => ⟨⟨_, Old.has hUo (hC.im i hi)⟩, hUo.own (hC.by_ i hi) (fun _ _ x => x), (h.fm i hi).fits, (h.fm i hi).durs, (h.fm i hi).pos, (h.fm i hi).most⟩, h.lo, h.hi, ?_, ?_, ?_, ?_, fun i hi => ?_, fun i hi b hb => ?_, h.ops0, h.ops1⟩⟩
 ·have h2 := (Upd.own hUo hC.row (fun _ _ x => x)).cells (g := g) rfl i (.pointer (some ⟨M' i, 0, none⟩)) (by rw [List.getElem?_map, List.getElem?_range hi]; rfl)
  rwa [show (⟨g, 0, none⟩ : Addr).add i = ⟨g, i, none⟩ from by unfold Addr.add; split <;> simp_all] at h2
 ·rw [hn _ (by omega) hDl]; unfold devColV; rw [if_pos rfl]
 ·rw [hn _ (by omega) (by omega)]; unfold devColV; rw [if_neg (by omega), if_pos rfl]
 ·rw [hn _ (by omega) (by omega)]; unfold devColV; rw [if_neg (by omega), if_neg (by omega), if_pos rfl]
 ·rw [hn _ (by omega) (by omega)]; unfold devColV; rw [if_neg (by omega), if_neg (by omega), if_neg (by omega), if_pos rfl]
 ·have h1 := hC.new i hi
  have h2 := lM i hi
  rw [hn _ (by omega) (by omega)]; unfold devColV; rw [if_neg (by omega), if_neg (by omega), if_neg (nM i hi), if_neg (by omega), whichM_some hC.inc hi]
 ·have h0 := hC.new i hi
  have h1 := hC.vb i b hi hb
  have h2 := lV i hi b hb
  rw [hn _ (by omega) (by omega)]; unfold devColV; rw [if_neg (by omega), if_neg (by omega), if_neg (nV i hi b hb), if_neg (by omega), whichM_none (nMV i hi b hb), whichV_some (iV b) hi hb]
set_option maxHeartbeats 1000000 in
theorem dev_copy {w : World} {col : Col} {q D : Nat} {s : DevS} {K S cap T : Nat} {M : Nat → Nat} {V : Nat → Value} (h : DevAt w col q D s K S cap T M V) (q' : Nat) :
 Calls Tryz.prog 43 #[.pointer (some ⟨D, 0, none⟩)] w fun e w' => ∃ C c, e = .returned (.pointer (some ⟨C, 0, none⟩)) ∧ Old w w' ∧ ∀ col', Newly w w' c col' → ∃ K' S' cap' T' M' V', DevAt w' col' q' C s K' S' cap' T' M' V' := by
 obtain ⟨td, fd⟩ := h.fd
 obtain ⟨tk, fk⟩ := h.fk
 obtain ⟨tt, ft⟩ := h.ft
 have d0 : w.cell? ⟨D, 0, none⟩ = some (.pointer (some ⟨K, 0, none⟩)) := fd.cell 0
 have d1 : w.cell? ⟨D, 1, none⟩ = some (.pointer (some ⟨T, 0, none⟩)) := fd.cell 1
 have d2 : w.cell? ⟨D, 2, none⟩ = some (.int .i64 ((s.n : Nat) : Int)) := fd.cell 2
 have d3 : w.cell? ⟨D, 3, none⟩ = some (.int .i64 s.ops) := fd.cell 3
 have d4 : w.cell? ⟨D, 4, none⟩ = some (.bool s.down) := fd.cell 4
 have HD := Lib.hid (fun (W : World) (U : Old w W) => disk_copy (w := W) (K := K) (S := S) (cap := cap) (n := s.n) (img := s.img) (M := M) (V := V) (Old.cellOf' U (fk.cell 0)) (fun i hi => Old.cellOf' U (h.fs i hi)) (fun i hi => by
  obtain ⟨⟨t, hM⟩, own, h3, h4, h5, h6⟩ := h.fm i hi
  exact ⟨⟨t, Old.has U hM⟩, U.own own (fun _ _ x => x), h3, h4, h5, h6⟩) h.hi)
 have HT := Lib.hid (fun (W : World) (U : Old w W) => tm_copy (w := W) (T := T) (Old.cellOf' U (ft.cell 0)) (Old.cellOf' U (ft.cell 1)))
 have HH := Lib.hid h
 have hn : 0 < s.n := by have := h.lo; omega
 clear fd fk ft h
 go_enter Tryz.func43, Tryz.ntmps43
 go_wp2_with go_in
 go_region_held3 (fun x => x.cell? ⟨D, 0, none⟩ = some (.pointer (some ⟨K, 0, none⟩)) ∧ x.cell? ⟨D, 1, none⟩ = some (.pointer (some ⟨T, 0, none⟩)) ∧ x.cell? ⟨D, 2, none⟩ = some (.int .i64 ((s.n : Nat) : Int)) ∧ x.cell? ⟨D, 3, none⟩ = some (.int .i64 s.ops) ∧ x.cell? ⟨D, 4, none⟩ = some (.bool s.down))
  (first | go_keep | (exact ⟨Old.cellOf' U1.out d0, Old.cellOf' U1.out d1, Old.cellOf' U1.out d2, Old.cellOf' U1.out d3, Old.cellOf' U1.out d4⟩) | (exact ⟨Old.cellOf' U2.out d0, Old.cellOf' U2.out d1, Old.cellOf' U2.out d2, Old.cellOf' U2.out d3, Old.cellOf' U2.out d4⟩))
  (first | (go_at_call 111; refine (HD.out _ ?_).mono ?_; (exact (Upd.refl _ w).drew); rintro e w1 ⟨rfl, M', V', v', hC⟩; have HC := Lib.hid hC; have U1 := Lib.hid (show Old w w1 from Upd.trans ((Upd.refl _ w).drew) hC.old); clear hC HD) | (go_at_call 112; refine (HT.out _ U1.out).mono ?_; rintro e w2 ⟨rfl, hT2, hO2⟩; have HT2 := Lib.hid (And.intro hT2 hO2); have U2 := Lib.hid (Upd.trans U1.out hO2); clear hT2 hO2 HT))
 go_wp2
 go_ret
 have hU3 := (Upd.refl (fun _ => False) w2).alloc (.cells #[.pointer (some ⟨w.heap.size, 0, none⟩), .pointer (some ⟨w1.heap.size, 0, none⟩), .int .i64 ((s.n : Nat) : Int), .int .i64 s.ops, .bool s.down] 112)
 obtain ⟨c, hc⟩ := dev_cp_at HH.out HC.out HT2.out.1 HT2.out.2 hU3 (Has.new w2 _ _) q'
 exact ⟨w2.heap.size, c, rfl, Upd.trans U2.out hU3, hc⟩
end Go.M
