/- Walks 39. -/
import Derived.Test.YtjadmbkmlehfdaaGreatDoorProg
import Derived.Test.YtjadmbkmlehfdaaGreatDoorK38
import Derived.Test.YtjadmbkmlehfdaaGreatDoorK27
import Derived.Test.YtjadmbkmlehfdaaGreatDoorK29
import Derived.Test.YtjadmbkmlehfdaaGreatDoorK26
import Derived.Test.YtjadmbkmlehfdaaGreatDoorK20
import Derived.Test.YtjadmbkmlehfdaaGreatDoorK21
import Derived.Test.YtjadmbkmlehfdaaGreatDoorK36
set_option linter.unusedVariables false
set_option linter.unusedSimpArgs false
set_option maxRecDepth 100000
namespace Go.M
open Go.Proofs Go.RowKit Go.Shelf
set_option linter.unusedSimpArgs false
attribute [local go_sem] Oper.semAt_some
variable {w : World} {col : Col} {PP D B X n r : Nat} {s : DevS} {st : Nat → Nat} {M : ByteArray → List Ent} {x : IdxS}
def hitB (a : Bool) (i : Nat) (e y : Ent) : Bool := a && decide (y.slot = i) && decide (y.seq = e.seq)
def NoHit (a : Bool) (i : Nat) (e : Ent) (pre : List {x : Ent // True}) : Prop := ∀ y ∈ pre, hitB a i e y.1 = false
def AHit (a : Bool) (i : Nat) (e : Ent) (pre : List {x : Ent // True}) : Prop := ∃ y ∈ pre, hitB a i e y.1 = true
def Had (w W0 W : World) : Prop := Upd (fun b => b = w.heap.size + 1 + 1 + 1 + 1 ∨ b = w.heap.size + 1 + 1 + 1 + 1 + 1) W0 W ∧ W.cell? ⟨w.heap.size + 1 + 1 + 1 + 1, 0, none⟩ = some (.int .i64 0) ∧ W.cell? ⟨w.heap.size + 1 + 1 + 1 + 1 + 1, 0, none⟩ = some (.int .i64 6)
theorem Had.grown {w W0 X Y : World} {row : Option Nat} (h : Had w W0 X) (hg : X.grownBy Y row) (hr : ∀ k, row = some k → W0.heap.size ≤ k ∧ ∃ o : Obj, X.heap[k]? = some o ∧ o.isCells = false) : Had w W0 Y :=
 ⟨h.1.grown hg (fun k e => .inr (hr k e).1), cell_kept h.2.1 hg (fun k e => (hr k e).2), cell_kept h.2.2 hg (fun k e => (hr k e).2)⟩
def CopS (w : World) (col : Col) (PP D B X n r size zm : Nat) (o : Int) (c : Nat) (w' : World) : Prop :=
 ∃ col' s' st' M' x', EIn w' col' PP D B X n s' r st' M' x' ∧ POk n size zm s' st' x'.es (o + 3) ∧ IdxLe (c + 1) n M' x' ∧ Upd (EF col) w w' ∧ Kept w col col'
def CopPost (w : World) (col : Col) (PP D B X n r size zm : Nat) (o : Int) (c : Nat) (en : Ending) (w' : World) : Prop :=
 (∃ m k : Int, en = .returned (.tuple #[.int .i64 m, .int .i64 k]) ∧ (k = 0 ∨ k = 4 ∨ k = 6)) ∧ CopS w col PP D B X n r size zm o c w'
theorem CopS.same {w w' : World} {col : Col} {PP D B X n r size zm c : Nat} {o : Int} {s : DevS} {st : Nat → Nat} {M : ByteArray → List Ent} {x : IdxS} (h : EIn w col PP D B X n s r st M x) (ok : POk n size zm s st x.es o) (hle : IdxLe c n M x) (U : Old w w') : CopS w col PP D B X n r size zm o c w' :=
 ⟨col, s, st, M, x, h.old U, ok.mono (by omega), hle.mono (by omega), U.mono (fun _ _ h => h.elim), Kept.refl _ _⟩
theorem two_put {W : World} {R DM : Nat} {t1 t2 : TypeId} {a b u v : Value} (h1 : Has W R t1 #[a]) (h2 : Has W (R + 1) t2 #[b]) (hK : W.heap[DM]? = some (.deferred (some []))) (hD : R + 1 < DM) :
 ((W.setCell ⟨R, 0, none⟩ u).setCell ⟨R + 1, 0, none⟩ v).heap[DM]? = some (.deferred (some [])) ∧ (((W.setCell ⟨R, 0, none⟩ u).setCell ⟨R + 1, 0, none⟩ v).putObj DM (.deferred none)).cell? ⟨R, 0, none⟩ = some u ∧ (((W.setCell ⟨R, 0, none⟩ u).setCell ⟨R + 1, 0, none⟩ v).putObj DM (.deferred none)).cell? ⟨R + 1, 0, none⟩ = some v ∧
   Upd (fun b => b = R ∨ b = R + 1 ∨ b = DM) W (((W.setCell ⟨R, 0, none⟩ u).setCell ⟨R + 1, 0, none⟩ v).putObj DM (.deferred none)) := by
 have hK2 : ((W.setCell ⟨R, 0, none⟩ u).setCell ⟨R + 1, 0, none⟩ v).heap[DM]? = some (.deferred (some [])) := (Below.heap_setCell _ ⟨R + 1, 0, none⟩ _ DM (by show DM ≠ R + 1; omega)).trans ((Below.heap_setCell W ⟨R, 0, none⟩ _ DM (by show DM ≠ R; omega)).trans hK)
 have i1 : Has ((W.setCell ⟨R, 0, none⟩ u).setCell ⟨R + 1, 0, none⟩ v) R t1 #[u] := by simpa using (h1.set 0 u).setOther (a := ⟨R + 1, 0, none⟩) (by simp) v
 have i2 : Has ((W.setCell ⟨R, 0, none⟩ u).setCell ⟨R + 1, 0, none⟩ v) (R + 1) t2 #[v] := by simpa using (h2.setOther (a := ⟨R, 0, none⟩) (by simp) u).set 0 v
 have hG : ((W.setCell ⟨R, 0, none⟩ u).setCell ⟨R + 1, 0, none⟩ v).grownBy _ (some DM) := grownBy_putObj' _ DM (.deferred none)
 exact ⟨hK2, cell_kept (i1.cell 0) hG (fun k e => by cases e; exact ⟨_, hK2, rfl⟩), cell_kept (i2.cell 0) hG (fun k e => by cases e; exact ⟨_, hK2, rfl⟩), (((Upd.refl _ W).setCell _ _ (.inl (.inl rfl))).setCell _ _ (.inl (.inr (.inl rfl)))).grown hG (fun k e => by cases e; exact .inl (.inr (.inr rfl)))⟩
theorem CpQ.fin {w WA W W' : World} {col : Col} {PP D B X n r size zm c L Bb C j : Nat} {o : Int} {st1 : Nat → Nat} {M : ByteArray → List Ent} {x : IdxS} {S1 : DevS → Prop} {e : Ent} {F : Nat → Prop} (hO : Old w WA) (hc : ∀ b, w.heap.size ≤ b → (col b).1 = 0) (hg : 0 < w.heap.size ∧ 3 < w.heap.size ∧ 1 < w.heap.size) (hp : CpPlan n size zm x o e j st1 S1) (hQ : CpQ WA col PP D B X n r S1 st1 M x L Bb C j c e 5 W) (hL : w.heap.size ≤ L) (hB : w.heap.size ≤ Bb) (hC : w.heap.size ≤ C) (U : Upd F W W') (hF : ∀ b, F b → w.heap.size ≤ b ∧ b < WA.heap.size) : CopS w col PP D B X n r size zm o c W' := by
 obtain ⟨s1, h1, hP⟩ := hQ.2 (by omega)
 obtain ⟨col1, M1, x1, hK, U1, -, hE, ⟨rfl, hx, hle⟩, -⟩ := hP.2 (by omega)
 replace hE : EIn W col1 PP D B X n (appD s1 j (recB s1 e)) r st1 (addM M (copyE s1 e j)) x1 := hE
 have sz := hO.size
 refine ⟨col1, _, st1, _, x1, hE.box U (fun b hb => by obtain ⟨h2, h3⟩ := hF b hb; rw [hK b h3, hc b h2]) ⟨fun h => by have := (hF _ h).1; omega, fun h => by have := (hF _ h).1; omega, fun h => by have := (hF _ h).1; omega⟩, by rw [hx]; exact hp.fin s1 h1, hle, ?_, fun b hb => hK b (by omega)⟩
 refine ((hO.mono (fun _ _ h => h.elim)).after U1 (fun b hb h => ?_)).after U (fun b hb h => by have := (hF b h).1; omega)
 rcases h with h | h | h | h
 ·exact h
 ·omega
 ·omega
 ·omega
set_option maxHeartbeats 1600000 in
theorem EIn.ocopy (h : EIn w col PP D B X n s r st M x) {size zm c : Nat} {o : Int} (ok : POk n size zm s st x.es o) (hle : IdxLe c n M x) (hcl : c < 100) (hoo : o ≤ 800000000) {e : Ent} (hes : e.slot < n) (hee : e ∈ x.es e.slot) :
 Calls Tryz.prog 69 #[.pointer (some ⟨D, 0, none⟩), .pointer (some ⟨B, 0, none⟩), .pointer (some ⟨X, 0, none⟩), e.val] w (CopPost w col PP D B X n r size zm o c) := by
 have he : e ∈ M e.key := (h.idx.con.a _ hes e hee).2
 have hz : e.size ≤ 8192 := by have := (ok.ent _ hes e hee).2.2.2; have := ok.zs; have := ok.z8; omega
 have hs : ∀ i, i < n → (s.img i).sz ≤ 8192 ∧ (s.img i).bs.length ≤ (s.img i).sz := fun i hi => by
  obtain ⟨K, S, cap, T, Mi, V, hd⟩ := h.dev
  have := hd.fm i (by have := h.sn; omega)
  exact ⟨this.most, this.fits⟩
 have HC := Lib.hid (fun (W : World) (U : Old w W) => (h.old U).cost he hz hs)
 have HF := Lib.hid (fun (W : World) (U : Old w W) => (h.old U).fits hz hs)
 obtain ⟨tX, fX⟩ := h.idx.fX
 have HH := Lib.hid h
 clear h he hs
 have HOK := Lib.hid (And.intro ok (And.intro hle (And.intro hes hee)))
 clear ok hle hee
 generalize hfv : fitsV n s st e.size = f at *
 obtain ⟨i, a, b⟩ := f
 simp only at HF
 generalize costV (i, a, b) e.size = cv at HC
 unfold Ent.val at HC ⊢
 refine (callsIn_wide (n := 8)).1 ?_
 refine callsIn_of_wp_marks Tryz.func69 rfl trivial ?_ rfl
 simp only [Tryz.ntmps69, List.size_toArray, List.length_cons, List.length_nil, Nat.reduceAdd, Nat.reduceSub, Array.replicate_succ, Array.replicate_zero, List.push_toArray, List.append_toArray, List.nil_append, List.cons_append]
 refine wpIn_wide.2 ?_
 go_wp2_with (first | (go_at_call 143; refine (HC.out _ ?_).mono ?_; (exact ((((((Upd.refl _ w).alloc _).alloc _).alloc _).alloc _).alloc _).alloc _); rintro en w1 ⟨rfl, hU⟩; have a0 : w1.cell? ⟨w.heap.size, 0, none⟩ = some (.pointer (some ⟨D, 0, none⟩)) := Old.cellOf' hU (by go_simp); have a1 : w1.cell? ⟨w.heap.size + 1, 0, none⟩ = some (.pointer (some ⟨B, 0, none⟩)) := Old.cellOf' hU (by go_simp); have a2 : w1.cell? ⟨w.heap.size + 1 + 1, 0, none⟩ = some (.pointer (some ⟨X, 0, none⟩)) := Old.cellOf' hU (by go_simp); have b1 : w1.cell? ⟨w.heap.size + 1 + 1 + 1, 1, none⟩ = some (.string e.key) := Old.cellOf' hU (by go_simp); have b5 : w1.cell? ⟨w.heap.size + 1 + 1 + 1, 5, none⟩ = some (.int .i64 ((e.size : Nat) : Int)) := Old.cellOf' hU (by go_simp); have H1 := Lib.hid (And.intro (show Old w w1 from Upd.trans (((((((Upd.refl _ w).alloc _).alloc _).alloc _).alloc _).alloc _).alloc _) hU) hU); clear hU) | (go_at_call 144; refine (HF.out _ H1.out.1).mono ?_; rintro en w2 ⟨rfl, hU⟩; have c0 := Old.cellOf' hU a0; have c1 := Old.cellOf' hU a1; have c2 := Old.cellOf' hU a2; have d1 := Old.cellOf' hU b1; have l0 := World.block_lt_of_cell? _ _ c0; have l1 := World.block_lt_of_cell? _ _ c1; have l2 := World.block_lt_of_cell? _ _ c2; have l3 := World.block_lt_of_cell? _ _ d1; simp only at l0 l1 l2 l3; have H2 := Lib.hid (And.intro (Upd.trans H1.out.1 hU) (Upd.trans H1.out.2 hU)); clear hU) | go_in)
 obtain ⟨sv, hk⟩ := HH.out.idx.ixk e.key
 obtain ⟨hX0, hX1, hm, hG, own, hl⟩ := hk
 have hzq := withQ_map (fun _ => True) (M e.key) (fun _ _ => trivial)
 have hE : EntsB w.heap.size w sv (withQ (fun _ => True) (M e.key) (fun _ _ => trivial)) := EntsB.of_own own _ hzq
 generalize withQ (fun _ => True) (M e.key) (fun _ _ => trivial) = zs at hzq hE
 have hzl : zs.length = (M e.key).length := by rw [← hzq, List.length_map]
 have HG := Lib.hid hG
 have HZ := Lib.hid hzq
 clear own hG hzq fX
 generalize hW0 : World.alloc (World.alloc (World.alloc (World.alloc (World.alloc w2 _) _) _) _) _ = W0
 have U0 : Old w2 W0 := by subst hW0; exact (((((Upd.refl _ w2).alloc _).alloc _).alloc _).alloc _).alloc _
 have k0 : W0.cell? ⟨w2.heap.size, 0, none⟩ = some (.int .i64 ((i : Nat) : Int)) := by subst hW0; go_simp
 have k1 : W0.cell? ⟨w2.heap.size + 1, 0, none⟩ = some (.bool a) := by subst hW0; go_simp
 have k2 : W0.cell? ⟨w2.heap.size + 1 + 1, 0, none⟩ = some (.bool b) := by subst hW0; go_simp
 have k3 : W0.cell? ⟨w2.heap.size + 1 + 1 + 1, 0, none⟩ = some (.pointer (some ⟨X, 0, none⟩)) := by subst hW0; go_simp
 have k4 : W0.cell? ⟨w2.heap.size + 1 + 1 + 1 + 1, 0, none⟩ = some (.string e.key) := by subst hW0; go_simp
 have hkL : Has W0 w2.heap.size 3 #[.int .i64 ((i : Nat) : Int)] := by subst hW0; exact ((((Has.new w2 _ _).alloc _).alloc _).alloc _).alloc _
 have z0 : W0.heap.size = w2.heap.size + 5 := by subst hW0; simp
 clear hW0
 have hb5 : w.heap.size + 5 < W0.heap.size := by have := H2.out.2.size; simp at this; omega
 have r4 : Has W0 (w.heap.size + 1 + 1 + 1 + 1) 3 #[.int .i64 0] := Old.has U0 (Old.has H2.out.2 ((has_new_n (by simp)).alloc _))
 have r5 : Has W0 (w.heap.size + 1 + 1 + 1 + 1 + 1) 43 #[.int .i64 0] := Old.has U0 (Old.has H2.out.2 (has_new_n (by simp)))
 have rE : Has W0 (w.heap.size + 1 + 1 + 1) 47 (entC e) := Old.has U0 (Old.has H2.out.2 (((has_new_n (by simp)).alloc _).alloc _))
 have HOW := Lib.hid (Upd.trans H2.out.1 U0)
 have hw2 := H2.out.1.size
 have hw6 : w.heap.size + 6 ≤ w2.heap.size := by have := H2.out.2.size; simp at this; omega
 have j0 := Old.cellOf' U0 c0
 have j1 := Old.cellOf' U0 c1
 have j2 := Old.cellOf' U0 c2
 clear c0 c1 c2 d1 l0 l1 l2 l3 H1 H2 a0 a1 a2 b1 b5
 refine (wpIn_wide (n := 8)).1 ?_
 refine name_tmps fun T0 hT0 => ?_
 refine wpIn_rangeFunc_ownH rfl (by omega) (gf := 214) (lb := #[.pointer (some ⟨w2.heap.size + 1 + 1 + 1, 0, none⟩), .pointer (some ⟨w2.heap.size + 1 + 1 + 1 + 1, 0, none⟩)]) rfl trivial (enters_of Tryz.func214 (by kernel_rfl) rfl)
  (of_at_stops (zs := zs) (n₀ := w.heap.size) 7 (by omega) (w2.heap.size + 1 + 1 + 1) (w2.heap.size + 1 + 1 + 1 + 1) (by omega) (by omega) k3 k4 (Old.cellOf' HOW.out hX0) (Old.cellOf' HOW.out hX1) hm (fun W' U => HG.out W' (Upd.trans HOW.out U)) (hE.old HOW.out)) belowK_t (belowK_b (by omega)) (Below.refl _ _) (fun _ => rfl)
  (fun (pre : List {x : Ent // True}) W => NoHit a i e pre ∧ Old W0 W)
  (fun cd (pre : List {x : Ent // True}) W => cd = .ret ∧ AHit a i e pre ∧ Had w W0 W)
  (fun pre A B row hs hg hr => ⟨hs.1, hs.2.grown hg (fun k e => .inr (hr k e).1)⟩)
  (fun cd pre A B row hs hg hr => ⟨hs.1, hs.2.1, hs.2.2.grown hg hr⟩)
  ⟨fun _ h => (by cases h), Upd.refl _ _⟩
  (fun x a' W => ∃ Bx, W0.heap.size ≤ Bx ∧ Has W Bx 47 (entC x.1) ∧ a' = { tmps := (T0.setIfInBounds 42 x.1.val).setIfInBounds 15 (.pointer (some ⟨Bx, 0, none⟩)), defers := [] })
  (fun x a' _ A B row hs hg hr => by obtain ⟨Bx, h1, h2, h3⟩ := hs; exact ⟨Bx, h1, has_own Bx _ (fun (_ : Unit) => entC x.1) () A B row h2 hg (fun r e => (hr r e).2), h3⟩)
  ?assign ?body ?done ?stop
 case assign =>
  rintro l pre x W K ⟨hpf, hA⟩ hK
  unfold Ent.val
  subst hT0
  gi_wp2
  exact hK _ _ ((KeepsOthers.alloc _ _).from _) ((Below.refl _ W).alloc (by have := hA.size; omega) _) ⟨hpf, hA.alloc _⟩ ⟨W.heap.size, hA.size, Has.new W _ _, rfl⟩
 case body =>
  rintro l pre x a' W hl2 ⟨rr, hr⟩ ⟨hpf, hA⟩ ⟨Bx, hBx, hX, rfl⟩ hlt
  have x0 : W.cell? ⟨Bx, 0, none⟩ = some (.int .i64 ((x.1.seq : Nat) : Int)) := hX.cell 0
  have x3 : W.cell? ⟨Bx, 3, none⟩ = some (.int .i64 ((x.1.slot : Nat) : Int)) := hX.cell 3
  have y0 : W.cell? ⟨w.heap.size + 1 + 1 + 1, 0, none⟩ = some (.int .i64 ((e.seq : Nat) : Int)) := Old.cellOf' hA (rE.cell 0)
  have z0 := Old.cellOf' hA k0
  have z1 := Old.cellOf' hA k1
  have s4 := Old.has hA r4
  have s5 := Old.has hA r5
  have c4 : W.cell? ⟨w.heap.size + 1 + 1 + 1 + 1, 0, none⟩ = some (.int .i64 0) := s4.cell 0
  have c5 : W.cell? ⟨w.heap.size + 1 + 1 + 1 + 1 + 1, 0, none⟩ = some (.int .i64 0) := s5.cell 0
  have f4 := s4.frozen 0
  have f5 := s5.frozen 0
  have hq : (x.1.slot = i ∧ x.1.seq = e.seq ∧ a = true) ∨ a = false ∨ (a = true ∧ x.1.slot ≠ i) ∨ (a = true ∧ x.1.slot = i ∧ x.1.seq ≠ e.seq) := by
   cases a
   ·exact .inr (.inl rfl)
   ·by_cases h1 : x.1.slot = i
    ·by_cases h2 : x.1.seq = e.seq
     ·exact .inl ⟨h1, h2, rfl⟩
     ·exact .inr (.inr (.inr ⟨rfl, h1, h2⟩))
    ·exact .inr (.inr (.inl ⟨rfl, h1⟩))
  have HNO : Hid (hitB a i e x.1 = false → NoHit a i e (pre ++ [x])) := Lib.hid (fun h y hy => by
   rcases List.mem_append.1 hy with hy | hy
   ·exact hpf y hy
   ·simp at hy; rw [hy]; exact h)
  have HA := Lib.hid hA
  have HPF := Lib.hid hpf
  have HX := Lib.hid hX
  have S4 := Lib.hid s4
  have S5 := Lib.hid s5
  have hWs := hA.size
  have l4 := s4.lt
  have l5 := s5.lt
  have lx := hX.lt
  clear hpf hA s4 s5 hX HG HZ HOW HH
  unfold Ent.val
  simp only at hT0
  simp only [hT0, List.setIfInBounds_toArray, List.set_cons_zero, List.set_cons_succ]
  have HNI := Lib.hid (show a = false ∨ (a = true ∧ x.1.slot ≠ i) ∨ (a = true ∧ x.1.slot = i ∧ x.1.seq ≠ e.seq) → hitB a i e x.1 = false from fun h => by
   unfold hitB
   rcases h with h | ⟨h, h1⟩ | ⟨h, h1, h2⟩
   ·simp [h]
   ·simp [h, h1]
   ·simp [h, h1, h2])
  rcases hq with ⟨h1, h2, h3⟩ | h1 | ⟨h1, h2⟩ | ⟨h1, h2, h3⟩
  ·have HQ := Lib.hid (show hitB a i e x.1 = true by unfold hitB; simp [h1, h2, h3])
   rw [h1] at x3
   rw [h2] at x0
   rw [h3] at z1
   clear h1 h2 h3
   gi_wp2
   have U : Upd (fun b => b = w.heap.size + 1 + 1 + 1 + 1 ∨ b = w.heap.size + 1 + 1 + 1 + 1 + 1) W ((W.setCell ⟨w.heap.size + 1 + 1 + 1 + 1, 0, none⟩ (.int .i64 0)).setCell ⟨w.heap.size + 1 + 1 + 1 + 1 + 1, 0, none⟩ (.int .i64 6)) := ((Upd.refl _ W).setCell _ _ (.inl (.inl rfl))).setCell _ _ (.inl (.inr rfl))
   exact ⟨keepsFrom_upd U (fun b hb => by omega), rfl, ⟨x, by simp, HQ.out⟩, (HA.out.mono (fun _ _ h => h.elim)).trans U, by go_simp, by go_simp⟩
  ·have HQ := HNO.out (HNI.out (.inl h1))
   rw [h1] at z1
   clear h1
   gi_wp2
   exact ⟨keepsFrom_upd (Upd.refl (fun _ => False) W) (fun b hb => hb.elim), Below.refl _ _, HQ, HA.out⟩
  ·have HQ := HNO.out (HNI.out (.inr (.inl ⟨h1, h2⟩)))
   rw [h1] at z1
   clear h1
   gi_wp2
   exact ⟨keepsFrom_upd (Upd.refl (fun _ => False) W) (fun b hb => hb.elim), Below.refl _ _, HQ, HA.out⟩
  ·have HQ := HNO.out (HNI.out (.inr (.inr ⟨h1, h2, h3⟩)))
   rw [h1] at z1
   rw [h2] at x3
   clear h1 h2
   gi_wp2
   exact ⟨keepsFrom_upd (Upd.refl (fun _ => False) W) (fun b hb => hb.elim), Below.refl _ _, HQ, HA.out⟩
 case done =>
  rintro DM ys W hD rfl ⟨hpf, hA⟩ hK
  have hno : ∀ y ∈ M e.key, hitB a i e y = false := fun y hy => by
   rw [← HZ.out] at hy
   obtain ⟨q, h1, rfl⟩ := List.mem_map.1 hy
   exact hpf q h1
  obtain ⟨ok, hle, hes, hee⟩ := HOK.out
  have hn0 : ∀ b, w.heap.size ≤ b → (col b).1 = 0 := HH.out.new
  have hgl : 0 < w.heap.size ∧ 3 < w.heap.size ∧ 1 < w.heap.size := ⟨World.block_lt_of_cell? w _ HH.out.gl.dp.1, World.block_lt_of_cell? w _ (HH.out.gl.db 0 (by omega)), World.block_lt_of_cell? w _ HH.out.gl.se.1⟩
  have hOW : Old w W := HOW.out.trans hA
  have HFR := Lib.hid (fun (V : World) (U : Old w V) => (HH.out.old U).tab.free)
  have hseq : ∀ i, i < n → ∀ y ∈ x.es i, SeqOk y := fun i hi y hy => ⟨(ok.ent i hi y hy).1.s1, by have := (ok.ent i hi y hy).1.s2; omega⟩
  have hplan : b = true ∨ 0 < cntS st n 0 → ∃ j st1 S1, CpPlan n size zm x o e j st1 S1 ∧ ∀ WA, Old w WA → ∀ Bb C, w2.heap.size < Bb → Bb < C → C < WA.heap.size → WA.cell? ⟨w.heap.size, 0, none⟩ = some (.pointer (some ⟨D, 0, none⟩)) → WA.cell? ⟨w.heap.size + 1, 0, none⟩ = some (.pointer (some ⟨B, 0, none⟩)) → WA.cell? ⟨w.heap.size + 1 + 1, 0, none⟩ = some (.pointer (some ⟨X, 0, none⟩)) →
   Has WA w2.heap.size 3 #[.int .i64 ((i : Nat) : Int)] → WA.cell? ⟨w2.heap.size + 1 + 1, 0, none⟩ = some (.bool b) → Has WA C 47 (entC e) → Has WA Bb 77 #[.slice none 0 0] →
   Calls Tryz.prog 146 #[.pointer (some ⟨w2.heap.size + 1 + 1, 0, none⟩), .pointer (some ⟨w.heap.size, 0, none⟩), .pointer (some ⟨w.heap.size + 1, 0, none⟩), .pointer (some ⟨w.heap.size + 1 + 1, 0, none⟩), .pointer (some ⟨w2.heap.size, 0, none⟩)] WA fun en w' => en = .returned (.int .i64 0) ∧ CpQ WA col PP D B X n r S1 st1 M x w2.heap.size Bb C j c e 1 w' := by
   intro hbz
   unfold fitsV at hfv
   rcases hl4 : lowS st n 4 with _ | i'
   ·rw [hl4] at hfv
    obtain ⟨rfl, rfl, rfl⟩ : 0 = i ∧ false = a ∧ false = b := by simpa using hfv
    obtain ⟨j, hj⟩ := lowS_of (hbz.resolve_left (by decide))
    refine ⟨j, _, _, plan_new ok hoo hes hee hl4 hj, fun WA U Bb C b1 b2 b3 e0 e1 e2 eL eF eC eB => ?_⟩
    have hE := HH.out.old U
    exact step1_new (w := w) (z := 0) hn0 hgl (Nat.le_refl _) (by omega) b1 b2 b3 eF e0 e1 e2 eL eC eB hl4 hj ((hE.oseal_none hl4).mono fun en w' ⟨h1, h2⟩ => ⟨h1, s, col, rfl, hE.old h2, h2.mono (fun _ _ h => h.elim), Kept.refl _ _⟩)
   ·obtain ⟨h1, h2⟩ := lowS_some hl4
    rw [hl4] at hfv
    obtain ⟨rfl, rfl, hfb⟩ : i' = i ∧ true = a ∧ decide ((s.img i').bs.length + e.size + 16 ≤ (s.img i').sz) = b := by simpa using hfv
    cases b
    ·obtain ⟨j, h3, h4, hp⟩ := plan_close ok hoo hes hee hl4 (hbz.resolve_left (by decide))
     refine ⟨j, _, _, hp, fun WA U Bb C b1 b2 b3 e0 e1 e2 eL eF eC eB => ?_⟩
     have hE := HH.out.old U
     exact step1_new (w := w) (z := 16) hn0 hgl (Nat.le_refl _) (by omega) b1 b2 b3 eF e0 e1 e2 eL eC eB h3 h4 ((hE.oseal hl4 (hseq i' h1) (by rw [ok.sz i' h1]; exact ok.room i' h1 (.inr h2)) (by have := ok.o1; omega)).mono fun en w' ⟨q1, col', fb, q2, q3, q4, q5⟩ => ⟨q1, _, col', ⟨fb, q2, rfl⟩, q3, q4, q5⟩)
    ·refine ⟨i', _, _, plan_fit ok hoo hes hee h1 h2 (by simpa using hfb) (fun y hy hq => ?_), fun WA U Bb C b1 b2 b3 e0 e1 e2 eL eF eC eB => step1_fit (HH.out.old U) eF (eL.cell 0) eC eB⟩
     obtain ⟨q1, q2⟩ := HH.out.idx.con.a i' h1 y hy
     rw [(ok.cop i' h1 y hy _ hes e hee hq).1] at q2
     have := hno y q2
     simp [hitB, q1, hq] at this
  have q4 := Old.has hA r4
  have q5 := Old.has hA r5
  have qE := Old.has hA rE
  have qL := Old.has hA hkL
  have v0 := Old.cellOf' hA j0
  have v1 := Old.cellOf' hA j1
  have v2 := Old.cellOf' hA j2
  have vF := Old.cellOf' hA k2
  have e0 : W.cell? ⟨w.heap.size + 1 + 1 + 1, 0, none⟩ = some (.int .i64 ((e.seq : Nat) : Int)) := qE.cell 0
  have e1 : W.cell? ⟨w.heap.size + 1 + 1 + 1, 1, none⟩ = some (.string e.key) := qE.cell 1
  have e2 : W.cell? ⟨w.heap.size + 1 + 1 + 1, 2, none⟩ = some (.bool e.del) := qE.cell 2
  have e3 : W.cell? ⟨w.heap.size + 1 + 1 + 1, 3, none⟩ = some (.int .i64 ((e.slot : Nat) : Int)) := qE.cell 3
  have e4 : W.cell? ⟨w.heap.size + 1 + 1 + 1, 4, none⟩ = some (.int .i64 ((e.off : Nat) : Int)) := qE.cell 4
  have e5 : W.cell? ⟨w.heap.size + 1 + 1 + 1, 5, none⟩ = some (.int .i64 ((e.size : Nat) : Int)) := qE.cell 5
  have c4 : W.cell? ⟨w.heap.size + 1 + 1 + 1 + 1, 0, none⟩ = some (.int .i64 0) := q4.cell 0
  have c5 : W.cell? ⟨w.heap.size + 1 + 1 + 1 + 1 + 1, 0, none⟩ = some (.int .i64 0) := q5.cell 0
  have f4 := q4.frozen 0
  have f5 := q5.frozen 0
  have l4 := q4.lt
  have l5 := q5.lt
  have lE := qE.lt
  have lW := hA.size
  have HQ := Lib.hid (And.intro q4 (And.intro q5 (And.intro qE (And.intro qL hOW))))
  have HPL := Lib.hid hplan
  have HGL := Lib.hid (And.intro hn0 hgl)
  have HKK := Lib.hid hK
  have HOKK := Lib.hid (And.intro ok hle)
  simp only at hT0
  clear hplan hno hseq hA hpf HOK HG HZ qE qL q4 q5 hOW ok hle r4 r5 rE hn0 hgl k0 k1 k2 k3 k4 j0 j1 j2 hX0 hX1 hK hE hfv HC HF
  by_cases hz0 : b = false ∧ cntS st n 0 = 0
  ·obtain ⟨rfl, hz0⟩ := hz0
   rw [hz0] at HFR
   clear HPL
   go_wp2_with (first | (go_at_call 27; refine (HFR.out _ HQ.out.2.2.2.2).mono ?_; rintro e7 w7 ⟨rfl, rfl⟩) | go_in)
   obtain ⟨g1, g2, g3, g4⟩ := two_put (u := .int .i64 0) (v := .int .i64 4) HQ.out.1 HQ.out.2.1 HKK.out (by omega)
   refine ⟨by simp, .inl ⟨_, _, rfl, run_takeDeferred g1, ?_⟩⟩
   have HU := Lib.hid (HQ.out.2.2.2.2.after g4 (fun b hb h => by omega))
   refine ⟨_, res_cell2 (u := .int .i64 0) (v := .int .i64 4) rfl rfl rfl ?_ ?_, ⟨_, _, rfl, .inr (.inl rfl)⟩, CopS.same HH.out HOKK.out.1 HOKK.out.2 HU.out⟩
   ·clear g1 g4; go_simp
   ·clear g1 g4; go_simp
  ·have hbz : b = true ∨ 0 < cntS st n 0 := by
    cases b
    ·exact .inr (Nat.pos_of_ne_zero (fun h => hz0 ⟨rfl, h⟩))
    ·exact .inl rfl
   have hcn : b = false → cntS st n 0 ≠ 0 := fun h1 h2 => hz0 ⟨h1, h2⟩
   obtain ⟨j, st1, S1, hp, hst1⟩ := HPL.out hbz
   have HP := Lib.hid (And.intro hp hst1)
   clear HPL hz0 hbz hp hst1
   have HCN := Lib.hid hcn
   clear hcn
   have HB := Lib.hid vF
   cases b
   case' false => have hcn := HCN.out rfl
   all_goals
    go_wp2_with (first | (go_at_call 27; refine (HFR.out _ HQ.out.2.2.2.2).mono ?_; rintro e7 w7 ⟨rfl, rfl⟩) | (go_at_call 145; refine Hid.out ?_) | go_in)
    generalize hWA : World.alloc (World.alloc (World.alloc W _) _) _ = WA
    have UA : Old W WA := by subst hWA; exact (((Upd.refl _ W).alloc _).alloc _).alloc _
    have zA : WA.heap.size = W.heap.size + 3 := by subst hWA; simp
    have s0 : WA.cell? ⟨W.heap.size + 1 + 1, 0, none⟩ = some (.func (.func 146) #[] #[.pointer (some ⟨w2.heap.size + 1 + 1, 0, none⟩), .pointer (some ⟨w.heap.size, 0, none⟩), .pointer (some ⟨w.heap.size + 1, 0, none⟩), .pointer (some ⟨w.heap.size + 1 + 1, 0, none⟩), .pointer (some ⟨w2.heap.size, 0, none⟩)]) := by subst hWA; go_simp
    have s1 : WA.cell? ⟨W.heap.size + 1 + 1, 1, none⟩ = some (.func (.func 148) #[] #[.pointer (some ⟨w.heap.size, 0, none⟩), .pointer (some ⟨w.heap.size + 1 + 1 + 1, 0, none⟩), .pointer (some ⟨W.heap.size, 0, none⟩)]) := by subst hWA; go_simp
    have s2 : WA.cell? ⟨W.heap.size + 1 + 1, 2, none⟩ = some (.func (.func 149) #[] #[.pointer (some ⟨w2.heap.size, 0, none⟩), .pointer (some ⟨W.heap.size + 1, 0, none⟩), .pointer (some ⟨w.heap.size, 0, none⟩)]) := by subst hWA; go_simp
    have s3 : WA.cell? ⟨W.heap.size + 1 + 1, 3, none⟩ = some (.func (.func 150) #[] #[.pointer (some ⟨w.heap.size, 0, none⟩), .pointer (some ⟨w2.heap.size, 0, none⟩), .pointer (some ⟨W.heap.size, 0, none⟩)]) := by subst hWA; go_simp
    have s4 : WA.cell? ⟨W.heap.size + 1 + 1, 4, none⟩ = some (.func (.func 151) #[] #[.pointer (some ⟨w.heap.size + 1 + 1, 0, none⟩), .pointer (some ⟨W.heap.size + 1, 0, none⟩)]) := by subst hWA; go_simp
    have aB : Has WA W.heap.size 77 #[.slice none 0 0] := by subst hWA; exact ((Has.new W _ _).alloc _).alloc _
    have aC : Has WA (W.heap.size + 1) 47 (entC e) := by subst hWA; exact (has_new_n (by simp)).alloc _
    clear hWA
    have hE3 := Old.has UA HQ.out.2.2.1
    have hL3 := Old.has UA HQ.out.2.2.2.1
    have hO3 := HQ.out.2.2.2.2.trans UA
    have HQ1 := HP.out.2 WA hO3 W.heap.size (W.heap.size + 1) (by omega) (by omega) (by omega) (Old.cellOf' UA v0) (Old.cellOf' UA v1) (Old.cellOf' UA v2) hL3 (Old.cellOf' UA HB.out) aC aB
    refine Lib.hid ?_
    refine (copy_steps (w := w) HGL.out.1 HGL.out.2 (Nat.le_refl _) (by omega) (by omega) (by omega) (by omega) (by omega) (Old.cellOf' UA v0) (Old.cellOf' UA v2) hE3 s0 s1 s2 s3 s4 HQ1 HP.out.1.hj hes (by have := (HOKK.out.1.ent _ hes e hee).1.z1; omega) HP.out.1.ss HP.out.1.hd HOKK.out.2 hcl).mono ?_
    rintro en w4 ⟨rfl, hC5⟩
    have HC5 := Lib.hid hC5
    have U4 : Upd (CpG col w2.heap.size W.heap.size (W.heap.size + 1)) WA w4 := by
     obtain ⟨s1, h1, hP⟩ := hC5.2 (by omega)
     obtain ⟨_, _, _, _, U, _⟩ := hP.2 (by omega)
     exact U
    have nG : ∀ b, w.heap.size ≤ b → b ≠ w2.heap.size → b ≠ W.heap.size → b ≠ W.heap.size + 1 → ¬ CpG col w2.heap.size W.heap.size (W.heap.size + 1) b := fun b hb n1 n2 n3 h => by
     have := HGL.out.1 b hb
     rcases h with h | h | h | h
     ·unfold EF at h; omega
     ·exact n1 h
     ·exact n2 h
     ·exact n3 h
    have hDl : DM < W.heap.size := (Array.getElem?_eq_some_iff.1 HKK.out).1
    have m4 := U4.has (Old.has UA HQ.out.1) (nG _ (by omega) (by omega) (by omega) (by omega))
    have m5 := U4.has (Old.has UA HQ.out.2.1) (nG _ (by omega) (by omega) (by omega) (by omega))
    have mK : w4.heap[DM]? = some (.deferred (some [])) := (U4.keep DM (by omega) (nG DM (by omega) (by omega) (by omega) (by omega))).trans ((UA.keep DM hDl (fun h => h)).trans HKK.out)
    have p4 : w4.cell? ⟨w.heap.size + 1 + 1 + 1 + 1, 0, none⟩ = some (.int .i64 0) := m4.cell 0
    have p5 : w4.cell? ⟨w.heap.size + 1 + 1 + 1 + 1 + 1, 0, none⟩ = some (.int .i64 0) := m5.cell 0
    have pf4 := m4.frozen 0
    have pf5 := m5.frozen 0
    have pl4 := m4.lt
    have pl5 := m5.lt
    have HM := Lib.hid (And.intro m4 (And.intro m5 mK))
    have HO3 := Lib.hid hO3
    clear hC5 U4 nG m4 m5 mK s0 s1 s2 s3 s4 aB aC hE3 hL3 hO3 HQ1 UA
    go_wp2
    obtain ⟨g1, g2, g3, g4⟩ := two_put (u := .int .i64 ((cv : Nat) : Int)) (v := .int .i64 0) HM.out.1 HM.out.2.1 HM.out.2.2 (by omega)
    refine ⟨by simp, .inl ⟨_, _, rfl, run_takeDeferred g1, ?_⟩⟩
    have HU := Lib.hid g4
    clear g1 g4
    refine ⟨_, res_cell2 (u := .int .i64 ((cv : Nat) : Int)) (v := .int .i64 0) rfl rfl rfl ?_ ?_, ⟨_, _, rfl, .inl rfl⟩, CpQ.fin HO3.out HGL.out.1 HGL.out.2 HP.out.1 HC5.out (by omega) (by omega) (by omega) HU.out (fun b hb => by omega)⟩
    ·go_simp
    ·go_simp
 case stop =>
  rintro DM cd pre W hD ⟨tl, hpre⟩ ⟨rfl, hA, hH, p4, p5⟩ hK
  have hG2 : W.grownBy (W.putObj DM (.deferred none)) (some DM) := grownBy_putObj' _ DM _
  have q4 : (W.putObj DM (.deferred none)).cell? ⟨w.heap.size + 1 + 1 + 1 + 1, 0, none⟩ = some (.int .i64 0) := cell_kept p4 hG2 (fun k e => by cases e; exact ⟨_, hK, rfl⟩)
  have q5 : (W.putObj DM (.deferred none)).cell? ⟨w.heap.size + 1 + 1 + 1 + 1 + 1, 0, none⟩ = some (.int .i64 6) := cell_kept p5 hG2 (fun k e => by cases e; exact ⟨_, hK, rfl⟩)
  have hU : Old w (W.putObj DM (.deferred none)) := (HOW.out.after hH (fun b hb h => by omega)).grown hG2 (fun k e => by cases e; exact .inr (by omega))
  have HU := Lib.hid hU
  clear hU hH hA
  gi_wp2
  refine ⟨by simp, .inl ⟨_, _, rfl, run_takeDeferred hK, ?_⟩⟩
  refine ⟨_, res_cell2 (u := .int .i64 0) (v := .int .i64 6) rfl rfl rfl ?_ ?_, ⟨_, _, rfl, .inr (.inr rfl)⟩, CopS.same HH.out HOK.out.1 HOK.out.2.1 HU.out⟩
  ·go_simp
  ·go_simp
end Go.M
namespace Go.M
open Go.Proofs Go.RowKit
set_option linter.unusedSimpArgs false
def NewI (w : World) (m : ImgS) (e : Ending) (w' : World) : Prop := ∃ v, e = .returned (.pointer (some ⟨w.heap.size, 0, none⟩)) ∧ Has w' w.heap.size 265 #[v, .int .i64 ((m.sz : Nat) : Int), .int .i64 ((m.dur : Nat) : Int)] ∧ w'.ownsRow 0 5 1 v m.bs.length (m.bs.map bcell) ∧ (∀ b, v.ownBlock = some b → w.heap.size < b) ∧ Old w w'
theorem icopy {w : World} {M : Nat} {v : Value} {m : ImgS} (h : ImgAt w M v m) :
 Calls Tryz.prog 193 #[.pointer (some ⟨M, 0, none⟩)] w (NewI w m) := by
 obtain ⟨⟨t, hM⟩, own, h3, h4, h5, h6⟩ := h
 have m0 : w.cell? ⟨M, 0, none⟩ = some v := hM.cell 0
 have m1 : w.cell? ⟨M, 1, none⟩ = some (.int .i64 ((m.sz : Nat) : Int)) := hM.cell 1
 have m2 : w.cell? ⟨M, 2, none⟩ = some (.int .i64 ((m.dur : Nat) : Int)) := hM.cell 2
 have hl := hM.lt
 have HC := Lib.hid (fun (W : World) (U : Old w W) => clone_walk (own_bytes (U.own own (fun _ _ x => x))) (by omega))
 obtain ⟨va, vc, rfl⟩ := own_slice own
 have q1 : 0 < m.sz := by omega
 clear own hM
 go_enter Tryz.func193, Tryz.ntmps193
 go_wp2_with (first | (go_at_call 210; refine (HC.out _ ?_).mono ?_; (exact (Upd.refl _ w).alloc _); rintro e w1 ⟨v1, rfl, hown, hO, hfr⟩; have hN := Old.has hO (Has.new w 265 #[.slice va m.bs.length vc, .int .i64 ((m.sz : Nat) : Int), .int .i64 ((m.dur : Nat) : Int)]); have k0 : w1.cell? ⟨w.heap.size, 0, none⟩ = some (.slice va m.bs.length vc) := hN.cell 0; have kf := hN.frozen 0; have H1 := Lib.hid (And.intro hN (And.intro hown (And.intro hO hfr))); clear hN hown hO hfr; obtain ⟨a1, c1, rfl⟩ := own_slice H1.out.2.1) | go_in)
 go_ret
 obtain ⟨hN, hown, hO, hfr⟩ := H1.out
 have hfr' : ∀ b, (Value.slice a1 m.bs.length c1).ownBlock = some b → w.heap.size < b := fun b hb => by have := hfr b hb; simp at this; omega
 have U := (Upd.refl (fun b => b = w.heap.size) w1).setCell ⟨w.heap.size, 0, none⟩ (.slice a1 m.bs.length c1) (.inl rfl)
 refine ⟨_, rfl, by simpa using hN.set 0 (.slice a1 m.bs.length c1), U.own hown (fun b hb e => by have := hfr' b hb; omega), hfr', (((Upd.refl _ w).alloc _).trans hO).setCell _ _ (.inr (Nat.le_refl _))⟩
theorem tm_copy {w : World} {T : Nat} (t0 : w.cell? ⟨T, 0, none⟩ = some (.bool true)) (t1 : w.cell? ⟨T, 1, none⟩ = some (.pointer none)) :
 Calls Tryz.prog 112 #[.pointer (some ⟨T, 0, none⟩)] w fun e w' => e = .returned (.pointer (some ⟨w.heap.size, 0, none⟩)) ∧ Has w' w.heap.size 184 #[.bool true, .pointer none] ∧ Old w w' := by
 have hTl := World.block_lt_of_cell? w _ t0
 simp only at hTl
 go_enter Tryz.func112, Tryz.ntmps112
 go_wp2_with (first | (go_at_call 194; refine (plan_none (by go_simp)).mono ?_; rintro e w2 ⟨rfl, rfl⟩) | go_in)
 go_ret
 exact ⟨rfl, ((Has.new w _ _).alloc _).alloc _, (((Upd.refl _ w).alloc _).alloc _).alloc _⟩
structure DcI (w0 w : World) (img : Nat → ImgS) (D k : Nat) (M : Nat → Nat) (V : Nat → Value) (v : Value) : Prop where
 hD : Has w D 241 #[v]
 row : w.ownsRow 0 180 1 v k ((List.range k).map fun j => .pointer (some ⟨M j, 0, none⟩))
 im : ∀ j, j < k → Has w (M j) 265 #[V j, .int .i64 (((img j).sz : Nat) : Int), .int .i64 (((img j).dur : Nat) : Int)]
 by_ : ∀ j, j < k → w.ownsRow 0 5 1 (V j) (img j).bs.length ((img j).bs.map bcell)
 new : ∀ j, j < k → D < M j
 inc : ∀ i j, i < j → j < k → M i < M j
 vb : ∀ i b, i < k → (V i).ownBlock = some b → M i < b
 vi : ∀ i j b, i < j → j < k → (V i).ownBlock = some b → b < M j
 rnew : ∀ b, v.ownBlock = some b → D < b
 old : Old w0 w
theorem has_types {w : World} {b : Nat} {t t' : TypeId} {c c' : Array Value} (h : Has w b t c) (h' : Has w b t' c') : t = t' := by
 unfold Has at h h'
 rw [h] at h'
 injection h' with h'
 injection h' with _ h2 _
theorem DcI.put {w0 wr w1 w2 : World} {img : Nat → ImgS} {D k vc : Nat} {va : Option Addr} {M V : _} {v1 v2 : Value} {o : Obj} (h : DcI w0 wr img D k M V (.slice va k vc)) (hD0 : w0.heap.size ≤ D)
 (i1 : Has w1 wr.heap.size 265 #[v1, .int .i64 (((img k).sz : Nat) : Int), .int .i64 (((img k).dur : Nat) : Int)]) (i2 : w1.ownsRow 0 5 1 v1 (img k).bs.length ((img k).bs.map bcell)) (i3 : ∀ b, v1.ownBlock = some b → wr.heap.size < b) (U1 : Old wr w1)
 (hown : w2.ownsRow 0 180 1 v2 (k + 1) ((List.range k).map (fun j => .pointer (some ⟨M j, 0, none⟩)) ++ [.pointer (some ⟨wr.heap.size, 0, none⟩)])) (hg : (w1.alloc o).grownBy w2 (Value.slice va k vc).ownBlock) (hfr : ∀ b, v2.ownBlock = some b → (Value.slice va k vc).ownBlock = some b ∨ (w1.alloc o).heap.size ≤ b) :
 DcI w0 (w2.setCell ⟨D, 0, none⟩ v2) img D (k + 1) (fun j => if j = k then wr.heap.size else M j) (fun j => if j = k then v1 else V j) v2 := by
 have hDl := h.hD.lt
 have s1 := U1.size
 have U2 : Upd (fun b => (Value.slice va k vc).ownBlock = some b) wr w2 := (((U1.mono (fun _ _ x => x.elim)).alloc o).grown hg (fun k hk => .inl hk))
 have U12 : Upd (fun b => (Value.slice va k vc).ownBlock = some b) w1 w2 := (((Upd.refl _ w1).alloc o).grown hg (fun k hk => .inl hk))
 have hrow : ∀ b, (Value.slice va k vc).ownBlock = some b → b < wr.heap.size := fun b hb => own_lt' h.row hb
 have hrt : ∀ b t c, (Value.slice va k vc).ownBlock = some b → Has wr b t c → t = 180 := fun b t c hb hh => by
  obtain ⟨cur, hcur⟩ := own_has h.row hb
  exact has_types hh hcur
 have nM : ∀ j, j < k → ¬ (Value.slice va k vc).ownBlock = some (M j) := fun j hj e => by have := hrt _ _ _ e (h.im j hj); revert this; decide
 have nV : ∀ j b, j < k → (V j).ownBlock = some b → ¬ (Value.slice va k vc).ownBlock = some b := fun j b hj hb e => by
  obtain ⟨cur, hcur⟩ := own_has (h.by_ j hj) hb
  have := hrt _ _ _ e hcur; revert this; decide
 have nD : ¬ (Value.slice va k vc).ownBlock = some D := fun e => by have := h.rnew _ e; omega
 have U3 := (Upd.refl (fun b => b = D) w2).setCell ⟨D, 0, none⟩ v2 (.inl rfl)
 have hfr2 : ∀ b, v2.ownBlock = some b → D < b := fun b hb => by
  rcases hfr b hb with e | e
  ·exact h.rnew b e
  ·simp at e; omega
 have hD2 := U2.has h.hD nD
 refine ⟨by simpa using hD2.set 0 v2, ?_, fun j hj => ?_, fun j hj => ?_, fun j hj => ?_, fun i j hij hj => ?_, fun i b hi hb => ?_, fun i j b hij hj hb => ?_, hfr2, ((h.old.after U2 (fun b hb e => by have := h.rnew b e; omega)).after U3 (fun b hb e => by omega))⟩
 ·have h2 := U3.own hown (fun b hb e => by have := hfr2 b hb; omega)
  have e : ((List.range (k + 1)).map fun j => Value.pointer (some ⟨(if j = k then wr.heap.size else M j), 0, none⟩)) = (List.range k).map (fun j => Value.pointer (some ⟨M j, 0, none⟩)) ++ [.pointer (some ⟨wr.heap.size, 0, none⟩)] := by
   rw [List.range_succ, List.map_append]
   congr 1
   ·refine List.map_congr_left fun j hj => ?_
    have : j ≠ k := by have := List.mem_range.1 hj; omega
    simp [this]
   ·simp
  rw [e]
  exact h2
 ·(try simp only)
  by_cases e : j = k
  ·subst e
   simp only [if_true]
   exact U3.has (U12.has i1 (fun e => by have := hrow _ e; omega)) (by omega)
  ·simp only [if_neg e]
   have := h.new j (by omega)
   exact U3.has (U2.has (h.im j (by omega)) (nM j (by omega))) (by omega)
 ·by_cases e : j = k
  ·subst e
   simp only [if_true]
   exact U3.own (U12.own i2 (fun b hb e => by have := i3 b hb; have := hrow b e; omega)) (fun b hb e => by have := i3 b hb; omega)
  ·simp only [if_neg e]
   have hk2 : j < k := by omega
   exact U3.own (U2.own (h.by_ j hk2) (fun b hb => nV j b hk2 hb)) (fun b hb e => by have := h.vb j b hk2 hb; have := h.new j hk2; omega)
 ·by_cases e : j = k
  ·simp only [if_pos e]; omega
  ·simp only [if_neg e]; exact h.new j (by omega)
 ·have hi : i ≠ k := by omega
  by_cases e : j = k
  ·simp only [if_pos e, if_neg hi]
   exact (h.im i (by omega)).lt
  ·simp only [if_neg e, if_neg hi]
   exact h.inc i j hij (by omega)
 ·by_cases e : i = k
  ·simp only [if_pos e] at hb ⊢
   exact i3 b hb
  ·simp only [if_neg e] at hb ⊢
   exact h.vb i b (by omega) hb
 ·have hi : i ≠ k := by omega
  simp only [if_neg hi] at hb
  by_cases e : j = k
  ·simp only [if_pos e]
   exact own_lt' (h.by_ i (by omega)) hb
  ·simp only [if_neg e]
   exact h.vi i j b hij (by omega) hb
def DcR (w : World) (img : Nat → ImgS) (n : Nat) (i : Value) (wr : World) : Prop := ∃ (k : Nat) (M' : Nat → Nat) (V' : Nat → Value) (v : Value), k ≤ n + 2 ∧ i = .int .i64 k ∧ DcI w wr img w.heap.size k M' V' v
theorem dsk_made {w : World} {K n : Nat} {a : Option Addr} {cap : Nat} (k0 : w.cell? ⟨K, 0, none⟩ = some (.slice a (n + 2) cap)) :
 Calls Tryz.prog 192 #[.pointer (some ⟨K, 0, none⟩)] w fun e w' => e = .returned (.bool true) ∧ w = w' := by
 have g1 : (0 : Int) < (n : Int) + 2 := by omega
 go_enter Tryz.func192, Tryz.ntmps192
 go_wp2
 go_ret
 exact ⟨by simp [g1], rfl⟩
set_option maxHeartbeats 1000000 in
theorem disk_copy {w : World} {K S cap n : Nat} {img : Nat → ImgS} {M : Nat → Nat} {V : Nat → Value} (k0 : w.cell? ⟨K, 0, none⟩ = some (.slice (some ⟨S, 0, none⟩) (n + 2) cap)) (fs : ∀ i, i < n + 2 → w.cell? ⟨S, i, none⟩ = some (.pointer (some ⟨M i, 0, none⟩))) (fm : ∀ i, i < n + 2 → ImgAt w (M i) (V i) (img i)) (hn : n ≤ 32) :
 Calls Tryz.prog 111 #[.pointer (some ⟨K, 0, none⟩)] w fun e w' => e = .returned (.pointer (some ⟨w.heap.size, 0, none⟩)) ∧ ∃ M' V' v', DcI w w' img w.heap.size (n + 2) M' V' v' := by
 have HFS := Lib.hid fs
 have HFM := Lib.hid (fun (W : World) (U : Old w W) (i : Nat) (hi : i < n + 2) => icopy (w := W) (M := M i) (v := V i) (m := img i) (by
  obtain ⟨⟨t, hM⟩, own, h3, h4, h5, h6⟩ := fm i hi
  exact ⟨⟨t, U.has hM⟩, U.own own (fun _ _ x => x), h3, h4, h5, h6⟩))
 have hKl := World.block_lt_of_cell? w _ k0
 simp only at hKl
 clear fs fm
 obtain ⟨i0, hi0, hz0, hz1, hz2⟩ := info_parts info_pimg
 have g1 : (0 : Int) < (n : Int) + 2 := by omega
 go_enter Tryz.func111, Tryz.ntmps111
 go_wp2_with (first | (go_at_call 192; refine (dsk_made k0).mono ?_; rintro e w1 ⟨rfl, rfl⟩) | go_in)
 have hD0 : Has (w.alloc (.cells #[.slice none 0 0] 241)) w.heap.size 241 #[.slice none 0 0] := Has.new _ _ _
 have O0 : Old w (w.alloc (.cells #[.slice none 0 0] 241)) := (Upd.refl _ w).alloc _
 have hl0 : w.heap.size < (w.alloc (.cells #[.slice none 0 0] 241)).heap.size := by simp
 generalize w.alloc (.cells #[.slice none 0 0] 241) = W at *
 go_loopw [16] (fun i wr => DcR w img n i wr) (fun i _ => n + 2 - (intOf i).toNat)
 case atStart => exact ⟨0, fun _ => 0, fun _ => .slice none 0 0, .slice none 0 0, Nat.zero_le _, rfl, ⟨hD0, World.ownsRow_nil _ _ _ _, fun j hj => by omega, fun j hj => by omega, fun j hj => by omega, fun i j _ hj => by omega, fun i _ h => by omega, fun i j _ _ h => by omega, fun b hb => (by cases hb), O0⟩⟩
 case round =>
  obtain ⟨k, M', V', v, hk, rfl, hA⟩ := hrel
  clear hD0 O0 hl0
  have HA := Lib.hid hA
  by_cases hkn : k < n + 2
  ·have ck := Old.cellOf' hA.old (HFS.out k hkn)
   obtain ⟨va, vc, rfl⟩ := own_slice hA.row
   have cD : wr.cell? ⟨w.heap.size, 0, none⟩ = some (.slice va k vc) := hA.hD.cell 0
   have lD : w.heap.size < wr.heap.size := hA.hD.lt
   have lDk : ∀ j, w.heap.size < wr.heap.size + j := fun j => by omega
   have fD : wr.frozen? ⟨w.heap.size, 0, none⟩ = false := hA.hD.frozen 0
   clear hA
   go_wp2
   refine wp_only ?_
   refine wp_region_held (S := fun x' => True) (by kernel_rfl) ?_
   have hS : True := trivial
   refine wpAnyH_take (i := 0) (v := .pointer (some ⟨w.heap.size, 0, none⟩)) rfl (by kernel_rfl) (by kernel_rfl) (by kernel_rfl) (fun _ _ _ h => h) (Or.inl ⟨by rfl, fun w' s1 => by go_simp⟩) hS ?_
   simp only [Act.put, List.setIfInBounds_toArray, List.set_cons_zero, List.set_cons_succ]
   refine wpAnyH_take (i := 1) (v := .pointer (some ⟨w.heap.size, 0, none⟩)) rfl (by kernel_rfl) (by kernel_rfl) (by kernel_rfl) (fun _ _ _ h => h) (Or.inl ⟨by rfl, fun w' s1 => by go_simp⟩) hS ?_
   simp only [Act.put, List.setIfInBounds_toArray, List.set_cons_zero, List.set_cons_succ]
   refine wpAnyH_take (i := 2) (v := .pointer (some ⟨w.heap.size, 0, none⟩)) rfl (by kernel_rfl) (by kernel_rfl) (by kernel_rfl) (fun _ _ _ h => h) (Or.inl ⟨by rfl, fun w' s1 => by go_simp⟩) hS ?_
   simp only [Act.put, List.setIfInBounds_toArray, List.set_cons_zero, List.set_cons_succ]
   refine wpAnyH_take (i := 3) (v := .pointer (some ⟨w.heap.size, 0, none⟩)) rfl (by kernel_rfl) (by kernel_rfl) (by kernel_rfl) (fun _ _ _ h => h) (Or.inl ⟨by rfl, fun w' s1 => by go_simp⟩) hS ?_
   simp only [Act.put, List.setIfInBounds_toArray, List.set_cons_zero, List.set_cons_succ]
   refine wpAnyH_take (i := 5) (v := .pointer (some ⟨M k, 0, none⟩)) rfl (by kernel_rfl) (by kernel_rfl) (by kernel_rfl) (fun _ _ _ h => h) (Or.inl ⟨by rfl, fun w' s1 => by go_simp⟩) hS ?_
   simp only [Act.put, List.setIfInBounds_toArray, List.set_cons_zero, List.set_cons_succ]
   refine wpAnyH_ready (rs := [4, 6]) (by kernel_rfl) (by simp) ?_
   refine AllReadyH.cons rfl (fun K' hK => ?_) (AllReadyH.cons rfl (fun K' hK => ?_) AllReadyH.nil)
   case' refine_1 =>
    go_simp
    refine hK.out _ _ trivial (fun _ => ?_)
    refine wpAnyH_ready (rs := [6]) (by kernel_rfl) (by simp) ?_
    refine AllReadyH.cons rfl (fun K' hK => ?_) AllReadyH.nil
    go_simp
    refine (HFM.out wr.drew HA.out.old.drew k hkn).mono ?_
    rintro e w1 ⟨v1, rfl, i1, i2, i3, i4⟩
    have U1 : Old wr w1 := Upd.trans ((Upd.refl _ wr).drew) i4
    have cD1 := Old.cellOf' U1 cD
    have HI := Lib.hid (And.intro i1 (And.intro i2 (And.intro i3 U1)))
    clear i1 i2 i3 i4 U1
    refine hK.out _ _ trivial (fun _ => ?_)
    refine wpAnyH_ready (rs := [7]) (by kernel_rfl) (by simp) ?_
    refine AllReadyH.cons rfl (fun K' hK => ?_) AllReadyH.nil
    go_simp
    refine hK.out _ _ trivial (fun _ => ?_)
   case' refine_2 =>
    go_simp
    refine (HFM.out wr.drew HA.out.old.drew k hkn).mono ?_
    rintro e w1 ⟨v1, rfl, i1, i2, i3, i4⟩
    have U1 : Old wr w1 := Upd.trans ((Upd.refl _ wr).drew) i4
    have cD1 := Old.cellOf' U1 cD
    have lD1 := World.block_lt_of_cell? w1 _ cD1
    have HI := Lib.hid (And.intro i1 (And.intro i2 (And.intro i3 U1)))
    clear i1 i2 i3 i4 U1
    refine hK.out _ _ trivial (fun _ => ?_)
    refine wpAnyH_ready (rs := [4, 7]) (by kernel_rfl) (by simp) ?_
    refine AllReadyH.cons rfl (fun K' hK => ?_) (AllReadyH.cons rfl (fun K' hK => ?_) AllReadyH.nil)
   case' refine_2.refine_1 =>
    go_simp
    refine hK.out _ _ trivial (fun _ => ?_)
    refine wpAnyH_ready (rs := [7]) (by kernel_rfl) (by simp) ?_
    refine AllReadyH.cons rfl (fun K' hK => ?_) AllReadyH.nil
    go_simp
    refine hK.out _ _ trivial (fun _ => ?_)
   case' refine_2.refine_2 =>
    go_simp
    refine hK.out _ _ trivial (fun _ => ?_)
    refine wpAnyH_ready (rs := [4]) (by kernel_rfl) (by simp) ?_
    refine AllReadyH.cons rfl (fun K' hK => ?_) AllReadyH.nil
    go_simp
    refine hK.out _ _ trivial (fun _ => ?_)
   all_goals
    refine wpAnyH_ready (rs := [8]) (by kernel_rfl) (by simp) ?_
    refine AllReadyH.cons rfl (fun K' hK => ?_) AllReadyH.nil
    refine wp_append_mk (.tmp 24) (.tmp 27) 239 rfl 180 i0 (.pointer none) 1 8 Tryz.underlying239 hi0 hz0 hz1 hz2 rfl (by decide) (.slice va k vc) k _ rfl (Upd.own ((Upd.refl (fun _ => False) w1).alloc _) (Upd.own HI.out.2.2.2 HA.out.row (fun _ _ x => x)) (fun _ _ x => x)) ⟨w1.heap.size, 0, none⟩ 1 1 [.pointer (some ⟨wr.heap.size, 0, none⟩)] rfl rfl (one_new w1 _ _) (by simp [Value.oneCell']) (by unfold maxLen; omega) (by omega) ?_
    intro v2 w2 hown2 hgrow2 hfresh2
    obtain ⟨a2, c2, rfl⟩ := own_slice hown2
    have hP := HA.out.put (Nat.le_refl _) HI.out.1 HI.out.2.1 HI.out.2.2.1 HI.out.2.2.2 hown2 hgrow2 hfresh2
    have hD2 : ∃ t c0, Has w2 w.heap.size t #[c0] := by
     have U2 : Upd (fun b => (Value.slice va k vc).ownBlock = some b) wr w2 := (((HI.out.2.2.2.mono (fun _ _ x => x.elim)).alloc _).grown hgrow2 (fun k hk => .inl hk))
     exact ⟨_, _, U2.has HA.out.hD (fun e => by have := HA.out.rnew _ e; omega)⟩
    obtain ⟨tD, c0, hD2⟩ := hD2
    have cD2 : w2.cell? ⟨w.heap.size, 0, none⟩ = some c0 := hD2.cell 0
    have fD2 : w2.frozen? ⟨w.heap.size, 0, none⟩ = false := hD2.frozen 0
    have lD2 := hD2.lt
    have HP := Lib.hid hP
    clear hP hD2 hown2 hgrow2 hfresh2
    refine hK.out _ _ trivial (fun _ => ?_)
    refine wpAnyH_take (i := 9) (v := .pointer (some ⟨w.heap.size, 0, none⟩)) rfl (by kernel_rfl) (by kernel_rfl) (by kernel_rfl) (fun _ _ _ h => h) (Or.inl ⟨by rfl, fun w' s1 => by go_simp⟩) hS ?_
    simp only [Act.put, List.setIfInBounds_toArray, List.set_cons_zero, List.set_cons_succ]
    refine wpAnyH_take (i := 10) (v := .pointer (some ⟨w.heap.size, 0, none⟩)) rfl (by kernel_rfl) (by kernel_rfl) (by kernel_rfl) (fun _ _ _ h => h) (Or.inl ⟨by rfl, fun w' s1 => by go_simp⟩) hS ?_
    simp only [Act.put, List.setIfInBounds_toArray, List.set_cons_zero, List.set_cons_succ]
    refine wpAnyH_ready (rs := [11]) (by kernel_rfl) (by simp) ?_
    refine AllReadyH.cons rfl (fun K' hK => ?_) AllReadyH.nil
    go_simp
    refine hK.out _ _ trivial (fun _ => wpAnyH_done (by kernel_rfl) ?_ _)
    refine only_n ?_
    go_wp2
    go_roundw
    case rel => exact ⟨k + 1, _, _, _, by omega, by go_num, HP.out⟩
    case measure => simp [intOf]; omega
  ·obtain rfl : k = n + 2 := by omega
   clear hA
   go_wp2
   go_ret
   exact ⟨rfl, M', V', v, HA.out⟩
def whichV (V : Nat → Value) (k b : Nat) : Option Nat := (List.range k).find? fun i => (V i).ownBlock == some b
theorem whichV_some {V : Nat → Value} {k i b : Nat} (hm : ∀ i j, i < k → j < k → (V i).ownBlock = some b → (V j).ownBlock = some b → i = j) (hi : i < k) (hb : (V i).ownBlock = some b) : whichV V k b = some i := by
 unfold whichV
 rcases h : (List.range k).find? (fun j => (V j).ownBlock == some b) with _ | j
 ·rw [List.find?_eq_none] at h
  have := h i (List.mem_range.2 hi)
  simp [hb] at this
 ·have h1 := List.find?_some h
  have h2 := List.mem_of_find?_eq_some h
  simp only [beq_iff_eq] at h1
  rw [List.mem_range] at h2
  rw [hm i j hi h2 hb h1]
def devColV (q D K S T : Nat) (M : Nat → Nat) (V : Nat → Value) (k : Nat) : Col := fun b => if b = D then (q, 0) else if b = K then (q, 1) else if b = S then (q, 2) else if b = T then (q, 3) else match whichM M k b with | some i => (q, 4 + 2 * i) | none => match whichV V k b with | some i => (q, 5 + 2 * i) | none => (0, 0)
theorem dev_cp_at {w w1 w2 w3 : World} {col : Col} {q D : Nat} {s : DevS} {K S cap T : Nat} {M : Nat → Nat} {V : Nat → Value} (h : DevAt w col q D s K S cap T M V) {M' : Nat → Nat} {V' : Nat → Value} {v' : Value} (hC : DcI w.drew w1 s.img w.heap.size (s.n + 2) M' V' v') (hT : Has w2 w1.heap.size 184 #[.bool true, .pointer none]) (hO : Old w1 w2) (hU : Old w2 w3)
 (hD : Has w3 w2.heap.size 112 #[.pointer (some ⟨w.heap.size, 0, none⟩), .pointer (some ⟨w1.heap.size, 0, none⟩), .int .i64 ((s.n : Nat) : Int), .int .i64 s.ops, .bool s.down]) (q' : Nat) :
 ∃ c, ∀ col', Newly w w3 c col' → ∃ K' S' cap' T' M' V', DevAt w3 col' q' w2.heap.size s K' S' cap' T' M' V' := by
 obtain ⟨g, cap', hv⟩ := own_block hC.row (by omega)
 subst hv
 have hg := hC.rnew g rfl
 have hg1 : g < w1.heap.size := own_lt' hC.row rfl
 have hT1 := hT.lt
 have hUo : Old w1 w3 := Upd.trans hO hU
 have s3 := hU.size
 have hDl := hD.lt
 obtain ⟨cg, hcg⟩ := own_has hC.row (b := g) rfl
 have nM : ∀ i, i < s.n + 2 → M' i ≠ g := fun i hi e => by
  have := hC.im i hi
  rw [e] at this
  have := has_types this hcg
  revert this; decide
 have nV : ∀ i, i < s.n + 2 → ∀ b, (V' i).ownBlock = some b → b ≠ g := fun i hi b hb e => by
  obtain ⟨cur, hcur⟩ := own_has (hC.by_ i hi) hb
  rw [e] at hcur
  have := has_types hcur hcg
  revert this; decide
 have lM : ∀ i, i < s.n + 2 → M' i < w1.heap.size := fun i hi => (hC.im i hi).lt
 have lV : ∀ i, i < s.n + 2 → ∀ b, (V' i).ownBlock = some b → b < w1.heap.size := fun i hi b hb => own_lt' (hC.by_ i hi) hb
 have nMV : ∀ i, i < s.n + 2 → ∀ b, (V' i).ownBlock = some b → ∀ j, j < s.n + 2 → M' j ≠ b := fun i hi b hb j hj e => by
  rcases Nat.lt_or_ge i j with h1 | h1
  ·have := hC.vi i j b h1 hj hb; omega
  ·have h2 := hC.vb i b hi hb
   rcases Nat.lt_or_ge j i with h3 | h3
   ·have := hC.inc j i h3 hi; omega
   ·have : i = j := by omega
    subst this; omega
 have iV : ∀ b, ∀ i j, i < s.n + 2 → j < s.n + 2 → (V' i).ownBlock = some b → (V' j).ownBlock = some b → i = j := fun b i j hi hj h1 h2 => by
  rcases Nat.lt_trichotomy i j with h3 | h3 | h3
  ·have := hC.vi i j b h3 hj h1; have := hC.vb j b hj h2; omega
  ·exact h3
  ·have := hC.vi j i b h3 hi h2; have := hC.vb i b hi h1; omega
 refine ⟨devColV q' w2.heap.size w.heap.size g w1.heap.size M' V' (s.n + 2), fun col' hn => ⟨w.heap.size, g, cap', w1.heap.size, M', V', ⟨_, hD⟩, ⟨_, Old.has hUo hC.hD⟩, ⟨_, Old.has hU hT⟩, fun i hi => ?_, fun i hi => ⟨⟨_, Old.has hUo (hC.im i hi)⟩, hUo.own (hC.by_ i hi) (fun _ _ x => x), (h.fm i hi).fits, (h.fm i hi).durs, (h.fm i hi).pos, (h.fm i hi).most⟩, h.lo, h.hi, ?_, ?_, ?_, ?_, fun i hi => ?_, fun i hi b hb => ?_, h.ops0, h.ops1⟩⟩
 ·have h2 := (Upd.own hUo hC.row (fun _ _ x => x)).cells (g := g) rfl i (.pointer (some ⟨M' i, 0, none⟩)) (by rw [List.getElem?_map, List.getElem?_range hi]; rfl)
  rwa [show (⟨g, 0, none⟩ : Addr).add i = ⟨g, i, none⟩ from by unfold Addr.add; split <;> simp_all] at h2
 ·rw [hn _ (by omega) hDl]; unfold devColV; rw [if_pos rfl]
 ·rw [hn _ (by omega) (by omega)]; unfold devColV; rw [if_neg (by omega), if_pos rfl]
 ·rw [hn _ (by omega) (by omega)]; unfold devColV; rw [if_neg (by omega), if_neg (by omega), if_pos rfl]
 ·rw [hn _ (by omega) (by omega)]; unfold devColV; rw [if_neg (by omega), if_neg (by omega), if_neg (by omega), if_pos rfl]
 ·have h1 := hC.new i hi
  have h2 := lM i hi
  rw [hn _ (by omega) (by omega)]; unfold devColV; rw [if_neg (by omega), if_neg (by omega), if_neg (nM i hi), if_neg (by omega), whichM_some hC.inc hi]
 ·have h0 := hC.new i hi
  have h1 := hC.vb i b hi hb
  have h2 := lV i hi b hb
  rw [hn _ (by omega) (by omega)]; unfold devColV; rw [if_neg (by omega), if_neg (by omega), if_neg (nV i hi b hb), if_neg (by omega), whichM_none (nMV i hi b hb), whichV_some (iV b) hi hb]
set_option maxHeartbeats 1000000 in
theorem dev_copy {w : World} {col : Col} {q D : Nat} {s : DevS} {K S cap T : Nat} {M : Nat → Nat} {V : Nat → Value} (h : DevAt w col q D s K S cap T M V) (q' : Nat) :
 Calls Tryz.prog 43 #[.pointer (some ⟨D, 0, none⟩)] w fun e w' => ∃ C c, e = .returned (.pointer (some ⟨C, 0, none⟩)) ∧ Old w w' ∧ ∀ col', Newly w w' c col' → ∃ K' S' cap' T' M' V', DevAt w' col' q' C s K' S' cap' T' M' V' := by
 obtain ⟨td, fd⟩ := h.fd
 obtain ⟨tk, fk⟩ := h.fk
 obtain ⟨tt, ft⟩ := h.ft
 have d0 : w.cell? ⟨D, 0, none⟩ = some (.pointer (some ⟨K, 0, none⟩)) := fd.cell 0
 have d1 : w.cell? ⟨D, 1, none⟩ = some (.pointer (some ⟨T, 0, none⟩)) := fd.cell 1
 have d2 : w.cell? ⟨D, 2, none⟩ = some (.int .i64 ((s.n : Nat) : Int)) := fd.cell 2
 have d3 : w.cell? ⟨D, 3, none⟩ = some (.int .i64 s.ops) := fd.cell 3
 have d4 : w.cell? ⟨D, 4, none⟩ = some (.bool s.down) := fd.cell 4
 have HD := Lib.hid (fun (W : World) (U : Old w W) => disk_copy (w := W) (K := K) (S := S) (cap := cap) (n := s.n) (img := s.img) (M := M) (V := V) (Old.cellOf' U (fk.cell 0)) (fun i hi => Old.cellOf' U (h.fs i hi)) (fun i hi => by
  obtain ⟨⟨t, hM⟩, own, h3, h4, h5, h6⟩ := h.fm i hi
  exact ⟨⟨t, Old.has U hM⟩, U.own own (fun _ _ x => x), h3, h4, h5, h6⟩) h.hi)
 have HT := Lib.hid (fun (W : World) (U : Old w W) => tm_copy (w := W) (T := T) (Old.cellOf' U (ft.cell 0)) (Old.cellOf' U (ft.cell 1)))
 have HH := Lib.hid h
 have hn : 0 < s.n := by have := h.lo; omega
 clear fd fk ft h
 go_enter Tryz.func43, Tryz.ntmps43
 go_wp2_with go_in
 go_region_held3 (fun x => x.cell? ⟨D, 0, none⟩ = some (.pointer (some ⟨K, 0, none⟩)) ∧ x.cell? ⟨D, 1, none⟩ = some (.pointer (some ⟨T, 0, none⟩)) ∧ x.cell? ⟨D, 2, none⟩ = some (.int .i64 ((s.n : Nat) : Int)) ∧ x.cell? ⟨D, 3, none⟩ = some (.int .i64 s.ops) ∧ x.cell? ⟨D, 4, none⟩ = some (.bool s.down))
  (first | go_keep | (exact ⟨Old.cellOf' U1.out d0, Old.cellOf' U1.out d1, Old.cellOf' U1.out d2, Old.cellOf' U1.out d3, Old.cellOf' U1.out d4⟩) | (exact ⟨Old.cellOf' U2.out d0, Old.cellOf' U2.out d1, Old.cellOf' U2.out d2, Old.cellOf' U2.out d3, Old.cellOf' U2.out d4⟩))
  (first | (go_at_call 111; refine (HD.out _ ?_).mono ?_; (exact (Upd.refl _ w).drew); rintro e w1 ⟨rfl, M', V', v', hC⟩; have HC := Lib.hid hC; have U1 := Lib.hid (show Old w w1 from Upd.trans ((Upd.refl _ w).drew) hC.old); clear hC HD) | (go_at_call 112; refine (HT.out _ U1.out).mono ?_; rintro e w2 ⟨rfl, hT2, hO2⟩; have HT2 := Lib.hid (And.intro hT2 hO2); have U2 := Lib.hid (Upd.trans U1.out hO2); clear hT2 hO2 HT))
 go_wp2
 go_ret
 have hU3 := (Upd.refl (fun _ => False) w2).alloc (.cells #[.pointer (some ⟨w.heap.size, 0, none⟩), .pointer (some ⟨w1.heap.size, 0, none⟩), .int .i64 ((s.n : Nat) : Int), .int .i64 s.ops, .bool s.down] 112)
 obtain ⟨c, hc⟩ := dev_cp_at HH.out HC.out HT2.out.1 HT2.out.2 hU3 (Has.new w2 _ _) q'
 exact ⟨w2.heap.size, c, rfl, Upd.trans U2.out hU3, hc⟩
end Go.M
namespace Go.M
open Go.Proofs Go.RowKit
set_option linter.unusedSimpArgs false
def idxColV (q X O S n : Nat) (mv : Value) (sv : Nat → Value) : Col := fun b => if b = X then (q, 0) else if b = O then (q, 1) else if b = S then (q, 2) else if mv.ownBlock = some b then (q, 3) else match whichV sv n b with | some i => (q, 5 + i) | none => (q, 4)
theorem IdxC.copy {w : World} {col : Col} {q X n : Nat} {M : ByteArray → List Ent} {s : IdxS} (h : IdxC w col q X n M s) (q' : Nat) :
 Calls Tryz.prog 28 #[.pointer (some ⟨X, 0, none⟩)] w fun e w' => ∃ C c x', e = .returned (.pointer (some ⟨C, 0, none⟩)) ∧ Old w w' ∧ x'.es = s.es ∧ ∀ col', Newly w w' c col' → IdxC w' col' q' C n M x' := by
 obtain ⟨t, fX⟩ := h.fX
 have hc : ∀ i, i < n → w.cell? ⟨s.S, i, none⟩ = some (s.sv i) := fun i hi => by
  have := h.fS.cell i
  rwa [h.fs i hi] at this
 refine (xcopy (fX.cell 0) (fX.cell 1) h.lo h.hi h.kv (fun j hj => ⟨hc j hj, h.own j hj, by have := h.len j hj; omega⟩)).mono ?_
 rintro e w' ⟨rfl, hU, rv, sv', mv', n', key', val', kz', L, hm, hs, hL⟩
 obtain ⟨g, cap, hrv⟩ := own_block hs.own h.lo
 subst hrv
 have hg := hs.rb g rfl
 have hgl := own_lt' hs.own (b := g) rfl
 obtain ⟨cg, hcg⟩ := own_has hs.own (b := g) rfl
 obtain ⟨tX, hX⟩ := hs.hX
 have hXl := hX.lt
 obtain ⟨tO, hO⟩ := hm.kv.om.made
 have sg : ∀ i, i < n → ∀ b, (sv' i).ownBlock = some b → b ≠ g ∧ mv'.ownBlock ≠ some b ∧ w.heap.size + 4 ≤ b ∧ b < w'.heap.size := fun i hi b hb => by
  obtain ⟨cur, hcur⟩ := own_has (hs.row i hi) hb
  refine ⟨fun e => ?_, fun e => ?_, by have := hs.sb i hi b hb; omega, own_lt' (hs.row i hi) hb⟩
  ·rw [e] at hcur
   have := has_types hcur hcg
   revert this; decide
  ·obtain ⟨c2, h2⟩ := own_has hm.kv.om.own e
   have := has_types hcur h2
   revert this; decide
 have mg : ∀ b, mv'.ownBlock = some b → b ≠ g ∧ w.heap.size + 4 ≤ b ∧ b < w'.heap.size := fun b hb => by
  refine ⟨fun e => ?_, hm.mb b hb, own_lt' hm.kv.om.own hb⟩
  obtain ⟨c2, h2⟩ := own_has hm.kv.om.own hb
  rw [e] at h2
  have := has_types h2 hcg
  revert this; decide
 have iV : ∀ b, ∀ i j, i < n → j < n → (sv' i).ownBlock = some b → (sv' j).ownBlock = some b → i = j := fun b i j hi hj h1 h2 => by
  rcases Nat.lt_trichotomy i j with h3 | h3 | h3
  ·have := hs.inc i j h3 hj b b h1 h2; omega
  ·exact h3
  ·have := hs.inc j i h3 hi b b h2 h1; omega
 refine ⟨w.heap.size + 1, idxColV q' (w.heap.size + 1) w.heap.size g n mv' sv', { s with O := w.heap.size, S := g, c := cap, tS := 142, cS := cg, mv := mv', mn := n', key := key', val := val', sv := sv', kz := kz' }, rfl, hU, rfl, fun col' hn => ⟨⟨tX, hX⟩, hcg, fun i hi => ?_, ⟨hm.kv.om, hm.kv.n5, hm.kv.mO, hm.kv.row, hm.kv.len, hm.kv.sep, hm.kv.mp, hm.kv.on, hm.kv.inj, fun r hr b hb => ?_⟩, hs.row, h.len, ?_, ?_, ?_, fun b hb => ?_, fun i hi b hb => ?_, h.lo, h.hi, h.con⟩⟩
 ·have h2 := hs.own.cells (g := g) rfl i (sv' i) (by rw [List.getElem?_map, List.getElem?_range hi]; rfl)
  rw [show (⟨g, 0, none⟩ : Addr).add i = ⟨g, i, none⟩ from by unfold Addr.add; split <;> simp_all] at h2
  rw [← hcg.cell]
  exact h2
 ·obtain ⟨b1, b2⟩ := hm.kv.bl r hr b hb
  obtain ⟨b3, b4⟩ := hm.kv.sep r hr b hb
  have bg : b ≠ g := fun e => by
   obtain ⟨cur, hcur⟩ := own_has (hm.kv.row r hr) hb
   rw [e] at hcur
   have := has_types hcur hcg
   revert this; decide
  have hnone : whichV sv' n b = none := by
   unfold whichV
   rw [List.find?_eq_none]
   intro i hi
   rw [List.mem_range] at hi
   simp only [beq_iff_eq]
   intro e
   have := hs.sb i hi b e
   omega
  show col' b = _
  rw [hn b (by omega) (own_lt' (hm.kv.row r hr) hb)]
  unfold idxColV
  rw [if_neg (by omega), if_neg (by omega), if_neg bg, if_neg b4, hnone]
 ·rw [hn _ (by omega) hXl]; unfold idxColV; rw [if_pos rfl]
 ·show col' w.heap.size = _
  rw [hn _ (by omega) hO.lt]; unfold idxColV; rw [if_neg (by omega), if_pos rfl]
 ·show col' g = _
  rw [hn _ (by omega) hgl]; unfold idxColV; rw [if_neg (by omega), if_neg (by omega), if_pos rfl]
 ·obtain ⟨b1, b2, b3⟩ := mg b hb
  show col' b = _
  rw [hn _ (by omega) b3]; unfold idxColV; rw [if_neg (by omega), if_neg (by omega), if_neg b1, if_pos hb]
 ·obtain ⟨b1, b2, b3, b4⟩ := sg i hi b hb
  rw [hn _ (by omega) b4]; unfold idxColV; rw [if_neg (by omega), if_neg (by omega), if_neg b1, if_neg b2, whichV_some (iV b) hi hb]
end Go.M
