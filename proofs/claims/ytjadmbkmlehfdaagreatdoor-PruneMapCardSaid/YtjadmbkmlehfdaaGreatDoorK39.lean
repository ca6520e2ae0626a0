/- Walks 39. -/
import Derived.Test.YtjadmbkmlehfdaaGreatDoorProg
import Derived.Test.YtjadmbkmlehfdaaGreatDoorK38
import Derived.Test.YtjadmbkmlehfdaaGreatDoorK27
set_option linter.unusedVariables false
set_option linter.unusedSimpArgs false
set_option maxRecDepth 100000
namespace Go.M
open Go.Proofs Go.RowKit Go.Shelf
set_option linter.unusedSimpArgs false
attribute [local go_sem] Oper.semAt_some
variable {w : World} {col : Col} {PP D B X n r : Nat} {s : DevS} {st : Nat → Nat} {M : ByteArray → List Ent} {x : IdxS}
def hitB (a : Bool) (i : Nat) (e y : Ent) : Bool := a && decide (y.slot = i) && decide (y.seq = e.seq)
def NoHit (a : Bool) (i : Nat) (e : Ent) (pre : List {x : Ent // True}) : Prop := ∀ y ∈ pre, hitB a i e y.1 = false
def AHit (a : Bool) (i : Nat) (e : Ent) (pre : List {x : Ent // True}) : Prop := ∃ y ∈ pre, hitB a i e y.1 = true
def Had (w W0 W : World) : Prop := Upd (fun b => b = w.heap.size + 1 + 1 + 1 + 1 ∨ b = w.heap.size + 1 + 1 + 1 + 1 + 1) W0 W ∧ W.cell? ⟨w.heap.size + 1 + 1 + 1 + 1, 0, none⟩ = some (.int .i64 0) ∧ W.cell? ⟨w.heap.size + 1 + 1 + 1 + 1 + 1, 0, none⟩ = some (.int .i64 6)
theorem Had.grown {w W0 X Y : World} {row : Option Nat} (h : Had w W0 X) (hg : X.grownBy Y row) (hr : ∀ k, row = some k → W0.heap.size ≤ k ∧ ∃ o : Obj, X.heap[k]? = some o ∧ o.isCells = false) : Had w W0 Y :=
 ⟨h.1.grown hg (fun k e => .inr (hr k e).1), cell_kept h.2.1 hg (fun k e => (hr k e).2), cell_kept h.2.2 hg (fun k e => (hr k e).2)⟩
def CopS (w : World) (col : Col) (PP D B X n r size zm : Nat) (o : Int) (c : Nat) (w' : World) : Prop :=
 ∃ col' s' st' M' x', EIn w' col' PP D B X n s' r st' M' x' ∧ POk n size zm s' st' x'.es (o + 3) ∧ IdxLe (c + 1) n M' x' ∧ Upd (EF col) w w' ∧ Kept w col col'
def CopPost (w : World) (col : Col) (PP D B X n r size zm : Nat) (o : Int) (c : Nat) (en : Ending) (w' : World) : Prop :=
 (∃ m k : Int, en = .returned (.tuple #[.int .i64 m, .int .i64 k]) ∧ (k = 0 ∨ k = 4 ∨ k = 6)) ∧ CopS w col PP D B X n r size zm o c w'
theorem CopS.same {w w' : World} {col : Col} {PP D B X n r size zm c : Nat} {o : Int} {s : DevS} {st : Nat → Nat} {M : ByteArray → List Ent} {x : IdxS} (h : EIn w col PP D B X n s r st M x) (ok : POk n size zm s st x.es o) (hle : IdxLe c n M x) (U : Old w w') : CopS w col PP D B X n r size zm o c w' :=
 ⟨col, s, st, M, x, h.old U, ok.mono (by omega), hle.mono (by omega), U.mono (fun _ _ h => h.elim), Kept.refl _ _⟩
theorem two_put {W : World} {R DM : Nat} {t1 t2 : TypeId} {a b u v : Value} (h1 : Has W R t1 #[a]) (h2 : Has W (R + 1) t2 #[b]) (hK : W.heap[DM]? = some (.deferred (some []))) (hD : R + 1 < DM) :
 ((W.setCell ⟨R, 0, none⟩ u).setCell ⟨R + 1, 0, none⟩ v).heap[DM]? = some (.deferred (some [])) ∧ (((W.setCell ⟨R, 0, none⟩ u).setCell ⟨R + 1, 0, none⟩ v).putObj DM (.deferred none)).cell? ⟨R, 0, none⟩ = some u ∧ (((W.setCell ⟨R, 0, none⟩ u).setCell ⟨R + 1, 0, none⟩ v).putObj DM (.deferred none)).cell? ⟨R + 1, 0, none⟩ = some v ∧
   Upd (fun b => b = R ∨ b = R + 1 ∨ b = DM) W (((W.setCell ⟨R, 0, none⟩ u).setCell ⟨R + 1, 0, none⟩ v).putObj DM (.deferred none)) := by
 have hK2 : ((W.setCell ⟨R, 0, none⟩ u).setCell ⟨R + 1, 0, none⟩ v).heap[DM]? = some (.deferred (some [])) := (Below.heap_setCell _ ⟨R + 1, 0, none⟩ _ DM (by show DM ≠ R + 1; omega)).trans ((Below.heap_setCell W ⟨R, 0, none⟩ _ DM (by show DM ≠ R; omega)).trans hK)
 have i1 : Has ((W.setCell ⟨R, 0, none⟩ u).setCell ⟨R + 1, 0, none⟩ v) R t1 #[u] := by simpa using (h1.set 0 u).setOther (a := ⟨R + 1, 0, none⟩) (by simp) v
 have i2 : Has ((W.setCell ⟨R, 0, none⟩ u).setCell ⟨R + 1, 0, none⟩ v) (R + 1) t2 #[v] := by simpa using (h2.setOther (a := ⟨R, 0, none⟩) (by simp) u).set 0 v
 have hG : ((W.setCell ⟨R, 0, none⟩ u).setCell ⟨R + 1, 0, none⟩ v).grownBy _ (some DM) := grownBy_putObj' _ DM (.deferred none)
 exact ⟨hK2, cell_kept (i1.cell 0) hG (fun k e => by cases e; exact ⟨_, hK2, rfl⟩), cell_kept (i2.cell 0) hG (fun k e => by cases e; exact ⟨_, hK2, rfl⟩), (((Upd.refl _ W).setCell _ _ (.inl (.inl rfl))).setCell _ _ (.inl (.inr (.inl rfl)))).grown hG (fun k e => by cases e; exact .inl (.inr (.inr rfl)))⟩
theorem CpQ.fin {w WA W W' : World} {col : Col} {PP D B X n r size zm c L Bb C j : Nat} {o : Int} {st1 : Nat → Nat} {M : ByteArray → List Ent} {x : IdxS} {S1 : DevS → Prop} {e : Ent} {F : Nat → Prop} (hO : Old w WA) (hc : ∀ b, w.heap.size ≤ b → (col b).1 = 0) (hg : 0 < w.heap.size ∧ 3 < w.heap.size ∧ 1 < w.heap.size) (hp : CpPlan n size zm x o e j st1 S1) (hQ : CpQ WA col PP D B X n r S1 st1 M x L Bb C j c e 5 W) (hL : w.heap.size ≤ L) (hB : w.heap.size ≤ Bb) (hC : w.heap.size ≤ C) (U : Upd F W W') (hF : ∀ b, F b → w.heap.size ≤ b ∧ b < WA.heap.size) : CopS w col PP D B X n r size zm o c W' := by
 obtain ⟨s1, h1, hP⟩ := hQ.2 (by omega)
 obtain ⟨col1, M1, x1, hK, U1, -, hE, ⟨rfl, hx, hle⟩, -⟩ := hP.2 (by omega)
 replace hE : EIn W col1 PP D B X n (appD s1 j (recB s1 e)) r st1 (addM M (copyE s1 e j)) x1 := hE
 have sz := hO.size
 refine ⟨col1, _, st1, _, x1, hE.box U (fun b hb => by obtain ⟨h2, h3⟩ := hF b hb; rw [hK b h3, hc b h2]) ⟨fun h => by have := (hF _ h).1; omega, fun h => by have := (hF _ h).1; omega, fun h => by have := (hF _ h).1; omega⟩, by rw [hx]; exact hp.fin s1 h1, hle, ?_, fun b hb => hK b (by omega)⟩
 refine ((hO.mono (fun _ _ h => h.elim)).after U1 (fun b hb h => ?_)).after U (fun b hb h => by have := (hF b h).1; omega)
 rcases h with h | h | h | h
 ·exact h
 ·omega
 ·omega
 ·omega
set_option maxHeartbeats 1600000 in
theorem EIn.ocopy (h : EIn w col PP D B X n s r st M x) {size zm c : Nat} {o : Int} (ok : POk n size zm s st x.es o) (hle : IdxLe c n M x) (hcl : c < 100) (hoo : o ≤ 800000000) {e : Ent} (hes : e.slot < n) (hee : e ∈ x.es e.slot) :
 Calls Tryz.prog 69 #[.pointer (some ⟨D, 0, none⟩), .pointer (some ⟨B, 0, none⟩), .pointer (some ⟨X, 0, none⟩), e.val] w (CopPost w col PP D B X n r size zm o c) := by
 have he : e ∈ M e.key := (h.idx.con.a _ hes e hee).2
 have hz : e.size ≤ 8192 := by have := (ok.ent _ hes e hee).2.2.2; have := ok.zs; have := ok.z8; omega
 have hs : ∀ i, i < n → (s.img i).sz ≤ 8192 ∧ (s.img i).bs.length ≤ (s.img i).sz := fun i hi => by
  obtain ⟨K, S, cap, T, Mi, V, hd⟩ := h.dev
  have := hd.fm i (by have := h.sn; omega)
  exact ⟨this.most, this.fits⟩
 have HC := Lib.hid (fun (W : World) (U : Old w W) => (h.old U).cost he hz hs)
 have HF := Lib.hid (fun (W : World) (U : Old w W) => (h.old U).fits hz hs)
 obtain ⟨tX, fX⟩ := h.idx.fX
 have HH := Lib.hid h
 clear h he hs
 have HOK := Lib.hid (And.intro ok (And.intro hle (And.intro hes hee)))
 clear ok hle hee
 generalize hfv : fitsV n s st e.size = f at *
 obtain ⟨i, a, b⟩ := f
 simp only at HF
 generalize costV (i, a, b) e.size = cv at HC
 unfold Ent.val at HC ⊢
 refine (callsIn_wide (n := 8)).1 ?_
 refine callsIn_of_wp_marks Tryz.func69 rfl trivial ?_ rfl
 simp only [Tryz.ntmps69, List.size_toArray, List.length_cons, List.length_nil, Nat.reduceAdd, Nat.reduceSub, Array.replicate_succ, Array.replicate_zero, List.push_toArray, List.append_toArray, List.nil_append, List.cons_append]
 refine wpIn_wide.2 ?_
 go_wp2_with (first | (go_at_call 143; refine (HC.out _ ?_).mono ?_; (exact ((((((Upd.refl _ w).alloc _).alloc _).alloc _).alloc _).alloc _).alloc _); rintro en w1 ⟨rfl, hU⟩; have a0 : w1.cell? ⟨w.heap.size, 0, none⟩ = some (.pointer (some ⟨D, 0, none⟩)) := Old.cellOf' hU (by go_simp); have a1 : w1.cell? ⟨w.heap.size + 1, 0, none⟩ = some (.pointer (some ⟨B, 0, none⟩)) := Old.cellOf' hU (by go_simp); have a2 : w1.cell? ⟨w.heap.size + 1 + 1, 0, none⟩ = some (.pointer (some ⟨X, 0, none⟩)) := Old.cellOf' hU (by go_simp); have b1 : w1.cell? ⟨w.heap.size + 1 + 1 + 1, 1, none⟩ = some (.string e.key) := Old.cellOf' hU (by go_simp); have b5 : w1.cell? ⟨w.heap.size + 1 + 1 + 1, 5, none⟩ = some (.int .i64 ((e.size : Nat) : Int)) := Old.cellOf' hU (by go_simp); have H1 := Lib.hid (And.intro (show Old w w1 from Upd.trans (((((((Upd.refl _ w).alloc _).alloc _).alloc _).alloc _).alloc _).alloc _) hU) hU); clear hU) | (go_at_call 144; refine (HF.out _ H1.out.1).mono ?_; rintro en w2 ⟨rfl, hU⟩; have c0 := Old.cellOf' hU a0; have c1 := Old.cellOf' hU a1; have c2 := Old.cellOf' hU a2; have d1 := Old.cellOf' hU b1; have l0 := World.block_lt_of_cell? _ _ c0; have l1 := World.block_lt_of_cell? _ _ c1; have l2 := World.block_lt_of_cell? _ _ c2; have l3 := World.block_lt_of_cell? _ _ d1; simp only at l0 l1 l2 l3; have H2 := Lib.hid (And.intro (Upd.trans H1.out.1 hU) (Upd.trans H1.out.2 hU)); clear hU) | go_in)
 obtain ⟨sv, hk⟩ := HH.out.idx.ixk e.key
 obtain ⟨hX0, hX1, hm, hG, own, hl⟩ := hk
 have hzq := withQ_map (fun _ => True) (M e.key) (fun _ _ => trivial)
 have hE : EntsB w.heap.size w sv (withQ (fun _ => True) (M e.key) (fun _ _ => trivial)) := EntsB.of_own own _ hzq
 generalize withQ (fun _ => True) (M e.key) (fun _ _ => trivial) = zs at hzq hE
 have hzl : zs.length = (M e.key).length := by rw [← hzq, List.length_map]
 have HG := Lib.hid hG
 have HZ := Lib.hid hzq
 clear own hG hzq fX
 generalize hW0 : World.alloc (World.alloc (World.alloc (World.alloc (World.alloc w2 _) _) _) _) _ = W0
 have U0 : Old w2 W0 := by subst hW0; exact (((((Upd.refl _ w2).alloc _).alloc _).alloc _).alloc _).alloc _
 have k0 : W0.cell? ⟨w2.heap.size, 0, none⟩ = some (.int .i64 ((i : Nat) : Int)) := by subst hW0; go_simp
 have k1 : W0.cell? ⟨w2.heap.size + 1, 0, none⟩ = some (.bool a) := by subst hW0; go_simp
 have k2 : W0.cell? ⟨w2.heap.size + 1 + 1, 0, none⟩ = some (.bool b) := by subst hW0; go_simp
 have k3 : W0.cell? ⟨w2.heap.size + 1 + 1 + 1, 0, none⟩ = some (.pointer (some ⟨X, 0, none⟩)) := by subst hW0; go_simp
 have k4 : W0.cell? ⟨w2.heap.size + 1 + 1 + 1 + 1, 0, none⟩ = some (.string e.key) := by subst hW0; go_simp
 have hkL : Has W0 w2.heap.size 3 #[.int .i64 ((i : Nat) : Int)] := by subst hW0; exact ((((Has.new w2 _ _).alloc _).alloc _).alloc _).alloc _
 have z0 : W0.heap.size = w2.heap.size + 5 := by subst hW0; simp
 clear hW0
 have hb5 : w.heap.size + 5 < W0.heap.size := by have := H2.out.2.size; simp at this; omega
 have r4 : Has W0 (w.heap.size + 1 + 1 + 1 + 1) 3 #[.int .i64 0] := Old.has U0 (Old.has H2.out.2 ((has_new_n (by simp)).alloc _))
 have r5 : Has W0 (w.heap.size + 1 + 1 + 1 + 1 + 1) 43 #[.int .i64 0] := Old.has U0 (Old.has H2.out.2 (has_new_n (by simp)))
 have rE : Has W0 (w.heap.size + 1 + 1 + 1) 47 (entC e) := Old.has U0 (Old.has H2.out.2 (((has_new_n (by simp)).alloc _).alloc _))
 have HOW := Lib.hid (Upd.trans H2.out.1 U0)
 have hw2 := H2.out.1.size
 have hw6 : w.heap.size + 6 ≤ w2.heap.size := by have := H2.out.2.size; simp at this; omega
 have j0 := Old.cellOf' U0 c0
 have j1 := Old.cellOf' U0 c1
 have j2 := Old.cellOf' U0 c2
 clear c0 c1 c2 d1 l0 l1 l2 l3 H1 H2 a0 a1 a2 b1 b5
 refine (wpIn_wide (n := 8)).1 ?_
 refine name_tmps fun T0 hT0 => ?_
 refine wpIn_rangeFunc_ownH rfl (by omega) (gf := 214) (lb := #[.pointer (some ⟨w2.heap.size + 1 + 1 + 1, 0, none⟩), .pointer (some ⟨w2.heap.size + 1 + 1 + 1 + 1, 0, none⟩)]) rfl trivial (enters_of Tryz.func214 (by kernel_rfl) rfl)
  (of_at_stops (zs := zs) (n₀ := w.heap.size) 7 (by omega) (w2.heap.size + 1 + 1 + 1) (w2.heap.size + 1 + 1 + 1 + 1) (by omega) (by omega) k3 k4 (Old.cellOf' HOW.out hX0) (Old.cellOf' HOW.out hX1) hm (fun W' U => HG.out W' (Upd.trans HOW.out U)) (hE.old HOW.out)) belowK_t (belowK_b (by omega)) (Below.refl _ _) (fun _ => rfl)
  (fun (pre : List {x : Ent // True}) W => NoHit a i e pre ∧ Old W0 W)
  (fun cd (pre : List {x : Ent // True}) W => cd = .ret ∧ AHit a i e pre ∧ Had w W0 W)
  (fun pre A B row hs hg hr => ⟨hs.1, hs.2.grown hg (fun k e => .inr (hr k e).1)⟩)
  (fun cd pre A B row hs hg hr => ⟨hs.1, hs.2.1, hs.2.2.grown hg hr⟩)
  ⟨fun _ h => (by cases h), Upd.refl _ _⟩
  (fun x a' W => ∃ Bx, W0.heap.size ≤ Bx ∧ Has W Bx 47 (entC x.1) ∧ a' = { tmps := (T0.setIfInBounds 42 x.1.val).setIfInBounds 15 (.pointer (some ⟨Bx, 0, none⟩)), defers := [] })
  (fun x a' _ A B row hs hg hr => by obtain ⟨Bx, h1, h2, h3⟩ := hs; exact ⟨Bx, h1, has_own Bx _ (fun (_ : Unit) => entC x.1) () A B row h2 hg (fun r e => (hr r e).2), h3⟩)
  ?assign ?body ?done ?stop
 case assign =>
  rintro l pre x W K ⟨hpf, hA⟩ hK
  unfold Ent.val
  subst hT0
  gi_wp2
  exact hK _ _ ((KeepsOthers.alloc _ _).from _) ((Below.refl _ W).alloc (by have := hA.size; omega) _) ⟨hpf, hA.alloc _⟩ ⟨W.heap.size, hA.size, Has.new W _ _, rfl⟩
 case body =>
  rintro l pre x a' W hl2 ⟨rr, hr⟩ ⟨hpf, hA⟩ ⟨Bx, hBx, hX, rfl⟩ hlt
  have x0 : W.cell? ⟨Bx, 0, none⟩ = some (.int .i64 ((x.1.seq : Nat) : Int)) := hX.cell 0
  have x3 : W.cell? ⟨Bx, 3, none⟩ = some (.int .i64 ((x.1.slot : Nat) : Int)) := hX.cell 3
  have y0 : W.cell? ⟨w.heap.size + 1 + 1 + 1, 0, none⟩ = some (.int .i64 ((e.seq : Nat) : Int)) := Old.cellOf' hA (rE.cell 0)
  have z0 := Old.cellOf' hA k0
  have z1 := Old.cellOf' hA k1
  have s4 := Old.has hA r4
  have s5 := Old.has hA r5
  have c4 : W.cell? ⟨w.heap.size + 1 + 1 + 1 + 1, 0, none⟩ = some (.int .i64 0) := s4.cell 0
  have c5 : W.cell? ⟨w.heap.size + 1 + 1 + 1 + 1 + 1, 0, none⟩ = some (.int .i64 0) := s5.cell 0
  have f4 := s4.frozen 0
  have f5 := s5.frozen 0
  have hq : (x.1.slot = i ∧ x.1.seq = e.seq ∧ a = true) ∨ a = false ∨ (a = true ∧ x.1.slot ≠ i) ∨ (a = true ∧ x.1.slot = i ∧ x.1.seq ≠ e.seq) := by
   cases a
   ·exact .inr (.inl rfl)
   ·by_cases h1 : x.1.slot = i
    ·by_cases h2 : x.1.seq = e.seq
     ·exact .inl ⟨h1, h2, rfl⟩
     ·exact .inr (.inr (.inr ⟨rfl, h1, h2⟩))
    ·exact .inr (.inr (.inl ⟨rfl, h1⟩))
  have HNO : Hid (hitB a i e x.1 = false → NoHit a i e (pre ++ [x])) := Lib.hid (fun h y hy => by
   rcases List.mem_append.1 hy with hy | hy
   ·exact hpf y hy
   ·simp at hy; rw [hy]; exact h)
  have HA := Lib.hid hA
  have HPF := Lib.hid hpf
  have HX := Lib.hid hX
  have S4 := Lib.hid s4
  have S5 := Lib.hid s5
  have hWs := hA.size
  have l4 := s4.lt
  have l5 := s5.lt
  have lx := hX.lt
  clear hpf hA s4 s5 hX HG HZ HOW HH
  unfold Ent.val
  simp only at hT0
  simp only [hT0, List.setIfInBounds_toArray, List.set_cons_zero, List.set_cons_succ]
  have HNI := Lib.hid (show a = false ∨ (a = true ∧ x.1.slot ≠ i) ∨ (a = true ∧ x.1.slot = i ∧ x.1.seq ≠ e.seq) → hitB a i e x.1 = false from fun h => by
   unfold hitB
   rcases h with h | ⟨h, h1⟩ | ⟨h, h1, h2⟩
   ·simp [h]
   ·simp [h, h1]
   ·simp [h, h1, h2])
  rcases hq with ⟨h1, h2, h3⟩ | h1 | ⟨h1, h2⟩ | ⟨h1, h2, h3⟩
  ·have HQ := Lib.hid (show hitB a i e x.1 = true by unfold hitB; simp [h1, h2, h3])
   rw [h1] at x3
   rw [h2] at x0
   rw [h3] at z1
   clear h1 h2 h3
   gi_wp2
   have U : Upd (fun b => b = w.heap.size + 1 + 1 + 1 + 1 ∨ b = w.heap.size + 1 + 1 + 1 + 1 + 1) W ((W.setCell ⟨w.heap.size + 1 + 1 + 1 + 1, 0, none⟩ (.int .i64 0)).setCell ⟨w.heap.size + 1 + 1 + 1 + 1 + 1, 0, none⟩ (.int .i64 6)) := ((Upd.refl _ W).setCell _ _ (.inl (.inl rfl))).setCell _ _ (.inl (.inr rfl))
   exact ⟨keepsFrom_upd U (fun b hb => by omega), rfl, ⟨x, by simp, HQ.out⟩, (HA.out.mono (fun _ _ h => h.elim)).trans U, by go_simp, by go_simp⟩
  ·have HQ := HNO.out (HNI.out (.inl h1))
   rw [h1] at z1
   clear h1
   gi_wp2
   exact ⟨keepsFrom_upd (Upd.refl (fun _ => False) W) (fun b hb => hb.elim), Below.refl _ _, HQ, HA.out⟩
  ·have HQ := HNO.out (HNI.out (.inr (.inl ⟨h1, h2⟩)))
   rw [h1] at z1
   clear h1
   gi_wp2
   exact ⟨keepsFrom_upd (Upd.refl (fun _ => False) W) (fun b hb => hb.elim), Below.refl _ _, HQ, HA.out⟩
  ·have HQ := HNO.out (HNI.out (.inr (.inr ⟨h1, h2, h3⟩)))
   rw [h1] at z1
   rw [h2] at x3
   clear h1 h2
   gi_wp2
   exact ⟨keepsFrom_upd (Upd.refl (fun _ => False) W) (fun b hb => hb.elim), Below.refl _ _, HQ, HA.out⟩
 case done =>
  rintro DM ys W hD rfl ⟨hpf, hA⟩ hK
  have hno : ∀ y ∈ M e.key, hitB a i e y = false := fun y hy => by
   rw [← HZ.out] at hy
   obtain ⟨q, h1, rfl⟩ := List.mem_map.1 hy
   exact hpf q h1
  obtain ⟨ok, hle, hes, hee⟩ := HOK.out
  have hn0 : ∀ b, w.heap.size ≤ b → (col b).1 = 0 := HH.out.new
  have hgl : 0 < w.heap.size ∧ 3 < w.heap.size ∧ 1 < w.heap.size := ⟨World.block_lt_of_cell? w _ HH.out.gl.dp.1, World.block_lt_of_cell? w _ (HH.out.gl.db 0 (by omega)), World.block_lt_of_cell? w _ HH.out.gl.se.1⟩
  have hOW : Old w W := HOW.out.trans hA
  have HFR := Lib.hid (fun (V : World) (U : Old w V) => (HH.out.old U).tab.free)
  have hseq : ∀ i, i < n → ∀ y ∈ x.es i, SeqOk y := fun i hi y hy => ⟨(ok.ent i hi y hy).1.s1, by have := (ok.ent i hi y hy).1.s2; omega⟩
  have hplan : b = true ∨ 0 < cntS st n 0 → ∃ j st1 S1, CpPlan n size zm x o e j st1 S1 ∧ ∀ WA, Old w WA → ∀ Bb C, w2.heap.size < Bb → Bb < C → C < WA.heap.size → WA.cell? ⟨w.heap.size, 0, none⟩ = some (.pointer (some ⟨D, 0, none⟩)) → WA.cell? ⟨w.heap.size + 1, 0, none⟩ = some (.pointer (some ⟨B, 0, none⟩)) → WA.cell? ⟨w.heap.size + 1 + 1, 0, none⟩ = some (.pointer (some ⟨X, 0, none⟩)) →
   Has WA w2.heap.size 3 #[.int .i64 ((i : Nat) : Int)] → WA.cell? ⟨w2.heap.size + 1 + 1, 0, none⟩ = some (.bool b) → Has WA C 47 (entC e) → Has WA Bb 77 #[.slice none 0 0] →
   Calls Tryz.prog 146 #[.pointer (some ⟨w2.heap.size + 1 + 1, 0, none⟩), .pointer (some ⟨w.heap.size, 0, none⟩), .pointer (some ⟨w.heap.size + 1, 0, none⟩), .pointer (some ⟨w.heap.size + 1 + 1, 0, none⟩), .pointer (some ⟨w2.heap.size, 0, none⟩)] WA fun en w' => en = .returned (.int .i64 0) ∧ CpQ WA col PP D B X n r S1 st1 M x w2.heap.size Bb C j c e 1 w' := by
   intro hbz
   unfold fitsV at hfv
   rcases hl4 : lowS st n 4 with _ | i'
   ·rw [hl4] at hfv
    obtain ⟨rfl, rfl, rfl⟩ : 0 = i ∧ false = a ∧ false = b := by simpa using hfv
    obtain ⟨j, hj⟩ := lowS_of (hbz.resolve_left (by decide))
    refine ⟨j, _, _, plan_new ok hoo hes hee hl4 hj, fun WA U Bb C b1 b2 b3 e0 e1 e2 eL eF eC eB => ?_⟩
    have hE := HH.out.old U
    exact step1_new (w := w) (z := 0) hn0 hgl (Nat.le_refl _) (by omega) b1 b2 b3 eF e0 e1 e2 eL eC eB hl4 hj ((hE.oseal_none hl4).mono fun en w' ⟨h1, h2⟩ => ⟨h1, s, col, rfl, hE.old h2, h2.mono (fun _ _ h => h.elim), Kept.refl _ _⟩)
   ·obtain ⟨h1, h2⟩ := lowS_some hl4
    rw [hl4] at hfv
    obtain ⟨rfl, rfl, hfb⟩ : i' = i ∧ true = a ∧ decide ((s.img i').bs.length + e.size + 16 ≤ (s.img i').sz) = b := by simpa using hfv
    cases b
    ·obtain ⟨j, h3, h4, hp⟩ := plan_close ok hoo hes hee hl4 (hbz.resolve_left (by decide))
     refine ⟨j, _, _, hp, fun WA U Bb C b1 b2 b3 e0 e1 e2 eL eF eC eB => ?_⟩
     have hE := HH.out.old U
     exact step1_new (w := w) (z := 16) hn0 hgl (Nat.le_refl _) (by omega) b1 b2 b3 eF e0 e1 e2 eL eC eB h3 h4 ((hE.oseal hl4 (hseq i' h1) (by rw [ok.sz i' h1]; exact ok.room i' h1 (.inr h2)) (by have := ok.o1; omega)).mono fun en w' ⟨q1, col', fb, q2, q3, q4, q5⟩ => ⟨q1, _, col', ⟨fb, q2, rfl⟩, q3, q4, q5⟩)
    ·refine ⟨i', _, _, plan_fit ok hoo hes hee h1 h2 (by simpa using hfb) (fun y hy hq => ?_), fun WA U Bb C b1 b2 b3 e0 e1 e2 eL eF eC eB => step1_fit (HH.out.old U) eF (eL.cell 0) eC eB⟩
     obtain ⟨q1, q2⟩ := HH.out.idx.con.a i' h1 y hy
     rw [(ok.cop i' h1 y hy _ hes e hee hq).1] at q2
     have := hno y q2
     simp [hitB, q1, hq] at this
  have q4 := Old.has hA r4
  have q5 := Old.has hA r5
  have qE := Old.has hA rE
  have qL := Old.has hA hkL
  have v0 := Old.cellOf' hA j0
  have v1 := Old.cellOf' hA j1
  have v2 := Old.cellOf' hA j2
  have vF := Old.cellOf' hA k2
  have e0 : W.cell? ⟨w.heap.size + 1 + 1 + 1, 0, none⟩ = some (.int .i64 ((e.seq : Nat) : Int)) := qE.cell 0
  have e1 : W.cell? ⟨w.heap.size + 1 + 1 + 1, 1, none⟩ = some (.string e.key) := qE.cell 1
  have e2 : W.cell? ⟨w.heap.size + 1 + 1 + 1, 2, none⟩ = some (.bool e.del) := qE.cell 2
  have e3 : W.cell? ⟨w.heap.size + 1 + 1 + 1, 3, none⟩ = some (.int .i64 ((e.slot : Nat) : Int)) := qE.cell 3
  have e4 : W.cell? ⟨w.heap.size + 1 + 1 + 1, 4, none⟩ = some (.int .i64 ((e.off : Nat) : Int)) := qE.cell 4
  have e5 : W.cell? ⟨w.heap.size + 1 + 1 + 1, 5, none⟩ = some (.int .i64 ((e.size : Nat) : Int)) := qE.cell 5
  have c4 : W.cell? ⟨w.heap.size + 1 + 1 + 1 + 1, 0, none⟩ = some (.int .i64 0) := q4.cell 0
  have c5 : W.cell? ⟨w.heap.size + 1 + 1 + 1 + 1 + 1, 0, none⟩ = some (.int .i64 0) := q5.cell 0
  have f4 := q4.frozen 0
  have f5 := q5.frozen 0
  have l4 := q4.lt
  have l5 := q5.lt
  have lE := qE.lt
  have lW := hA.size
  have HQ := Lib.hid (And.intro q4 (And.intro q5 (And.intro qE (And.intro qL hOW))))
  have HPL := Lib.hid hplan
  have HGL := Lib.hid (And.intro hn0 hgl)
  have HKK := Lib.hid hK
  have HOKK := Lib.hid (And.intro ok hle)
  simp only at hT0
  clear hplan hno hseq hA hpf HOK HG HZ qE qL q4 q5 hOW ok hle r4 r5 rE hn0 hgl k0 k1 k2 k3 k4 j0 j1 j2 hX0 hX1 hK hE hfv HC HF
  by_cases hz0 : b = false ∧ cntS st n 0 = 0
  ·obtain ⟨rfl, hz0⟩ := hz0
   rw [hz0] at HFR
   clear HPL
   go_wp2_with (first | (go_at_call 27; refine (HFR.out _ HQ.out.2.2.2.2).mono ?_; rintro e7 w7 ⟨rfl, rfl⟩) | go_in)
   obtain ⟨g1, g2, g3, g4⟩ := two_put (u := .int .i64 0) (v := .int .i64 4) HQ.out.1 HQ.out.2.1 HKK.out (by omega)
   refine ⟨by simp, .inl ⟨_, _, rfl, run_takeDeferred g1, ?_⟩⟩
   have HU := Lib.hid (HQ.out.2.2.2.2.after g4 (fun b hb h => by omega))
   refine ⟨_, res_cell2 (u := .int .i64 0) (v := .int .i64 4) rfl rfl rfl ?_ ?_, ⟨_, _, rfl, .inr (.inl rfl)⟩, CopS.same HH.out HOKK.out.1 HOKK.out.2 HU.out⟩
   ·clear g1 g4; go_simp
   ·clear g1 g4; go_simp
  ·have hbz : b = true ∨ 0 < cntS st n 0 := by
    cases b
    ·exact .inr (Nat.pos_of_ne_zero (fun h => hz0 ⟨rfl, h⟩))
    ·exact .inl rfl
   have hcn : b = false → cntS st n 0 ≠ 0 := fun h1 h2 => hz0 ⟨h1, h2⟩
   obtain ⟨j, st1, S1, hp, hst1⟩ := HPL.out hbz
   have HP := Lib.hid (And.intro hp hst1)
   clear HPL hz0 hbz hp hst1
   have HCN := Lib.hid hcn
   clear hcn
   have HB := Lib.hid vF
   cases b
   case' false => have hcn := HCN.out rfl
   all_goals
    go_wp2_with (first | (go_at_call 27; refine (HFR.out _ HQ.out.2.2.2.2).mono ?_; rintro e7 w7 ⟨rfl, rfl⟩) | (go_at_call 145; refine Hid.out ?_) | go_in)
    generalize hWA : World.alloc (World.alloc (World.alloc W _) _) _ = WA
    have UA : Old W WA := by subst hWA; exact (((Upd.refl _ W).alloc _).alloc _).alloc _
    have zA : WA.heap.size = W.heap.size + 3 := by subst hWA; simp
    have s0 : WA.cell? ⟨W.heap.size + 1 + 1, 0, none⟩ = some (.func (.func 146) #[] #[.pointer (some ⟨w2.heap.size + 1 + 1, 0, none⟩), .pointer (some ⟨w.heap.size, 0, none⟩), .pointer (some ⟨w.heap.size + 1, 0, none⟩), .pointer (some ⟨w.heap.size + 1 + 1, 0, none⟩), .pointer (some ⟨w2.heap.size, 0, none⟩)]) := by subst hWA; go_simp
    have s1 : WA.cell? ⟨W.heap.size + 1 + 1, 1, none⟩ = some (.func (.func 148) #[] #[.pointer (some ⟨w.heap.size, 0, none⟩), .pointer (some ⟨w.heap.size + 1 + 1 + 1, 0, none⟩), .pointer (some ⟨W.heap.size, 0, none⟩)]) := by subst hWA; go_simp
    have s2 : WA.cell? ⟨W.heap.size + 1 + 1, 2, none⟩ = some (.func (.func 149) #[] #[.pointer (some ⟨w2.heap.size, 0, none⟩), .pointer (some ⟨W.heap.size + 1, 0, none⟩), .pointer (some ⟨w.heap.size, 0, none⟩)]) := by subst hWA; go_simp
    have s3 : WA.cell? ⟨W.heap.size + 1 + 1, 3, none⟩ = some (.func (.func 150) #[] #[.pointer (some ⟨w.heap.size, 0, none⟩), .pointer (some ⟨w2.heap.size, 0, none⟩), .pointer (some ⟨W.heap.size, 0, none⟩)]) := by subst hWA; go_simp
    have s4 : WA.cell? ⟨W.heap.size + 1 + 1, 4, none⟩ = some (.func (.func 151) #[] #[.pointer (some ⟨w.heap.size + 1 + 1, 0, none⟩), .pointer (some ⟨W.heap.size + 1, 0, none⟩)]) := by subst hWA; go_simp
    have aB : Has WA W.heap.size 77 #[.slice none 0 0] := by subst hWA; exact ((Has.new W _ _).alloc _).alloc _
    have aC : Has WA (W.heap.size + 1) 47 (entC e) := by subst hWA; exact (has_new_n (by simp)).alloc _
    clear hWA
    have hE3 := Old.has UA HQ.out.2.2.1
    have hL3 := Old.has UA HQ.out.2.2.2.1
    have hO3 := HQ.out.2.2.2.2.trans UA
    have HQ1 := HP.out.2 WA hO3 W.heap.size (W.heap.size + 1) (by omega) (by omega) (by omega) (Old.cellOf' UA v0) (Old.cellOf' UA v1) (Old.cellOf' UA v2) hL3 (Old.cellOf' UA HB.out) aC aB
    refine Lib.hid ?_
    refine (copy_steps (w := w) HGL.out.1 HGL.out.2 (Nat.le_refl _) (by omega) (by omega) (by omega) (by omega) (by omega) (Old.cellOf' UA v0) (Old.cellOf' UA v2) hE3 s0 s1 s2 s3 s4 HQ1 HP.out.1.hj hes (by have := (HOKK.out.1.ent _ hes e hee).1.z1; omega) HP.out.1.ss HP.out.1.hd HOKK.out.2 hcl).mono ?_
    rintro en w4 ⟨rfl, hC5⟩
    have HC5 := Lib.hid hC5
    have U4 : Upd (CpG col w2.heap.size W.heap.size (W.heap.size + 1)) WA w4 := by
     obtain ⟨s1, h1, hP⟩ := hC5.2 (by omega)
     obtain ⟨_, _, _, _, U, _⟩ := hP.2 (by omega)
     exact U
    have nG : ∀ b, w.heap.size ≤ b → b ≠ w2.heap.size → b ≠ W.heap.size → b ≠ W.heap.size + 1 → ¬ CpG col w2.heap.size W.heap.size (W.heap.size + 1) b := fun b hb n1 n2 n3 h => by
     have := HGL.out.1 b hb
     rcases h with h | h | h | h
     ·unfold EF at h; omega
     ·exact n1 h
     ·exact n2 h
     ·exact n3 h
    have hDl : DM < W.heap.size := (Array.getElem?_eq_some_iff.1 HKK.out).1
    have m4 := U4.has (Old.has UA HQ.out.1) (nG _ (by omega) (by omega) (by omega) (by omega))
    have m5 := U4.has (Old.has UA HQ.out.2.1) (nG _ (by omega) (by omega) (by omega) (by omega))
    have mK : w4.heap[DM]? = some (.deferred (some [])) := (U4.keep DM (by omega) (nG DM (by omega) (by omega) (by omega) (by omega))).trans ((UA.keep DM hDl (fun h => h)).trans HKK.out)
    have p4 : w4.cell? ⟨w.heap.size + 1 + 1 + 1 + 1, 0, none⟩ = some (.int .i64 0) := m4.cell 0
    have p5 : w4.cell? ⟨w.heap.size + 1 + 1 + 1 + 1 + 1, 0, none⟩ = some (.int .i64 0) := m5.cell 0
    have pf4 := m4.frozen 0
    have pf5 := m5.frozen 0
    have pl4 := m4.lt
    have pl5 := m5.lt
    have HM := Lib.hid (And.intro m4 (And.intro m5 mK))
    have HO3 := Lib.hid hO3
    clear hC5 U4 nG m4 m5 mK s0 s1 s2 s3 s4 aB aC hE3 hL3 hO3 HQ1 UA
    go_wp2
    obtain ⟨g1, g2, g3, g4⟩ := two_put (u := .int .i64 ((cv : Nat) : Int)) (v := .int .i64 0) HM.out.1 HM.out.2.1 HM.out.2.2 (by omega)
    refine ⟨by simp, .inl ⟨_, _, rfl, run_takeDeferred g1, ?_⟩⟩
    have HU := Lib.hid g4
    clear g1 g4
    refine ⟨_, res_cell2 (u := .int .i64 ((cv : Nat) : Int)) (v := .int .i64 0) rfl rfl rfl ?_ ?_, ⟨_, _, rfl, .inl rfl⟩, CpQ.fin HO3.out HGL.out.1 HGL.out.2 HP.out.1 HC5.out (by omega) (by omega) (by omega) HU.out (fun b hb => by omega)⟩
    ·go_simp
    ·go_simp
 case stop =>
  rintro DM cd pre W hD ⟨tl, hpre⟩ ⟨rfl, hA, hH, p4, p5⟩ hK
  have hG2 : W.grownBy (W.putObj DM (.deferred none)) (some DM) := grownBy_putObj' _ DM _
  have q4 : (W.putObj DM (.deferred none)).cell? ⟨w.heap.size + 1 + 1 + 1 + 1, 0, none⟩ = some (.int .i64 0) := cell_kept p4 hG2 (fun k e => by cases e; exact ⟨_, hK, rfl⟩)
  have q5 : (W.putObj DM (.deferred none)).cell? ⟨w.heap.size + 1 + 1 + 1 + 1 + 1, 0, none⟩ = some (.int .i64 6) := cell_kept p5 hG2 (fun k e => by cases e; exact ⟨_, hK, rfl⟩)
  have hU : Old w (W.putObj DM (.deferred none)) := (HOW.out.after hH (fun b hb h => by omega)).grown hG2 (fun k e => by cases e; exact .inr (by omega))
  have HU := Lib.hid hU
  clear hU hH hA
  gi_wp2
  refine ⟨by simp, .inl ⟨_, _, rfl, run_takeDeferred hK, ?_⟩⟩
  refine ⟨_, res_cell2 (u := .int .i64 0) (v := .int .i64 6) rfl rfl rfl ?_ ?_, ⟨_, _, rfl, .inr (.inr rfl)⟩, CopS.same HH.out HOK.out.1 HOK.out.2.1 HU.out⟩
  ·go_simp
  ·go_simp
end Go.M
