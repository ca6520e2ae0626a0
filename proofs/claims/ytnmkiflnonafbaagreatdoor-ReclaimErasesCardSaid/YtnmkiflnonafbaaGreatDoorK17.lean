/- Walks 17. -/
import Derived.Test.YtnmkiflnonafbaaGreatDoorProg
import Derived.Test.YtnmkiflnonafbaaGreatDoorK10
import Derived.Test.YtnmkiflnonafbaaGreatDoorK12
import Derived.Test.YtnmkiflnonafbaaGreatDoorK6
import Derived.Test.YtnmkiflnonafbaaGreatDoorK7
import Derived.Test.YtnmkiflnonafbaaGreatDoorK16
set_option linter.unusedVariables false
set_option linter.unusedSimpArgs false
set_option maxRecDepth 100000
namespace Go.M
open Go.Proofs Go.RowKit
def ZpY {α : Type} (F : Fence) (n : Nat) (P : Program) (g : Nat) (lb : Array Value) (encs : α → Array Value) (G : List α → World → Prop) (ok : List α → α → Prop) (S : List α → Prop) (w : World) : Prop :=
 ∀ (l : Nat) (J Jx : List α → World → Prop) (W : World), Old w W → AbidesFrom W.heap.size J → AbidesFrom W.heap.size Jx → (∀ pre V, J pre V → G pre V) →
  (∀ pre x V, J pre V → ok pre x → YieldAt F (n - 1) P l (encs x) V fun e V' => (e = .returned (.bool true) ∧ J (pre ++ [x]) V') ∨ (e = .returned (.bool false) ∧ Jx (pre ++ [x]) V')) →
  J [] W → CallsIn F n P g (#[.func (.yield l) #[] #[]] ++ lb) W fun e V => (∃ v, e = .returned v) ∧ ((∃ xs, S xs ∧ J xs V) ∨ ∃ pre, Jx pre V)
def Bk (b : Nat) (r : Loop) (W : World) : Prop := W.heap[b]? = some (.deferred (some [])) ∧ W.heap[b + 1]? = some (.loop r)
theorem Bk.far {b B : Nat} {r : Loop} {W W' : World} {row : Option Nat} (h : Bk b r W) (hg : W.grownBy W' row) (hB : b + 1 < B) (hr : ∀ k, row = some k → B ≤ k) : Bk b r W' := by
 have l1 := (Array.getElem?_eq_some_iff.1 h.2).1;refine ⟨(hg.block b (by omega) (fun e => ?_)).trans h.1, (hg.block (b + 1) l1 (fun e => ?_)).trans h.2⟩
 ·have := hr b e.symm; omega
 ·have := hr (b + 1) e.symm; omega
theorem Bk.put {b : Nat} {r : Loop} {W : World} (h : Bk b r W) (r' : Loop) : Bk b r' (W.putObj (b + 1) (.loop r')) :=
 ⟨(World.putObj_heap_other (by omega)).trans h.1, World.putObj_heap_same (Array.getElem?_eq_some_iff.1 h.2).1⟩
theorem ZaJ {F : Nat → Prop} {B : Nat} {W W' : World} (h : Upd F W W') (hF : ∀ b, F b → b < B) : KeepsFrom B W W' :=
 ⟨h.size, fun k o hB ho _ => (h.keep k (Array.getElem?_eq_some_iff.1 ho).1 (fun hf => by have := hF k hf; omega)).trans ho⟩
theorem ZcD {α : Type} {F : Fence} {n : Nat} {P : Program} {g : Operand} {ps : Array Tmp} {assign body : Code} {Q : Exit → Act → World → Prop} {a : Act} {w : World} (hro : F.round = none) (h1 : 1 ≤ n) {gf : Nat} {lb : Array Value}
 (hg : a.eval g = .func (.func gf) #[] lb) (hF : F.fn gf) (eg : ∀ args w, (callFunc gf args).run P w = .ok (.enter gf args) w) {encs : α → Array Value} (hps : ∀ x, (encs x).size = ps.size)
 {G : List α → World → Prop} {ok : List α → α → Prop} {S : List α → Prop} (hseq : ZpY F (n - 1) P gf lb encs G ok S w)
 (I : List α → World → Prop) (Ix : Code → World → Prop) (hI : OwnFrom w.heap.size I) (hIx : ∀ c, OwnFrom w.heap.size (fun (_ : Unit) => Ix c)) (h0 : I [] w) (hG : ∀ pre V, I pre V → G pre V) (a1 : α → Act)
 (hassign : ∀ (l : Nat) (x : α) (V : World) (K : Act → World → Prop), K (a1 x) V → assign.wpIn (F.inRound l) (n - 1 - 1) P (Exit.then K (fun _ _ _ => False)) { tmps := (ps.zip (encs x)).foldl (fun t (p, v) => t.setIfInBounds p v) a.tmps, defers := [] } V)
 (hbody : ∀ (l : Nat) (pre : List α) (x : α) (V : World), w.heap.size ≤ l → I pre V → ok pre x → body.wpIn (F.inRound l) (n - 1 - 1) P (ownPostG w.heap.size (fun _ _ => True) I (fun c _ => Ix c) (pre ++ [x]) V) (a1 x) V)
 (hdone : ∀ (D : Nat) (xs : List α) (V : World), w.heap.size ≤ D → S xs → I xs V → V.heap[D]? = some (.deferred (some [])) → Q .normal { a with defers := { target := .collected D, args := #[] } :: a.defers } V)
 (hstop : ∀ (D : Nat) (c : Code) (V : World), w.heap.size ≤ D → Ix c V → V.heap[D]? = some (.deferred (some [])) → c.wpIn F n P Q { a with defers := { target := .collected D, args := #[] } :: a.defers } V) :
 (Code.rangeFunc g ps assign body).wpIn F n P Q a w := by
 refine wpIn_rangeFunc fun fn hfn => ?_
 rw [hro];obtain ⟨b, hb⟩ : ∃ b, w.heap.size = b := ⟨_, rfl⟩;obtain ⟨r0, hr0⟩ : ∃ r0 : Loop, r0 = { state := .ready, pending := none, fn := fn, tmps := a.tmps, params := ps, assign := assign, body := body, defers := b } := ⟨_, rfl⟩;obtain ⟨V1, hV1⟩ : ∃ V1, (w.alloc (.deferred (some []))).alloc (.loop r0) = V1 := ⟨_, rfl⟩;have hz : V1.heap.size = b + 2 := by rw [← hV1, ← hb]; simp
 have U1 : Old w V1 := by rw [← hV1]; exact ((Upd.refl _ w).alloc _).alloc _
 have B1 : Bk b r0 V1 := by
  rw [← hV1];constructor
  ·rw [← hb]; exact (Below.heap_alloc _ _ _ (by simp)).trans (World.alloc_heap_new w _)
  ·have := World.alloc_heap_new (w.alloc (.deferred (some []))) (.loop r0);rwa [World.size_alloc, hb] at this
 have I1 : I [] V1 := by rw [← hV1]; exact hI.alloc _ (hI.alloc _ h0)
 refine ⟨b + 1, [{ target := .collected b, args := #[] }], V1, { target := .fn (.func gf) lb, args := #[.func (.yield (b + 1)) #[] #[]] }, V1, gf, #[.func (.yield (b + 1)) #[] #[]] ++ lb, V1, ?_, ?_, ?_, ?_, fun _ => h1, ?_⟩
 ·have := run_enterLoop_outer (P := P) (w := w) fn a.tmps ps assign body;rw [hb] at this;rw [this, ← hV1, hr0]
 ·simp only [resolve, hg];simp [go_sem]
 ·intro f' hf';simp [Target.leads] at hf';subst hf';exact hF
 ·simp [invoke, go_sem, eg]
 have row : ∀ {A : World} {r : Option Nat}, (∀ k, r = some k → V1.heap.size ≤ k ∧ ∃ o : Obj, A.heap[k]? = some o ∧ o.isWalk = true) → ∀ k, r = some k → w.heap.size ≤ k ∧ ∃ o : Obj, A.heap[k]? = some o ∧ o.isCells = false := fun h k e => by
  obtain ⟨h2, o, ho, hw⟩ := h k e;exact ⟨by omega, o, ho, Obj.not_cells_of_walk hw⟩
 refine (hseq (b + 1) (fun pre V => I pre V ∧ Bk b r0 V) (fun _ V => ∃ c, Ix c V ∧ Bk b { r0 with state := .done, pending := some c } V) V1 U1 ?_ ?_ (fun pre V h => hG pre V h.1) ?_ ⟨I1, B1⟩).mono ?_
 ·exact fun s A A' r h hgr hr => ⟨hI s A A' r h.1 hgr (row hr), h.2.far hgr (B := V1.heap.size) (by omega) (fun k e => (hr k e).1)⟩
 ·rintro s A A' r ⟨c, h1, h2⟩ hgr hr;exact ⟨c, hIx c () A A' r h1 hgr (row hr), h2.far hgr (B := V1.heap.size) (by omega) (fun k e => (hr k e).1)⟩
 ·rintro pre x V ⟨hi, hk⟩ hok;have hy := run_yield (P := P) (args := encs x) hk.2 (by rw [hr0]; exact hps x)
  rw [hr0] at hy;refine ⟨fn, _, assign, body, hy, roundIn_of_wpIn hfn (hassign _ x V _ ?_)⟩;refine ⟨_, run_beginRound hk.2 (by rw [hr0]), ?_⟩
  have hl : ∃ o : Obj, V.heap[b + 1]? = some o ∧ o.isCells = false := ⟨_, hk.2, rfl⟩;have hk2 := hk.put { r0 with state := .busy }
  have hi2 := hI.putObj (s := pre) (.loop { r0 with state := .busy }) hi (by omega) hk.2 rfl
  have ends : ∀ (j : Option Code) (V3 : World), KeepsFrom w.heap.size (V.putObj (b + 1) (.loop { r0 with state := .busy })) V3 → (Instr.endRound (b + 1) j).run P V3 = .ok (.bool j.isNone) (V3.putObj (b + 1) (.loop { r0 with state := if j.isNone then .ready else .done, pending := j })) ∧ Bk b { r0 with state := .busy } V3 := fun j V3 k3 => by
   have e1 := k3.same _ _ (by omega) hk2.1 rfl
   have e2 := k3.same _ _ (by omega) hk2.2 rfl
   have e3 := run_endRound (P := P) j e2;exact ⟨e3, e1, e2⟩
  refine wpIn_mono (hbody _ pre x _ (by omega) hi2 hok) ?_
  intro e a3 V3 hp;have stop : ∀ c, KeepsFrom w.heap.size (V.putObj (b + 1) (.loop { r0 with state := .busy })) V3 ∧ Ix c V3 → ∃ v V4, (Instr.endRound (b + 1) (some c)).run P V3 = .ok v V4 ∧ ((Ending.returned v = .returned (.bool true) ∧ I (pre ++ [x]) V4 ∧ Bk b r0 V4) ∨ (Ending.returned v = .returned (.bool false) ∧ ∃ c, Ix c V4 ∧ Bk b { r0 with state := .done, pending := some c } V4)) := fun c h => by
   obtain ⟨e1, e2⟩ := ends (some c) V3 h.1;exact ⟨_, _, e1, .inr ⟨rfl, c, (hIx c).putObj (s := ()) _ h.2 (by omega) e2.2 rfl, by simpa using e2.put _⟩⟩
  cases e with
  | normal =>
   obtain ⟨k3, -, i3⟩ := hp;obtain ⟨e1, e2⟩ := ends none V3 k3;refine ⟨_, _, e1, .inl ⟨rfl, hI.putObj (s := pre ++ [x]) _ i3 (by omega) e2.2 rfl, ?_⟩⟩
   have := e2.put r0;rw [hr0] at this ⊢;exact this
  | ret => exact stop _ hp
  | exit id => exact stop _ hp
  | goto t => exact stop _ hp
  | panic ch => exact hp.elim
  | outgrown => exact hp.elim
 ·rintro e V2 ⟨⟨v, rfl⟩, ⟨xs, hS, hi, hk⟩ | ⟨pre, c, hc, hk⟩⟩
  ·have := run_endLoop (P := P) hk.2 (by rw [hr0]; simp)
   rw [show r0.pending = none by rw [hr0]] at this
   exact ⟨none, _, this, hdone b xs _ (by omega) hS (hI.putObj (s := xs) _ hi (by omega) hk.2 rfl) (hk.put _).1⟩
  ·have := run_endLoop (P := P) hk.2 (by simp)
   exact ⟨some c, _, this, hstop b c _ (by omega) ((hIx c).putObj (s := ()) _ hc (by omega) hk.2 rfl) (hk.put _).1⟩
theorem ZlZ {w : World} {D K S T Mi : Nat} {n i len sz dur cap : Nat} {ops : Int} {va : Option Addr} {vc : Nat} (h : DevCells w D K S T Mi n i len sz dur cap ops false va vc) :
 Calls Tryz.prog 28 #[.pointer (some ⟨K, 0, none⟩), .int .i64 ((i : Nat) : Int)] w fun e w' => e = .returned (.tuple #[.int .i64 ((dur : Nat) : Int), .int .i64 0]) ∧ Old w w' := by
 obtain ⟨d0, -, d2, -, d4, k0, -, -, s0, m0, m1, m2, -, -, hD, hK, hS, -, hM, b0, p0, p1, p2, p3, p4, p5, p6, p7, -, -, -, -, -, -, -⟩ := h
 go_enter Tryz.func28, Tryz.ntmps28
 go_wp2;go_ret2;exact ⟨rfl, (((Upd.refl _ _).alloc _).alloc _)⟩
theorem ZeY {w : World} {D K S T Mi : Nat} {n i len sz dur cap : Nat} {ops : Int} {va : Option Addr} {vc : Nat} (h : DevCells w D K S T Mi n i len sz dur cap ops false va vc) :
 Calls Tryz.prog 7 #[.pointer (some ⟨D, 0, none⟩), .int .i64 ((i : Nat) : Int)] w fun e w' => e = .returned (.tuple #[.int .i64 ((len : Int) - (dur : Int)), .int .i64 0]) ∧ Old w w' := by
 have HD := Lib.hid h;have d0 := h.d0;have hD := h.hD;have q1 := h.p5;have q2 := h.p6;have q3 := h.p7;clear h
 go_enter Tryz.func7, Tryz.ntmps7
 go_wp2_with (first | (go_at_call 27; refine (Ze0 HD.out).mono ?_; rintro e1 w1 ⟨rfl, hO⟩; have H1 := Lib.hid hO; have HD1 := Lib.hid (HD.out.old hO); have c0 := HD1.out.d0; have hD1 := HD1.out.hD; clear hO) | (go_at_call 28; refine (ZlZ HD1.out).mono ?_; rintro e2 w2 ⟨rfl, hO⟩; have H2 := Lib.hid (H1.out.trans hO); clear hO))
 have hw : IntKind.i64.wrap ((len : Int) - (dur : Int)) = (len : Int) - (dur : Int) := IntWalk.i64_in _ (by omega)
 go_ret2;exact ⟨rfl, H2.out⟩
theorem Zov {w : World} {e : TypeId} {size n c : Nat} {xs : List Value} {ad : Addr} (own : w.ownsRow 0 e size (.slice (some ad) n c) n xs) : ∃ g, ad = ⟨g, 0, none⟩ := by
 rcases own.2 with ⟨h1, _⟩ | ⟨g, c, cur, h1, _⟩
 ·cases h1
 ·injection h1 with h1;injection h1 with h1;exact ⟨_, h1⟩
theorem Zhs {w w' : World} {e : TypeId} {size n : Nat} {v : Value} {xs : List Value} (own : w'.ownsRow 0 e size v n xs) (h : ∀ b, v.ownBlock = some b → w.heap.size ≤ b) : Zmw w v := by
 rintro ad m c rfl;obtain ⟨a, c', h2⟩ := Zac own;injection h2 with _ h3 _;subst h3;obtain ⟨g, rfl⟩ := Zov own;exact h g rfl
def Zep (w : World) (bs : List UInt8) (e : Ending) (w' : World) : Prop := ∃ a n c, e = .returned (.tuple #[.slice a n c, .int .i64 0]) ∧ BytesAt w' (.slice a n c) bs ∧ Old w w' ∧ Zmw w (.slice a n c)
theorem Zrw {w : World} {Mi g vc sz : Nat} {bs : List UInt8} (m0 : w.cell? ⟨Mi, 0, none⟩ = some (.slice (some ⟨g, 0, none⟩) bs.length vc)) (m1 : w.cell? ⟨Mi, 1, none⟩ = some (.int .i64 ((sz : Nat) : Int)))
 (p2 : 0 < sz) (h2 : bs.length ≤ vc) (h3 : bs.length ≤ 8192) (hb : ∀ j u, (bs.map Zav)[j]? = some u → w.cell? ((⟨g, 0, none⟩ : Addr).add j) = some u) :
 Calls Tryz.prog 137 #[.pointer (some ⟨Mi, 0, none⟩), .int .i64 0, .int .i64 ((bs.length : Nat) : Int)] w (Zep w bs) := by
 have HB := Lib.hid (ZdU (w := w) (v := .slice (some ⟨g, 0, none⟩) bs.length bs.length) (.inr ⟨_, _, rfl, hb⟩) (by omega : bs.length ≤ 100000))
 clear hb;obtain ⟨n, hn⟩ : ∃ n, bs.length = n := ⟨_, rfl⟩;rw [hn] at m0 h2 h3 HB ⊢;have g2 : ¬ ((n : Int) < 0) := by omega
 have g3 : ¬ ((vc : Int) < (n : Int)) := by omega
 have hM := block_lt_of_cell m0;simp only at hM;clear hn
 go_enter Tryz.func137, Tryz.ntmps137
 go_wp2_with (first | (go_at_call 190; refine (HB.out).mono ?_; rintro e1 w1 ⟨v, rfl, hown, hO, hfr⟩; obtain ⟨va1, vc1, rfl⟩ := Zac hown; have HR := Lib.hid (And.intro hown (And.intro hO (Zhs hown hfr))); clear hown hO hfr) | go_in)
 go_ret2;exact ⟨_, _, _, rfl, Za6 HR.out.1, HR.out.2.1, HR.out.2.2⟩
theorem ZqF {w : World} {Mi sz : Nat} (m0 : w.cell? ⟨Mi, 0, none⟩ = some (.slice none 0 0)) (m1 : w.cell? ⟨Mi, 1, none⟩ = some (.int .i64 ((sz : Nat) : Int))) (p2 : 0 < sz) :
 Calls Tryz.prog 137 #[.pointer (some ⟨Mi, 0, none⟩), .int .i64 0, .int .i64 0] w (Zep w []) := by
 have HB := Lib.hid (ZdU (w := w) (v := .slice none 0 0) (bs := []) (.inl ⟨rfl, rfl⟩) (by simp))
 have hM := block_lt_of_cell m0;simp only at hM
 go_enter Tryz.func137, Tryz.ntmps137
 go_wp2_with (first | (go_at_call 190; refine (HB.out).mono ?_; rintro e1 w1 ⟨v, rfl, hown, hO, hfr⟩; obtain ⟨va1, vc1, rfl⟩ := Zac hown; have HR := Lib.hid (And.intro hown (And.intro hO (Zhs hown hfr))); clear hown hO hfr) | go_in)
 go_ret2;exact ⟨_, _, _, rfl, Za6 HR.out.1, HR.out.2.1, HR.out.2.2⟩
theorem Zrx {w : World} {col : Col} {q D : Nat} {s : DevS} {K S cap T : Nat} {M : Nat → Nat} {V : Nat → Value} (h : DevAt w col q D s K S cap T M V) (hup : s.down = false) {i : Nat} (hi : i < s.n + 2) :
 Calls Tryz.prog 29 #[.pointer (some ⟨D, 0, none⟩), .int .i64 ((i : Nat) : Int), .int .i64 0, .int .i64 (((s.img i).bs.length : Nat) : Int)] w (Zep w (s.img i).bs) := by
 obtain ⟨va, vc, hv, c⟩ := h.cells i hi;rw [hup] at c;have hm := h.fm i hi;have HR : Hid (∀ w', Old w w' → Calls Tryz.prog 137 #[.pointer (some ⟨M i, 0, none⟩), .int .i64 0, .int .i64 (((s.img i).bs.length : Nat) : Int)] w' (Zep w' (s.img i).bs)) := fun w' O => by
  have c' := c.old O;have own := O.own hm.own (fun _ _ x => x)
  rcases Za6 own with ⟨h1, h2⟩ | ⟨ad, cc, h1, h2⟩
  ·have m0 := c'.m0;rw [hv] at h1;rw [h1] at m0;rw [h2];exact ZqF m0 c'.m1 c'.p2
  ·rw [hv] at h1;injection h1 with h1 _ h3;subst h1 h3;rw [hv] at own;obtain ⟨g, rfl⟩ := Zov own;exact Zrw c'.m0 c'.m1 c'.p2 (ZgA own).1 (by have := c'.p5; have := c'.p6; omega) h2
 obtain ⟨d0, -, d2, -, d4, k0, -, -, s0, m0, m1, -, -, -, hD, hK, hS, -, hM, b0, p0, p1, p2, p3, p4, -, -, -, -, -, -, -, -, -, -⟩ := c;clear h hm hv;have kD : ∀ k, D < w.heap.size + k := fun k => by omega
 have kK : ∀ k, K < w.heap.size + k := fun k => by omega
 have kS : ∀ k, S < w.heap.size + k := fun k => by omega
 have kM : ∀ k, M i < w.heap.size + k := fun k => by omega
 go_enter Tryz.func29, Tryz.ntmps29
 go_wp2_with (first | (go_at_call 137; refine (HR.out _ ?_).mono ?_; (exact ((((Upd.refl _ _).alloc _).alloc _).alloc _)); rintro e1 w1 ⟨ra, rn, rc, rfl, hb, hO, hfr⟩; have c2 : w1.cell? ⟨w.heap.size + 1 + 1, 0, none⟩ = some (.slice none 0 0) := Old.cellOf' hO (by go_simp); have f2 : w1.frozen? ⟨w.heap.size + 1 + 1, 0, none⟩ = false := hO.frz (by go_simp) (by go_simp); have l2 := World.block_lt_of_cell? w1 _ c2; have HX := Lib.hid (And.intro hb (And.intro hO hfr)); clear hb hO hfr) | (go_at_call 137; refine Hid.out ?_) | go_in)
 go_ret2;have hz : ((((w.alloc (.cells #[.int .i64 0] 3)).alloc (.cells #[.int .i64 (((s.img i).bs.length : Nat) : Int)] 3)).alloc (.cells #[.slice none 0 0] 41))).heap.size = w.heap.size + 3 := by simp
 have U : Upd (fun b => b = w.heap.size + 1 + 1) w1 (w1.setCell ⟨w.heap.size + 1 + 1, 0, none⟩ (.slice ra rn rc)) := (Upd.refl _ w1).setCell _ _ (.inl rfl)
 refine ⟨ra, rn, rc, rfl, HX.out.1.upd U (fun ad n c e hb => ?_), ?_, fun ad n c e => ?_⟩
 ·have := HX.out.2.2 ad n c e; omega
 ·exact ((((Upd.refl _ w).alloc _).alloc _).alloc _ |>.trans HX.out.2.1).setCell _ _ (.inr (by simp; omega))
 ·have := HX.out.2.2 ad n c e; omega
end Go.M
namespace Go.M
open Go.Proofs Go.RowKit Go.Shelf
attribute [local go_sem] Oper.semAt_some
def UG (PD D : Nat) (col : Col) (s : DevS) (V : World) : Prop := V.cell? ⟨PD, 0, none⟩ = some (.pointer (some ⟨D, 0, none⟩)) ∧ ∃ K S cap T M W, DevAt V col 1 D s K S cap T M W
theorem UG.old {PD D : Nat} {col : Col} {s : DevS} {V V' : World} (h : UG PD D col s V) (U : Old V V') : UG PD D col s V' := by
 obtain ⟨h1, K, S, cap, T, M, W, h2⟩ := h;exact ⟨Old.cellOf' U h1, K, S, cap, T, M, W, h2.other U (fun _ x => x.elim) (Kept.refl _ _)⟩
theorem UG.dsl {PD D : Nat} {col : Col} {s : DevS} {V : World} (h : UG PD D col s V) (hup : s.down = false) : DSl V (.pointer (some ⟨D, 0, none⟩)) s.n := by
 obtain ⟨-, K, S, cap, T, M, W, h2⟩ := h;obtain ⟨t, hd⟩ := h2.fd;have h4 := hd.cell 4;rw [hup] at h4;exact .inr ⟨D, rfl, hd.cell 2, h4⟩
theorem UG.uns {PD D : Nat} {col : Col} {s : DevS} {V : World} (h : UG PD D col s V) (hup : s.down = false) {i : Nat} (hi : i < s.n) :
 Calls Tryz.prog 7 #[.pointer (some ⟨D, 0, none⟩), .int .i64 ((i : Nat) : Int)] V fun e w' => e = .returned (.tuple #[.int .i64 (((s.img i).bs.length : Int) - ((s.img i).dur : Int)), .int .i64 0]) ∧ Old V w' := by
 obtain ⟨-, K, S, cap, T, M, W, h2⟩ := h;obtain ⟨va, vc, hv, c⟩ := h2.cells i (by omega)
 rw [hup] at c;exact ZeY c
theorem ZbP {w w' : World} (U : Old w w') : w.grownBy w' none := ⟨U.os, U.tape, U.out, U.size, fun k hk _ => U.keep k hk (fun x => x)⟩
def Zas (s : DevS) (i : Nat) : Bool := decide ((s.img i).dur < (s.img i).bs.length)
theorem Zgq {w : World} (nf : Nat) (hnf : 1 ≤ nf) {PD D : Nat} {col : Col} {s0 : DevS} {st : List Nat → DevS} (hn : s0.n ≤ 32) (hst : ∀ pre, (st pre).n = s0.n ∧ (st pre).down = false ∧ ∀ k, k ∉ pre → (st pre).img k = s0.img k) :
 ZpY Fence.wide nf Tryz.prog 77 #[.pointer (some ⟨PD, 0, none⟩)] (fun i : Nat => #[.int .i64 ((i : Nat) : Int)]) (fun pre V => UG PD D col (st pre) V) (fun pre x => x < s0.n ∧ pre = (List.range x).filter (Zas s0) ∧ Zas s0 x = true) (fun xs => xs = (List.range s0.n).filter (Zas s0)) w := by
 intro l J Jx W hW hJ hJx hG hY h0;refine callsIn_of_wp Tryz.func77 rfl trivial ?_ rfl;simp only [Tryz.ntmps77, List.size_toArray, List.length_cons, List.length_nil, Nat.reduceAdd, Nat.reduceSub, Array.replicate_succ, Array.replicate_zero, List.push_toArray, List.append_toArray, List.nil_append, List.cons_append];have HY := Lib.hid hY;have HJ := Lib.hid hJ;have HG := Lib.hid hG;have HS := Lib.hid hst;clear hY hJ hG;have hC := HG.out [] W h0;have c1 := hC.1;have HD := Lib.hid (Zir (hC.dsl (hst []).2.1) (by rw [(hst []).1]; omega))
 rw [(hst []).1] at HD;clear hC hst
 gi_wp2_with (first | (refine ⟨trivial, ?_⟩; gi_at_call 75; refine (callsIn_wide.2 HD.out).mono ?_; rintro e w1 ⟨rfl, rfl⟩))
 gi_loopw [3, 4, 8] (fun _ _ i wr => ∃ k : Nat, k ≤ s0.n ∧ i = .int .i64 k ∧ J ((List.range k).filter (Zas s0)) wr)
  (fun _ _ i _ => s0.n - (intOf i).toNat)
 case atStart => exact ⟨0, Nat.zero_le _, rfl, h0⟩
 case round =>
  obtain ⟨k, hk, rfl, hJs⟩ := hrel
  by_cases hlt : k < s0.n
  ·obtain ⟨pre, hpre⟩ : ∃ pre, (List.range k).filter (Zas s0) = pre := ⟨_, rfl⟩;rw [hpre] at hJs;have hin : ∀ y ∈ pre, y < k := fun y hy => by rw [← hpre, List.mem_filter, List.mem_range] at hy; exact hy.1
   have hnk : k ∉ pre := fun h => Nat.lt_irrefl _ (hin k h)
   obtain ⟨q1, q2, q3⟩ := HS.out pre;have hg := HG.out pre wr hJs;have e1 := hg.1;have HU := Lib.hid (hg.uns q2 (i := k) (by omega))
   rw [q3 k hnk] at HU;have g2 : ((k : Nat) : Int) < (s0.n : Int) := by omega
   have hsucc : (List.range (k + 1)).filter (Zas s0) = pre ++ (if Zas s0 k then [k] else []) := by
    rw [List.range_succ, List.filter_append, hpre];simp [List.filter];cases Zas s0 k <;> rfl
   have hdur : (s0.img k).dur ≤ (s0.img k).bs.length := by
    obtain ⟨-, K, S, cap, T, M, W, h2⟩ := hg;have := (h2.fm k (by omega)).durs
    rwa [q3 k hnk] at this
   have HSU := Lib.hid hsucc;have HPR := Lib.hid hpre;clear hg hsucc hpre hin hnk q1 q2 q3
   by_cases hu : (s0.img k).dur < (s0.img k).bs.length
   ·have hu2 : Zas s0 k = true := by simp [Zas, hu]
    have g3 : (0 : Int) < ((s0.img k).bs.length : Int) - ((s0.img k).dur : Int) := by omega
    gi_wp2_with (first | (refine ⟨trivial, ?_⟩; gi_at_call 7; refine (callsIn_wide.2 HU.out).mono ?_; rintro e w1 ⟨rfl, hO⟩))
    obtain ⟨fn, tmps, assign, body, hy, hR⟩ := HY.out pre k w1 (HJ.out _ _ _ none hJs (ZbP hO) (fun _ e => by cases e)) ⟨hlt, HPR.out.symm, hu2⟩
    rw [hy];refine ⟨fun _ => hnf, hR.mono ?_⟩
    rintro e W3 (⟨rfl, hJ3⟩ | ⟨rfl, hJx3⟩)
    ·gi_wp2
     go_roundw
     case rel => exact ⟨k + 1, by omega, by simp, by rw [HSU.out, hu2]; exact hJ3⟩
     case measure => simp [intOf]; omega
    ·gi_wp2
     refine bodyPost_ret (results_none rfl _ _ _) rfl ?_;exact ⟨⟨_, rfl⟩, .inr ⟨_, hJx3⟩⟩
   ·have hu2 : Zas s0 k = false := by simp [Zas, hu]
    have g3 : ¬ (0 : Int) < ((s0.img k).bs.length : Int) - ((s0.img k).dur : Int) := by omega
    gi_wp2_with (first | (refine ⟨trivial, ?_⟩; gi_at_call 7; refine (callsIn_wide.2 HU.out).mono ?_; rintro e w1 ⟨rfl, hO⟩))
    refine ⟨fun f h => (by cases h), ?_⟩
    gi_wp2
    go_roundw
    case rel => exact ⟨k + 1, by omega, by simp, by rw [HSU.out, hu2]; simpa using HJ.out _ _ _ none hJs (ZbP hO) (fun _ e => by cases e)⟩
    case measure => simp [intOf]; omega
  ·obtain rfl : k = s0.n := by omega
   gi_wp2
   go_end0
   exact ⟨⟨_, rfl⟩, .inl ⟨_, rfl, hJs⟩⟩
end Go.M
namespace Go.M
open Go.Proofs Go.RowKit Go.Shelf
attribute [local go_sem] Oper.semAt_some
def DevS.syn (s : DevS) (i : Nat) : DevS := s.put i { s.img i with dur := (s.img i).bs.length }
def DevS.syns (s : DevS) (l : List Nat) : DevS := l.foldl DevS.syn s
theorem ZfF : ∀ (l : List Nat) (s : DevS), (s.syns l).n = s.n ∧ (s.syns l).down = s.down ∧ (s.syns l).ops = s.ops + l.length ∧ (∀ k, k ∉ l → (s.syns l).img k = s.img k) ∧ ∀ k, k ∈ l → (s.syns l).img k = { s.img k with dur := (s.img k).bs.length }
 | [], s => ⟨rfl, rfl, by simp [DevS.syns], fun _ _ => rfl, fun _ h => by cases h⟩
 | i :: l, s => by
  obtain ⟨h1, h2, h3, h4, h5⟩ := ZfF l (s.syn i);have e : ∀ k, (s.syn i).img k = if k = i then { s.img i with dur := (s.img i).bs.length } else s.img k := fun _ => rfl
  refine ⟨h1, h2, h3.trans ?_, fun k hk => ?_, fun k hk => ?_⟩
  ·show s.ops + 1 + (l.length : Int) = s.ops + ((l.length + 1 : Nat) : Int);omega
  ·rw [List.mem_cons, not_or] at hk;show ((s.syn i).syns l).img k = _;rw [h4 k hk.2, e, if_neg hk.1]
  ·show ((s.syn i).syns l).img k = _
   by_cases hl : k ∈ l
   ·rw [h5 k hl, e]
    by_cases hi : k = i
    ·rw [if_pos hi, hi]
    ·rw [if_neg hi]
   ·have hi : k = i := by rcases List.mem_cons.1 hk with h | h; exact h; exact absurd h hl
    rw [h4 k hl, e, if_pos hi, hi]
theorem Zgr {P : Program} {fn : Func} {p : Tmp} {ty : TypeId} {tmps : Array Value} {w : World} {a : Addr} {v : Value} (h : fn.results = #[.cell p ty]) (hp : tmps.getD p undef = .pointer (some a)) (hl : (loadVar ty a).run P w = .ok v w) : (results fn tmps).run P w = .ok v w := by
 have hp' : tmps[p]?.getD undef = .pointer (some a) := by simpa using hp
 simp only [results, h];simp [hp', asAddr, hl]
theorem UG.grown {PD D B : Nat} {col : Col} {s : DevS} {X Y : World} {row : Option Nat} (h : UG PD D col s X) (hg : X.grownBy Y row) (hc : ∀ b, B ≤ b → (col b).1 = 0) (hr : ∀ r, row = some r → B ≤ r ∧ ∃ o : Obj, X.heap[r]? = some o ∧ o.isCells = false) : UG PD D col s Y := by
 obtain ⟨h1, K, S, cap, T, M, W, h2⟩ := h;exact ⟨cell_kept h1 hg (fun r e => (hr r e).2), K, S, cap, T, M, W, h2.other ((Upd.refl (fun b => row = some b) X).grown hg (fun k e => .inl e)) (fun b hb => by rw [hc b (hr b hb).1]; decide) (Kept.refl _ _)⟩
set_option maxHeartbeats 1600000 in
theorem ZfG {w : World} {col : Col} {D B : Nat} {s : DevS} {K S cap T : Nat} {M : Nat → Nat} {V : Nat → Value} (h : DevAt w col 1 D s K S cap T M V) (hup : s.down = false) (ht : TSl w (.pointer (some ⟨B, 0, none⟩)) s.n) (hc : ∀ b, w.heap.size ≤ b → (col b).1 = 0) (ho : s.ops ≤ 900000000) :
 Calls Tryz.prog 9 #[.pointer (some ⟨D, 0, none⟩), .pointer (some ⟨B, 0, none⟩)] w fun e w' => e = .returned (.int .i64 0) ∧ (∃ K S cap T M V, DevAt w' col 1 D (s.syns ((List.range s.n).filter (Zas s))) K S cap T M V) ∧ Upd (fun b => (col b).1 = 1) w w' := by
 have hlo := h.lo;have hhi := h.hi;have hds : DSl w (.pointer (some ⟨D, 0, none⟩)) s.n := by
  obtain ⟨t, hd⟩ := h.fd;have h4 := hd.cell 4;rw [hup] at h4;exact .inr ⟨D, rfl, hd.cell 2, h4⟩
 have HC := Lib.hid (fun (W : World) (U : Old w W) => ZfE (hds.old U) (ht.old U) (by omega) (by omega))
 have HH := Lib.hid h;have HCO := Lib.hid hc;clear hds ht h hc;refine (callsIn_wide (n := 8)).1 ?_;refine callsIn_of_wp_marks Tryz.func9 rfl trivial ?_ rfl;simp only [Tryz.ntmps9, List.size_toArray, List.length_cons, List.length_nil, Nat.reduceAdd, Nat.reduceSub, Array.replicate_succ, Array.replicate_zero, List.push_toArray, List.append_toArray, List.nil_append, List.cons_append];refine wpIn_wide.2 ?_
 go_wp2_with (first | (go_at_call 30; refine (HC.out _ ?_).mono ?_; (exact (((Upd.refl _ w).alloc _).alloc _)); rintro e w1 ⟨rfl, hO⟩; have p0 : w1.cell? ⟨w.heap.size, 0, none⟩ = some (.pointer (some ⟨D, 0, none⟩)) := Old.cellOf' hO (by go_simp); have p1 : w1.cell? ⟨w.heap.size + 1, 0, none⟩ = some (.int .i64 0) := Old.cellOf' hO (by go_simp); have f1 : w1.frozen? ⟨w.heap.size + 1, 0, none⟩ = false := hO.frz (by go_simp) (by go_simp); have l1 := World.block_lt_of_cell? w1 _ p1; have l0 := World.block_lt_of_cell? w1 _ p0; have H1 := Lib.hid ((((Upd.refl _ w).alloc _).alloc _).trans hO); clear hO) | (go_at_call 30; refine Hid.out ?_) | go_in)
 obtain ⟨W0, hW0⟩ : ∃ W0, w1.alloc (.cells #[.pointer (some ⟨D, 0, none⟩)] 31) = W0 := ⟨_, rfl⟩;obtain ⟨PD, hPD⟩ : ∃ PD, w1.heap.size = PD := ⟨_, rfl⟩;have U0 : Old w W0 := by rw [← hW0]; exact H1.out.alloc _
 have P0 : W0.cell? ⟨PD, 0, none⟩ = some (.pointer (some ⟨D, 0, none⟩)) := by rw [← hW0, ← hPD]; exact (Has.new w1 _ _).cell 0
 have q0 : W0.cell? ⟨w.heap.size, 0, none⟩ = some (.pointer (some ⟨D, 0, none⟩)) := by rw [← hW0]; exact Old.cellOf' ((Upd.refl _ w1).alloc _) p0
 have q1 : W0.cell? ⟨w.heap.size + 1, 0, none⟩ = some (.int .i64 0) := by rw [← hW0]; exact Old.cellOf' ((Upd.refl _ w1).alloc _) p1
 have q2 : W0.frozen? ⟨w.heap.size + 1, 0, none⟩ = false := by rw [← hW0]; exact Old.frz ((Upd.refl (fun _ => False) w1).alloc _) l1 f1
 have hP : w.heap.size ≤ PD := by rw [← hPD]; exact H1.out.size
 have hPl : w.heap.size + 1 < W0.heap.size := World.block_lt_of_cell? W0 _ q1;rw [hW0, hPD];have HU0 := Lib.hid U0;clear hW0 hPD p0 p1 f1 l1 l0 H1 U0;have hz := HU0.out.size;refine (wpIn_wide (n := 8)).1 ?_;refine ZcD rfl (by omega) (gf := 77) (lb := #[.pointer (some ⟨PD, 0, none⟩)]) rfl trivial (enters_of Tryz.func77 (by kernel_rfl) rfl) (encs := fun i : Nat => #[.int .i64 ((i : Nat) : Int)]) (fun _ => rfl)
  (Zgq 7 (by omega) (PD := PD) (D := D) (col := col) (s0 := s) (st := s.syns) (by omega) (fun pre => by obtain ⟨h1, h2, h3, h4, h5⟩ := ZfF pre s; exact ⟨h1, h2.trans hup, h4⟩))
  (fun pre V => UG PD D col (s.syns pre) V ∧ Upd (fun b => (col b).1 = 1) w V ∧ V.cell? ⟨w.heap.size, 0, none⟩ = some (.pointer (some ⟨D, 0, none⟩)) ∧ V.cell? ⟨w.heap.size + 1, 0, none⟩ = some (.int .i64 0) ∧ V.frozen? ⟨w.heap.size + 1, 0, none⟩ = false)
  (fun _ _ => False) ?own (fun _ _ _ _ _ h _ _ => h) ?start (fun pre V h => h.1)
  (fun i => { tmps := #[.pointer (some ⟨D, 0, none⟩), .pointer (some ⟨B, 0, none⟩), .pointer (some ⟨w.heap.size, 0, none⟩), undef, .pointer (some ⟨w.heap.size + 1, 0, none⟩), .int .i64 0, .int .i64 ((i : Nat) : Int), undef, .pointer (some ⟨D, 0, none⟩), .pointer (some ⟨B, 0, none⟩), .int .i64 0, .int .i64 0, .bool false, undef, .pointer (some ⟨D, 0, none⟩), .func (.func 77) #[] #[.pointer (some ⟨PD, 0, none⟩)], .int .i64 ((i : Nat) : Int), undef, undef, undef, undef, undef, undef], defers := [] })
  ?assign ?body ?done ?stop
 case own =>
  rintro pre X Y row ⟨h1, h2, h3, h4, h5⟩ hg hr;have hn : ∀ r, row = some r → w.heap.size ≤ r := fun r e => by have := (hr r e).1; omega
  refine ⟨h1.grown hg HCO.out (fun r e => ⟨hn r e, (hr r e).2⟩), h2.grown hg (fun k e => .inr (hn k e)), cell_kept h3 hg (fun r e => (hr r e).2), cell_kept h4 hg (fun r e => (hr r e).2), ?_⟩
  have hb := hg.block (w.heap.size + 1) (World.block_lt_of_cell? X _ h4) (fun e => by have := (hr _ e.symm).1; omega)
  rw [World.frozen?_of_block hb]; exact h5
 case start =>
  exact ⟨⟨P0, K, S, cap, T, M, V, HH.out.other HU0.out (fun _ x => x.elim) (Kept.refl _ _)⟩, HU0.out.mono (fun _ _ x => x.elim), q0, q1, q2⟩
 case assign =>
  intro l x V K hK
  gi_wp2
  exact hK
 case body =>
  rintro l pre x V1 hl ⟨hg, hU, c0, c1, c2⟩ ⟨hx, hin, hu⟩;obtain ⟨h1, h2, h3, h4, h5⟩ := ZfF pre s;obtain ⟨hpd, K', S', cap', T', M', V', hd⟩ := hg;have hpl : pre.length ≤ x := by
   have := List.length_filter_le (Zas s) (List.range x);rw [← hin, List.length_range] at this;exact this
  have HS := Lib.hid (Zjs hd (h2.trans hup) x (by omega) (by omega))
  have cF : ∀ b, b = D ∨ b = M' x → (col b).1 = 1 := fun b e => by
   rcases e with rfl | rfl
   ·rw [hd.cD]
   ·rw [hd.cM x (by omega)]
  have hF : ∀ b, b = D ∨ b = M' x → b < w.heap.size := fun b e => by
   have e1 := cF b e;exact Nat.lt_of_not_le (fun hb => by have := HCO.out b hb; omega)
  clear hd
  gi_wp2_with (first | (refine ⟨trivial, ?_⟩; gi_at_call 32; refine (callsIn_wide.2 HS.out).mono ?_; rintro e w2 ⟨rfl, hd2, hU2⟩))
  have nF : ∀ b, w.heap.size ≤ b → ¬ (b = D ∨ b = M' x) := fun b hb e => by have := hF b e; omega
  refine ⟨ZaJ hU2 (fun b hb => by have := hF b hb; omega), trivial, ⟨hU2.cellOf hpd (nF _ hP), K', S', cap', T', M', (fun k => if k = x then V' x else V' k), ?_⟩, hU.trans (hU2.mono (fun b _ e => cF b e)), hU2.cellOf c0 (nF _ (Nat.le_refl _)), hU2.cellOf c1 (nF _ (by omega)), ?_⟩
  ·have e : s.syns (pre ++ [x]) = (s.syns pre).syn x := by simp [DevS.syns, List.foldl_append]
   rw [e];exact hd2
  ·rw [World.frozen?_of_block (hU2.keep (w.heap.size + 1) (World.block_lt_of_cell? V1 _ c1) (nF _ (by omega)))]
   exact c2
 case done =>
  rintro D1 xs V1 hD rfl ⟨hg, hU, c0, c1, c2⟩ hKD;go_wp2;have hKD' : (V1.setCell ⟨w.heap.size + 1, 0, none⟩ (.int .i64 0)).heap[D1]? = some (.deferred (some [])) := (Below.heap_setCell V1 ⟨w.heap.size + 1, 0, none⟩ _ D1 (by show D1 ≠ w.heap.size + 1; omega)).trans hKD
  refine ⟨by simp, .inl ⟨_, _, rfl, run_takeDeferred hKD', ?_⟩⟩
  obtain ⟨V3, hV3⟩ : ∃ V3, (V1.setCell ⟨w.heap.size + 1, 0, none⟩ (.int .i64 0)).putObj D1 (.deferred none) = V3 := ⟨_, rfl⟩;have k1 : V3.cell? ⟨w.heap.size + 1, 0, none⟩ = some (.int .i64 0) := by
   rw [← hV3, World.cell?_of_block (World.putObj_heap_other (by show w.heap.size + 1 ≠ D1; omega))]
   exact World.cell?_setCell_same' _ _ _ (by rw [c1]; rfl)
  have k2 : (∃ K S cap T M V, DevAt V3 col 1 D (s.syns ((List.range s.n).filter (Zas s))) K S cap T M V) ∧ Upd (fun b => (col b).1 = 1) w V3 := by
   have U : Upd (fun b => b = w.heap.size + 1 ∨ b = D1) V1 V3 := by
    rw [← hV3];exact ((Upd.refl _ V1).setCell _ _ (.inl (.inl rfl))).grown (grownBy_putObj' _ D1 _) (fun k e => by cases e; exact .inl (.inr rfl))
   obtain ⟨hp, K', S', cap', T', M', V', hd⟩ := hg;exact ⟨⟨K', S', cap', T', M', V', hd.other U (fun b hb => by rw [HCO.out b (by omega)]; decide) (Kept.refl _ _)⟩, hU.after U (fun b hb h => by omega)⟩
  rw [hV3];refine ⟨_, Zgr rfl rfl ?_, rfl, ?_, k2.2⟩
  ·go_simp
  ·exact k2.1
 case stop =>
  rintro D1 c V1 _ h _;exact h.elim
end Go.M
