/- Walks 26. -/
import Derived.Test.YtnmkiflnonafbaaGreatDoorProg
import Derived.Test.YtnmkiflnonafbaaGreatDoorK17
import Derived.Test.YtnmkiflnonafbaaGreatDoorK18
set_option linter.unusedVariables false
set_option linter.unusedSimpArgs false
set_option maxRecDepth 100000
namespace Go.M
open Go.Proofs Go.RowKit Go.Shelf
theorem Zdr {w w' : World} (U : Old w w') : w.grownBy w' none := ⟨U.os, U.tape, U.out, U.size, fun k hk _ => U.keep k hk (fun x => x)⟩
theorem RoundIn.into {F : Fence} (hd : F.depth = none) {m m' l2 : Nat} {P : Program} {l : Nat} {f : FuncId} {tmps : Array Value} {assign body : Code} {w : World} {R : Ending → World → Prop}
 (h : RoundIn F m P l f tmps assign body w R) : RoundIn (F.inRound l2) m' P l f tmps assign body w R := ⟨h.1, fun c cs _ => h.2 c cs (fun d hd' => by rw [hd] at hd'; cases hd')⟩
def ZaC (B : Nat) (Wr : World → Nat → Prop) (V V' : World) : Prop := V.heap.size ≤ V'.heap.size ∧ ∀ k, B ≤ k → k < V.heap.size → ¬ Wr V k → V'.heap[k]? = V.heap[k]?
def ZcL (Wr : World → Nat → Prop) (V V' : World) : Prop := ∀ k, Wr V' k → Wr V k ∨ V.heap.size ≤ k
structure WrOk {β : Type} (B : Nat) (Wr : World → Nat → Prop) (J : β → World → Prop) : Prop where
 cells : ∀ s V k, J s V → Wr V k → ∃ o : Obj, V.heap[k]? = some o ∧ o.isCells = true
 step : ∀ s X Y row, J s X → X.grownBy Y row → (∀ r, row = some r → B ≤ r ∧ ∃ o : Obj, X.heap[r]? = some o ∧ o.isCells = false) → ∀ k, Wr Y k → Wr X k
theorem ZaC.from {β : Type} {B : Nat} {Wr : World → Nat → Prop} {J : β → World → Prop} {V V' : World} {s : β} (h : ZaC B Wr V V') (ok : WrOk B Wr J) (hj : J s V) : KeepsFrom B V V' := ⟨h.1, fun k o hk ho hc => by
 refine (h.2 k hk (Array.getElem?_eq_some_iff.1 ho).1 (fun hw => ?_)).trans ho
 obtain ⟨o2, h1, h2⟩ := ok.cells s V k hj hw;rw [ho] at h1;cases h1;rw [hc] at h2
 cases h2⟩
theorem ZaC.mono {B B' : Nat} {Wr : World → Nat → Prop} {V V' : World} (h : ZaC B Wr V V') (hB : B ≤ B') : ZaC B' Wr V V' := ⟨h.1, fun k hk => h.2 k (Nat.le_trans hB hk)⟩
theorem ZaC.cell {B : Nat} {Wr : World → Nat → Prop} {V V' : World} (h : ZaC B Wr V V') {a : Addr} {v : Value} (hc : V.cell? a = some v) (hB : B ≤ a.block) (hw : ¬ Wr V a.block) : V'.cell? a = some v := by
 have := h.2 a.block hB (World.block_lt_of_cell? V a hc) hw;rw [← hc];simp only [World.cell?, this]
theorem ZaC.old {B : Nat} {Wr : World → Nat → Prop} {V V' : World} (U : Old V V') : ZaC B Wr V V' := ⟨U.size, fun k _ hl _ => U.keep k hl (fun x => x)⟩
theorem WrOk.mono {β : Type} {B B' : Nat} {Wr : World → Nat → Prop} {J J' : β → World → Prop} (h : WrOk B Wr J) (hB : B ≤ B') (hj : ∀ s V, J' s V → J s V) : WrOk B' Wr J' :=
 ⟨fun s V k a b => h.cells s V k (hj s V a) b, fun s X Y row a hg hr => h.step s X Y row (hj s X a) hg (fun r e => ⟨Nat.le_trans hB (hr r e).1, (hr r e).2⟩)⟩
theorem WrOk.by_old {β : Type} {B : Nat} {Wr : World → Nat → Prop} {J : β → World → Prop} (h : WrOk B Wr J) {s : β} {X Y : World} (hj : J s X) (U : Old X Y) {k : Nat} (hw : Wr Y k) : Wr X k :=
 h.step s X Y none hj (Zdr U) (fun r e => by cases e) k hw
theorem ZaC.behind {β : Type} {B : Nat} {Wr : World → Nat → Prop} {J : β → World → Prop} (ok : WrOk B Wr J) {s : β} {X Y Z : World} (hj : J s X) (U : Old X Y) (h : ZaC B Wr Y Z) : ZaC B Wr X Z :=
 ⟨Nat.le_trans U.size h.1, fun k hk hl hw => (h.2 k hk (Nat.lt_of_lt_of_le hl U.size) (fun h2 => hw (ok.by_old hj U h2))).trans (U.keep k hl (fun x => x))⟩
theorem ZcL.behind {β : Type} {B : Nat} {Wr : World → Nat → Prop} {J : β → World → Prop} (ok : WrOk B Wr J) {s : β} {X Y Z : World} (hj : J s X) (U : Old X Y) (h : ZcL Wr Y Z) : ZcL Wr X Z := fun k hk =>
 (h k hk).imp (ok.by_old hj U) (Nat.le_trans U.size)
theorem ZcE {β : Type} {B : Nat} {J : β → World → Prop} (h : OwnFrom B J) {s : β} {X Y : World} (hj : J s X) (U : Old X Y) : J s Y :=
 h s X Y none hj (Zdr U) (fun r e => by cases e)
def ZqM {α : Type} (F : Fence) (n : Nat) (P : Program) (g : Nat) (lb : Array Value) (encs : α → Array Value) (G : List α → World → Prop) (ok : List α → α → Prop) (S : List α → Prop) (w : World) : Prop :=
 ∀ (l : Nat) (J Jx : List α → World → Prop) (Wr : World → Nat → Prop) (W : World), Old w W → OwnFrom W.heap.size J → OwnFrom W.heap.size Jx → (∀ pre V, J pre V → G pre V) → WrOk W.heap.size Wr J →
  (∀ pre x V, J pre V → ok pre x → YieldAt F (n - 1) P l (encs x) V fun e V' => ZaC W.heap.size Wr V V' ∧ ((e = .returned (.bool true) ∧ J (pre ++ [x]) V' ∧ ZcL Wr V V') ∨ (e = .returned (.bool false) ∧ Jx (pre ++ [x]) V'))) →
  J [] W → CallsIn F n P g (#[.func (.yield l) #[] #[]] ++ lb) W fun e V => (∃ v, e = .returned v) ∧ ((∃ xs, S xs ∧ J xs V) ∨ ∃ pre, Jx pre V)
def Zjx {α : Type} (B : Nat) (Wr : World → Nat → Prop) (I : List α → World → Prop) (Ix : Code → World → Prop) (xs : List α) (W : World) : Exit → Act → World → Prop
 | .normal, _, W' => ZaC B Wr W W' ∧ ZcL Wr W W' ∧ I xs W'
 | .ret, _, W' => ZaC B Wr W W' ∧ Ix .ret W'
 | .exit id, _, W' => ZaC B Wr W W' ∧ Ix (.exit id) W'
 | .goto t, _, W' => ZaC B Wr W W' ∧ Ix (.goto t) W'
 | .panic _, _, _ => False
 | .outgrown, _, _ => False
theorem Zmd {α : Type} {F : Fence} {n : Nat} {P : Program} {g : Operand} {ps : Array Tmp} {assign body : Code} {Q : Exit → Act → World → Prop} {a : Act} {w : World} (hro : F.round = none) (h1 : 1 ≤ n) {gf : Nat} {lb : Array Value}
 (hg : a.eval g = .func (.func gf) #[] lb) (hF : F.fn gf) (eg : ∀ args w, (callFunc gf args).run P w = .ok (.enter gf args) w) {encs : α → Array Value} (hps : ∀ x, (encs x).size = ps.size)
 {G : List α → World → Prop} {ok : List α → α → Prop} {S : List α → Prop} (hseq : ZqM F (n - 1) P gf lb encs G ok S w)
 (I : List α → World → Prop) (Ix : Code → World → Prop) (Wr : World → Nat → Prop) (hWr : WrOk w.heap.size Wr I) (hI : OwnFrom w.heap.size I) (hIx : ∀ c, OwnFrom w.heap.size (fun (_ : Unit) => Ix c)) (h0 : I [] w) (hG : ∀ pre V, I pre V → G pre V) (a1 : α → Act)
 (hassign : ∀ (l : Nat) (x : α) (V : World) (K : Act → World → Prop), K (a1 x) V → assign.wpIn (F.inRound l) (n - 1 - 1) P (Exit.then K (fun _ _ _ => False)) { tmps := (ps.zip (encs x)).foldl (fun t (p, v) => t.setIfInBounds p v) a.tmps, defers := [] } V)
 (hbody : ∀ (l : Nat) (pre : List α) (x : α) (V : World), w.heap.size ≤ l → I pre V → ok pre x → body.wpIn (F.inRound l) (n - 1 - 1) P (Zjx w.heap.size Wr I Ix (pre ++ [x]) V) (a1 x) V)
 (hdone : ∀ (D : Nat) (xs : List α) (V : World), w.heap.size ≤ D → S xs → I xs V → V.heap[D]? = some (.deferred (some [])) → Q .normal { a with defers := { target := .collected D, args := #[] } :: a.defers } V)
 (hstop : ∀ (D : Nat) (c : Code) (V : World), w.heap.size ≤ D → Ix c V → V.heap[D]? = some (.deferred (some [])) → c.wpIn F n P Q { a with defers := { target := .collected D, args := #[] } :: a.defers } V) :
 (Code.rangeFunc g ps assign body).wpIn F n P Q a w := by
 refine wpIn_rangeFunc fun fn hfn => ?_
 rw [hro];obtain ⟨b, hb⟩ : ∃ b, w.heap.size = b := ⟨_, rfl⟩;obtain ⟨r0, hr0⟩ : ∃ r0 : Loop, r0 = { state := .ready, pending := none, fn := fn, tmps := a.tmps, params := ps, assign := assign, body := body, defers := b } := ⟨_, rfl⟩;obtain ⟨V1, hV1⟩ : ∃ V1, (w.alloc (.deferred (some []))).alloc (.loop r0) = V1 := ⟨_, rfl⟩;have hz : V1.heap.size = b + 2 := by rw [← hV1, ← hb]; simp
 have U1 : Old w V1 := by rw [← hV1]; exact ((Upd.refl _ w).alloc _).alloc _
 have B1 : Bk b r0 V1 := by
  rw [← hV1];constructor
  ·rw [← hb]; exact (Below.heap_alloc _ _ _ (by simp)).trans (World.alloc_heap_new w _)
  ·have := World.alloc_heap_new (w.alloc (.deferred (some []))) (.loop r0);rwa [World.size_alloc, hb] at this
 have I1 : I [] V1 := by rw [← hV1]; exact hI.alloc _ (hI.alloc _ h0)
 refine ⟨b + 1, [{ target := .collected b, args := #[] }], V1, { target := .fn (.func gf) lb, args := #[.func (.yield (b + 1)) #[] #[]] }, V1, gf, #[.func (.yield (b + 1)) #[] #[]] ++ lb, V1, ?_, ?_, ?_, ?_, fun _ => h1, ?_⟩
 ·have := run_enterLoop_outer (P := P) (w := w) fn a.tmps ps assign body;rw [hb] at this;rw [this, ← hV1, hr0]
 ·simp only [resolve, hg];simp [go_sem]
 ·intro f' hf';simp [Target.leads] at hf';subst hf';exact hF
 ·simp [invoke, go_sem, eg]
 have row : ∀ {A : World} {r : Option Nat}, (∀ k, r = some k → V1.heap.size ≤ k ∧ ∃ o : Obj, A.heap[k]? = some o ∧ o.isCells = false) → ∀ k, r = some k → w.heap.size ≤ k ∧ ∃ o : Obj, A.heap[k]? = some o ∧ o.isCells = false := fun h k e => by
  obtain ⟨h2, o, ho, hw⟩ := h k e;exact ⟨by omega, o, ho, hw⟩
 have put : ∀ {A : World} {s : List α} {r : Loop} (o2 : Obj), I s A → Bk b r A → ∀ k, Wr (A.putObj (b + 1) o2) k → Wr A k := fun {A s r} o2 hi hb k => hWr.step s A _ _ hi (grownBy_putObj' _ _ _) (fun q e => by cases e; exact ⟨by omega, _, hb.2, rfl⟩) k
 have far : ∀ {A C : World} {s : List α} {r : Loop} {o1 o2 : Obj}, I s A → Bk b r A → ZaC w.heap.size Wr (A.putObj (b + 1) o1) C → ZaC V1.heap.size Wr A (C.putObj (b + 1) o2) := fun {A C s r o1 o2} hi hb h => by
  refine ⟨by have := h.1; simpa using this, fun k hk hl hw => ?_⟩
  rw [World.putObj_heap_other (by omega)]
  have := h.2 k (by omega) (by simpa using hl) (fun hw2 => hw (put o1 hi hb k hw2))
  rw [this, World.putObj_heap_other (by omega)]
 refine (hseq (b + 1) (fun pre V => I pre V ∧ Bk b r0 V) (fun _ V => ∃ c, Ix c V ∧ Bk b { r0 with state := .done, pending := some c } V) Wr V1 U1 ?_ ?_ (fun pre V h => hG pre V h.1) ⟨fun s V k h hw => hWr.cells s V k h.1 hw, fun s A B r h hg hr k hw => hWr.step s A B r h.1 hg (row hr) k hw⟩ ?_ ⟨I1, B1⟩).mono ?_
 ·exact fun s A A' r h hgr hr => ⟨hI s A A' r h.1 hgr (row hr), h.2.far hgr (B := V1.heap.size) (by omega) (fun k e => (hr k e).1)⟩
 ·rintro s A A' r ⟨c, h1, h2⟩ hgr hr;exact ⟨c, hIx c () A A' r h1 hgr (row hr), h2.far hgr (B := V1.heap.size) (by omega) (fun k e => (hr k e).1)⟩
 ·rintro pre x V ⟨hi, hk⟩ hok;have hy := run_yield (P := P) (args := encs x) hk.2 (by rw [hr0]; exact hps x)
  rw [hr0] at hy;refine ⟨fn, _, assign, body, hy, roundIn_of_wpIn hfn (hassign _ x V _ ?_)⟩;refine ⟨_, run_beginRound hk.2 (by rw [hr0]), ?_⟩
  have hl : ∃ o : Obj, V.heap[b + 1]? = some o ∧ o.isCells = false := ⟨_, hk.2, rfl⟩;have hk2 := hk.put { r0 with state := .busy }
  have hi2 := hI.putObj (s := pre) (.loop { r0 with state := .busy }) hi (by omega) hk.2 rfl
  have ends : ∀ (j : Option Code) (V3 : World), KeepsFrom w.heap.size (V.putObj (b + 1) (.loop { r0 with state := .busy })) V3 → (Instr.endRound (b + 1) j).run P V3 = .ok (.bool j.isNone) (V3.putObj (b + 1) (.loop { r0 with state := if j.isNone then .ready else .done, pending := j })) ∧ Bk b { r0 with state := .busy } V3 := fun j V3 k3 => by
   have e1 := k3.same _ _ (by omega) hk2.1 rfl
   have e2 := k3.same _ _ (by omega) hk2.2 rfl
   have e3 := run_endRound (P := P) j e2;exact ⟨e3, e1, e2⟩
  refine wpIn_mono (hbody _ pre x _ (by omega) hi2 hok) ?_
  intro e a3 V3 hp;have stop : ∀ c, ZaC w.heap.size Wr (V.putObj (b + 1) (.loop { r0 with state := .busy })) V3 ∧ Ix c V3 → ∃ v V4, (Instr.endRound (b + 1) (some c)).run P V3 = .ok v V4 ∧ ZaC V1.heap.size Wr V V4 ∧ ((Ending.returned v = .returned (.bool true) ∧ (I (pre ++ [x]) V4 ∧ Bk b r0 V4) ∧ ZcL Wr V V4) ∨ (Ending.returned v = .returned (.bool false) ∧ ∃ c, Ix c V4 ∧ Bk b { r0 with state := .done, pending := some c } V4)) := fun c h => by
   obtain ⟨e1, e2⟩ := ends (some c) V3 (h.1.from hWr hi2)
   exact ⟨_, _, e1, far hi hk h.1, .inr ⟨rfl, c, (hIx c).putObj (s := ()) _ h.2 (by omega) e2.2 rfl, by simpa using e2.put _⟩⟩
  cases e with
  | normal =>
   obtain ⟨k3, f3, i3⟩ := hp;obtain ⟨e1, e2⟩ := ends none V3 (k3.from hWr hi2)
   refine ⟨_, _, e1, far hi hk k3, .inl ⟨rfl, ⟨hI.putObj (s := pre ++ [x]) _ i3 (by omega) e2.2 rfl, ?_⟩, fun k hw => ?_⟩⟩
   rotate_left
   ·rcases f3 k (put _ i3 e2 k hw) with h | h
    ·exact .inl (put _ hi hk k h)
    ·exact .inr (by simpa using h)
   have := e2.put r0;rw [hr0] at this ⊢;exact this
  | ret => exact stop _ hp
  | exit id => exact stop _ hp
  | goto t => exact stop _ hp
  | panic ch => exact hp.elim
  | outgrown => exact hp.elim
 ·rintro e V2 ⟨⟨v, rfl⟩, ⟨xs, hS, hi, hk⟩ | ⟨pre, c, hc, hk⟩⟩
  ·have := run_endLoop (P := P) hk.2 (by rw [hr0]; simp)
   rw [show r0.pending = none by rw [hr0]] at this
   exact ⟨none, _, this, hdone b xs _ (by omega) hS (hI.putObj (s := xs) _ hi (by omega) hk.2 rfl) (hk.put _).1⟩
  ·have := run_endLoop (P := P) hk.2 (by simp)
   exact ⟨some c, _, this, hstop b c _ (by omega) ((hIx c).putObj (s := ()) _ hc (by omega) hk.2 rfl) (hk.put _).1⟩
theorem ZnF {α : Type} {F : Fence} {n : Nat} {P : Program} {g : Operand} {ps : Array Tmp} {assign body : Code} {Q : Exit → Act → World → Prop} {a : Act} {w : World} (hro : F.round = none) (h1 : 1 ≤ n) {gf : Nat} {lb : Array Value}
 (hg : a.eval g = .func (.func gf) #[] lb) (hF : F.fn gf) (eg : ∀ args w, (callFunc gf args).run P w = .ok (.enter gf args) w) {encs : α → Array Value} (hps : ∀ x, (encs x).size = ps.size)
 {G : List α → World → Prop} {ok : List α → α → Prop} {S : List α → Prop} (hseq : ZqM F (n - 1) P gf lb encs G ok S w)
 (I : List α → World → Prop) (Ix : Code → World → Prop) (Wr : World → Nat → Prop) (hWr : WrOk w.heap.size Wr I) (hI : OwnFrom w.heap.size I) (hIx : ∀ c, OwnFrom w.heap.size (fun (_ : Unit) => Ix c)) (h0 : I [] w) (hG : ∀ pre V, I pre V → G pre V) (ob : α → Obj) (a1 : α → Nat → Act)
 (hassign : ∀ (l : Nat) (x : α) (V : World) (K : Act → World → Prop), K (a1 x V.heap.size) (V.alloc (ob x)) → assign.wpIn (F.inRound l) (n - 1 - 1) P (Exit.then K (fun _ _ _ => False)) { tmps := (ps.zip (encs x)).foldl (fun t (p, v) => t.setIfInBounds p v) a.tmps, defers := [] } V)
 (hbody : ∀ (l H : Nat) (pre : List α) (x : α) (V : World), w.heap.size ≤ l → w.heap.size ≤ H → V.heap[H]? = some (ob x) → ¬ Wr V H → I pre V → ok pre x → body.wpIn (F.inRound l) (n - 1 - 1) P (Zjx w.heap.size Wr I Ix (pre ++ [x]) V) (a1 x H) V)
 (hdone : ∀ (D : Nat) (xs : List α) (V : World), w.heap.size ≤ D → S xs → I xs V → V.heap[D]? = some (.deferred (some [])) → Q .normal { a with defers := { target := .collected D, args := #[] } :: a.defers } V)
 (hstop : ∀ (D : Nat) (c : Code) (V : World), w.heap.size ≤ D → Ix c V → V.heap[D]? = some (.deferred (some [])) → c.wpIn F n P Q { a with defers := { target := .collected D, args := #[] } :: a.defers } V) :
 (Code.rangeFunc g ps assign body).wpIn F n P Q a w := by
 refine wpIn_rangeFunc fun fn hfn => ?_
 rw [hro];obtain ⟨b, hb⟩ : ∃ b, w.heap.size = b := ⟨_, rfl⟩;obtain ⟨r0, hr0⟩ : ∃ r0 : Loop, r0 = { state := .ready, pending := none, fn := fn, tmps := a.tmps, params := ps, assign := assign, body := body, defers := b } := ⟨_, rfl⟩;obtain ⟨V1, hV1⟩ : ∃ V1, (w.alloc (.deferred (some []))).alloc (.loop r0) = V1 := ⟨_, rfl⟩;have hz : V1.heap.size = b + 2 := by rw [← hV1, ← hb]; simp
 have U1 : Old w V1 := by rw [← hV1]; exact ((Upd.refl _ w).alloc _).alloc _
 have B1 : Bk b r0 V1 := by
  rw [← hV1];constructor
  ·rw [← hb]; exact (Below.heap_alloc _ _ _ (by simp)).trans (World.alloc_heap_new w _)
  ·have := World.alloc_heap_new (w.alloc (.deferred (some []))) (.loop r0);rwa [World.size_alloc, hb] at this
 have I1 : I [] V1 := by rw [← hV1]; exact hI.alloc _ (hI.alloc _ h0)
 refine ⟨b + 1, [{ target := .collected b, args := #[] }], V1, { target := .fn (.func gf) lb, args := #[.func (.yield (b + 1)) #[] #[]] }, V1, gf, #[.func (.yield (b + 1)) #[] #[]] ++ lb, V1, ?_, ?_, ?_, ?_, fun _ => h1, ?_⟩
 ·have := run_enterLoop_outer (P := P) (w := w) fn a.tmps ps assign body;rw [hb] at this;rw [this, ← hV1, hr0]
 ·simp only [resolve, hg];simp [go_sem]
 ·intro f' hf';simp [Target.leads] at hf';subst hf';exact hF
 ·simp [invoke, go_sem, eg]
 have row : ∀ {A : World} {r : Option Nat}, (∀ k, r = some k → V1.heap.size ≤ k ∧ ∃ o : Obj, A.heap[k]? = some o ∧ o.isCells = false) → ∀ k, r = some k → w.heap.size ≤ k ∧ ∃ o : Obj, A.heap[k]? = some o ∧ o.isCells = false := fun h k e => by
  obtain ⟨h2, o, ho, hw⟩ := h k e;exact ⟨by omega, o, ho, hw⟩
 have put : ∀ {A : World} {s : List α} {r : Loop} (o2 : Obj), I s A → Bk b r A → ∀ k, Wr (A.putObj (b + 1) o2) k → Wr A k := fun {A s r} o2 hi hb k => hWr.step s A _ _ hi (grownBy_putObj' _ _ _) (fun q e => by cases e; exact ⟨by omega, _, hb.2, rfl⟩) k
 have far : ∀ {A C : World} {s : List α} {r : Loop} {o1 o2 : Obj}, I s A → Bk b r A → ZaC w.heap.size Wr (A.putObj (b + 1) o1) C → ZaC V1.heap.size Wr A (C.putObj (b + 1) o2) := fun {A C s r o1 o2} hi hb h => by
  refine ⟨by have := h.1; simpa using this, fun k hk hl hw => ?_⟩
  rw [World.putObj_heap_other (by omega)]
  have := h.2 k (by omega) (by simpa using hl) (fun hw2 => hw (put o1 hi hb k hw2))
  rw [this, World.putObj_heap_other (by omega)]
 refine (hseq (b + 1) (fun pre V => I pre V ∧ Bk b r0 V) (fun _ V => ∃ c, Ix c V ∧ Bk b { r0 with state := .done, pending := some c } V) Wr V1 U1 ?_ ?_ (fun pre V h => hG pre V h.1) ⟨fun s V k h hw => hWr.cells s V k h.1 hw, fun s A B r h hg hr k hw => hWr.step s A B r h.1 hg (row hr) k hw⟩ ?_ ⟨I1, B1⟩).mono ?_
 ·exact fun s A A' r h hgr hr => ⟨hI s A A' r h.1 hgr (row hr), h.2.far hgr (B := V1.heap.size) (by omega) (fun k e => (hr k e).1)⟩
 ·rintro s A A' r ⟨c, h1, h2⟩ hgr hr;exact ⟨c, hIx c () A A' r h1 hgr (row hr), h2.far hgr (B := V1.heap.size) (by omega) (fun k e => (hr k e).1)⟩
 ·rintro pre x V0 ⟨hi0, hk0⟩ hok;have hy := run_yield (P := P) (args := encs x) hk0.2 (by rw [hr0]; exact hps x)
  rw [hr0] at hy;refine ⟨fn, _, assign, body, hy, roundIn_of_wpIn hfn (hassign _ x V0 _ ?_)⟩;have lb0 : b + 1 < V0.heap.size := (Array.getElem?_eq_some_iff.1 hk0.2).1;have hi : I pre (V0.alloc (ob x)) := hI.alloc _ hi0;have hk : Bk b r0 (V0.alloc (ob x)) := hk0.far (World.grownBy_alloc V0 (ob x) none) lb0 (fun k e => by cases e)
  have hH : (V0.alloc (ob x)).heap[V0.heap.size]? = some (ob x) := World.alloc_heap_new V0 _;have UA : Old V0 (V0.alloc (ob x)) := (Upd.refl _ V0).alloc _;have hnH : ¬ Wr (V0.alloc (ob x)) V0.heap.size := fun hw => by
   obtain ⟨o, h1, -⟩ := hWr.cells _ _ _ hi0 (hWr.by_old hi0 UA hw);have := (Array.getElem?_eq_some_iff.1 h1).1;omega
  obtain ⟨V, hV⟩ : ∃ V, V0.alloc (ob x) = V := ⟨_, rfl⟩;rw [hV] at hi hk hH UA hnH ⊢;have bk : ∀ {V4 : World}, ZaC V1.heap.size Wr V V4 → ZaC V1.heap.size Wr V0 V4 := fun h => h.behind (hWr.mono (by omega) (fun _ _ x => x)) hi0 UA
  have bf : ∀ {V4 : World}, ZcL Wr V V4 → ZcL Wr V0 V4 := fun h => h.behind hWr hi0 UA
  refine ⟨_, run_beginRound hk.2 (by rw [hr0]), ?_⟩
  have hl : ∃ o : Obj, V.heap[b + 1]? = some o ∧ o.isCells = false := ⟨_, hk.2, rfl⟩;have hk2 := hk.put { r0 with state := .busy }
  have hi2 := hI.putObj (s := pre) (.loop { r0 with state := .busy }) hi (by omega) hk.2 rfl
  have ends : ∀ (j : Option Code) (V3 : World), KeepsFrom w.heap.size (V.putObj (b + 1) (.loop { r0 with state := .busy })) V3 → (Instr.endRound (b + 1) j).run P V3 = .ok (.bool j.isNone) (V3.putObj (b + 1) (.loop { r0 with state := if j.isNone then .ready else .done, pending := j })) ∧ Bk b { r0 with state := .busy } V3 := fun j V3 k3 => by
   have e1 := k3.same _ _ (by omega) hk2.1 rfl
   have e2 := k3.same _ _ (by omega) hk2.2 rfl
   have e3 := run_endRound (P := P) j e2;exact ⟨e3, e1, e2⟩
  refine wpIn_mono (hbody _ V0.heap.size pre x _ (by omega) (by omega) ((World.putObj_heap_other (by omega)).trans hH) (fun hw => hnH (put _ hi hk _ hw)) hi2 hok) ?_
  intro e a3 V3 hp;have stop : ∀ c, ZaC w.heap.size Wr (V.putObj (b + 1) (.loop { r0 with state := .busy })) V3 ∧ Ix c V3 → ∃ v V4, (Instr.endRound (b + 1) (some c)).run P V3 = .ok v V4 ∧ ZaC V1.heap.size Wr V0 V4 ∧ ((Ending.returned v = .returned (.bool true) ∧ (I (pre ++ [x]) V4 ∧ Bk b r0 V4) ∧ ZcL Wr V0 V4) ∨ (Ending.returned v = .returned (.bool false) ∧ ∃ c, Ix c V4 ∧ Bk b { r0 with state := .done, pending := some c } V4)) := fun c h => by
   obtain ⟨e1, e2⟩ := ends (some c) V3 (h.1.from hWr hi2)
   exact ⟨_, _, e1, bk (far hi hk h.1), .inr ⟨rfl, c, (hIx c).putObj (s := ()) _ h.2 (by omega) e2.2 rfl, by simpa using e2.put _⟩⟩
  cases e with
  | normal =>
   obtain ⟨k3, f3, i3⟩ := hp;obtain ⟨e1, e2⟩ := ends none V3 (k3.from hWr hi2)
   refine ⟨_, _, e1, bk (far hi hk k3), .inl ⟨rfl, ⟨hI.putObj (s := pre ++ [x]) _ i3 (by omega) e2.2 rfl, ?_⟩, bf (fun k hw => ?_)⟩⟩
   rotate_left
   ·rcases f3 k (put _ i3 e2 k hw) with h | h
    ·exact .inl (put _ hi hk k h)
    ·exact .inr (by simpa using h)
   have := e2.put r0;rw [hr0] at this ⊢;exact this
  | ret => exact stop _ hp
  | exit id => exact stop _ hp
  | goto t => exact stop _ hp
  | panic ch => exact hp.elim
  | outgrown => exact hp.elim
 ·rintro e V2 ⟨⟨v, rfl⟩, ⟨xs, hS, hi, hk⟩ | ⟨pre, c, hc, hk⟩⟩
  ·have := run_endLoop (P := P) hk.2 (by rw [hr0]; simp)
   rw [show r0.pending = none by rw [hr0]] at this
   exact ⟨none, _, this, hdone b xs _ (by omega) hS (hI.putObj (s := xs) _ hi (by omega) hk.2 rfl) (hk.put _).1⟩
  ·have := run_endLoop (P := P) hk.2 (by simp)
   exact ⟨some c, _, this, hstop b c _ (by omega) ((hIx c).putObj (s := ()) _ hc (by omega) hk.2 rfl) (hk.put _).1⟩
attribute [local go_sem] Oper.semAt_some
theorem Zpt {n b cap O : Nat} {key : Nat → ByteArray} {val : Nat → Value} (m : Nat) (hm : 1 ≤ m) (l : Nat) (hn : n ≤ 1000) (hcap : n ≤ cap) (hv1 : ∀ i, i < n → ∃ a c d, val i = .slice a c d) (J Jx : List Nat → World → Prop)
 (hY : ∀ pre x W, J pre W → (x < n ∧ pre = List.range x) → YieldAt Fence.wide (m - 1) Tryz.prog l #[.string (key x), val x] W fun e W' => (e = .returned (.bool true) ∧ J (pre ++ [x]) W') ∨ (e = .returned (.bool false) ∧ Jx (pre ++ [x]) W'))
 (W : World) (hJ : OwnFrom W.heap.size J) (hO0 : W.cell? ⟨O, 0, none⟩ = some (.bool true)) (hO1 : W.cell? ⟨O, 1, none⟩ = some (.slice (some ⟨b, 0, none⟩) n cap))
 (hc : ∀ pre V, J pre V → ∀ i, i < n → V.cell? ⟨b, i * 2, none⟩ = some (.string (key i)) ∧ V.cell? ⟨b, i * 2 + 1, none⟩ = some (val i)) (h0 : J [] W) :
 CallsIn Fence.wide m Tryz.prog 149 #[.pointer (some ⟨O, 0, none⟩), .int .i64 0, .func (.yield l) #[] #[]] W fun e W' => (∃ v, e = .returned v) ∧
  ((∃ xs, xs = List.range n ∧ J xs W') ∨ ∃ pre, Jx pre W') := by
 refine callsIn_of_wp Tryz.func149 rfl trivial ?_ rfl;simp only [Tryz.ntmps149, List.size_toArray, List.length_cons, List.length_nil, Nat.reduceAdd, Nat.reduceSub, Array.replicate_succ, Array.replicate_zero, List.push_toArray, List.append_toArray, List.nil_append, List.cons_append];have HC := Lib.hid hc;have HY := Lib.hid hY;have HJ := Lib.hid hJ;have HV := Lib.hid hv1;clear hc hY hJ hv1;have g1 : ¬ ((n : Int) < 0) := by omega
 have g2 : ¬ ((cap : Int) < (n : Int)) := by omega
 have HI := Lib.hid (Zeb (w := W) hO0 hO1)
 gi_wp2_with (first | (refine ⟨trivial, ?_⟩; gi_at_call 191; refine (callsIn_wide.2 HI.out).mono ?_; rintro e w1 ⟨rfl, rfl⟩))
 gi_loopw [7, 13] (fun _ i wr => ∃ k : Nat, k ≤ n ∧ i = .int .i64 k ∧ J (List.range k) wr)
  (fun _ i _ => n - (intOf i).toNat)
 case atStart => exact ⟨0, Nat.zero_le _, rfl, h0⟩
 case round =>
  obtain ⟨k, hk, rfl, hJs⟩ := hrel
  by_cases hlt : k < n
  ·obtain ⟨va, vn, vc, hvk⟩ := HV.out k hlt;have c0 : wr.cell? ⟨b, k * 2, none⟩ = some (.string (key k)) := (HC.out _ _ hJs k hlt).1;have c1 : wr.cell? ⟨b, k * 2 + 1, none⟩ = some (.slice va vn vc) := (HC.out _ _ hJs k hlt).2.trans (by rw [hvk])
   obtain ⟨fn, tmps, assign, body, hy, hR⟩ := HY.out (List.range k) k (wr.alloc (.cells #[.string (key k), .slice va vn vc] 216)) (HJ.out _ _ _ none hJs (World.grownBy_alloc _ _ none) (fun r e => by cases e)) ⟨hlt, rfl⟩
   rw [hvk] at hy;have hrs : List.range k ++ [k] = List.range (k + 1) := List.range_succ.symm
   gi_wp2
   refine hR.mono ?_;rintro e W3 (⟨rfl, hJ3⟩ | ⟨rfl, hJx3⟩)
   ·gi_wp2
    go_roundw
    case rel => exact ⟨k + 1, by omega, by simp, by rw [← hrs]; exact hJ3⟩
    case measure => simp [intOf]; omega
   ·gi_wp2
    refine bodyPost_ret (results_none rfl _ _ _) rfl ?_;exact ⟨⟨_, rfl⟩, .inr ⟨_, hJx3⟩⟩
  ·obtain rfl : k = n := by omega
   gi_wp2
   go_end0
   exact ⟨⟨_, rfl⟩, .inl ⟨_, rfl, hJs⟩⟩
theorem Zkw {O : Nat} (m : Nat) (hm : 1 ≤ m) (l : Nat) (J Jx : List Nat → World → Prop) (W : World) (hO0 : W.cell? ⟨O, 0, none⟩ = some (.bool true)) (hO1 : W.cell? ⟨O, 1, none⟩ = some (.slice none 0 0)) (h0 : J [] W) :
 CallsIn Fence.wide m Tryz.prog 149 #[.pointer (some ⟨O, 0, none⟩), .int .i64 0, .func (.yield l) #[] #[]] W fun e W' => (∃ v, e = .returned v) ∧
  ((∃ xs, xs = List.range 0 ∧ J xs W') ∨ ∃ pre, Jx pre W') := by
 refine callsIn_of_wp Tryz.func149 rfl trivial ?_ rfl;simp only [Tryz.ntmps149, List.size_toArray, List.length_cons, List.length_nil, Nat.reduceAdd, Nat.reduceSub, Array.replicate_succ, Array.replicate_zero, List.push_toArray, List.append_toArray, List.nil_append, List.cons_append];have HI := Lib.hid (Zeb (w := W) hO0 hO1)
 gi_wp2_with (first | (refine ⟨trivial, ?_⟩; gi_at_call 191; refine (callsIn_wide.2 HI.out).mono ?_; rintro e w1 ⟨rfl, rfl⟩))
 gi_loopw [7, 13] (fun _ i wr => i = .int .i64 0 ∧ J [] wr) (fun _ _ _ => 0)
 case atStart => exact ⟨rfl, h0⟩
 case round =>
  obtain ⟨rfl, hJs⟩ := hrel
  gi_wp2
  go_end0
  exact ⟨⟨_, rfl⟩, .inl ⟨[], rfl, hJs⟩⟩
theorem ZrG {O n : Nat} {mv : Value} {key : Nat → ByteArray} {val : Nat → Value} {w : World} (m : Nat) (hm : 1 ≤ m) (PM : Nat) (hfew : n ≤ 1000) (hv1 : ∀ i, i < n → ∃ a c d, val i = .slice a c d) :
 ZqM Fence.wide m Tryz.prog 148 #[.pointer (some ⟨PM, 0, none⟩)] (fun i : Nat => #[.string (key i), val i]) (fun _ V => V.cell? ⟨PM, 0, none⟩ = some (.pointer (some ⟨O, 0, none⟩)) ∧ OMap V O mv n key val) (fun pre x => x < n ∧ pre = List.range x) (fun xs => xs = List.range n) w := by
 intro l J Jx Wr W hW hJ hJx hG _ hY h0;obtain ⟨c1, hM'⟩ := hG _ _ h0;obtain ⟨t, hO⟩ := hM'.made;have o0 := hO.cell 0;have o1 := hO.cell 1
 have HS : Hid (∀ n', CallsIn Fence.wide n' Tryz.prog 149 #[.pointer (some ⟨O, 0, none⟩), .int .i64 0, .func (.yield l) #[] #[]] W fun e W' => (∃ v, e = .returned v) ∧
  ((∃ xs, xs = List.range n ∧ J xs W') ∨ ∃ pre, Jx pre W')) := by
  intro n';refine callsIn_wide.2 (callsIn_wide (n := m).1 ?_);rcases hM'.own.2 with ⟨h1, h2⟩ | ⟨g, cap, cur, h1, hb, hg, hnc, hcm, hcs, htk⟩
  ·rw [h1] at o1;subst h2;exact Zkw m hm l J Jx W o0 o1 h0
  ·rw [h1] at o1;refine Zpt m hm l hfew hnc hv1 J Jx (fun pre x V a b => YieldAt.mono (hY pre x V a b) (fun e V' h => h.2.imp (fun h => ⟨h.1, h.2.1⟩) id)) W hJ o0 o1 (fun pre V hj i hi => ?_) h0
   obtain ⟨-, hM2⟩ := hG _ _ hj;have h4 := hM2.own.cells (g := g) (by rw [h1]; rfl)
   have e1 := h4 _ _ (ZaA (key := key) (val := val) hi).1;have e2 := h4 _ _ (ZaA (key := key) (val := val) hi).2;rw [show (⟨g, 0, none⟩ : Addr).add (i * 2) = ⟨g, i * 2, none⟩ from by unfold Addr.add; split <;> simp_all] at e1
   rw [show (⟨g, 0, none⟩ : Addr).add (i * 2 + 1) = ⟨g, i * 2 + 1, none⟩ from by unfold Addr.add; split <;> simp_all] at e2
   exact ⟨e1, e2⟩
 clear hM' hY hJ hJx h0 hO o0 o1;refine callsIn_of_wp Tryz.func148 rfl trivial ?_ rfl;simp only [Tryz.ntmps148, List.size_toArray, List.length_cons, List.length_nil, Nat.reduceAdd, Nat.reduceSub, Array.replicate_succ, Array.replicate_zero, List.push_toArray, List.append_toArray, List.nil_append, List.cons_append]
 gi_wp2_with (first | (refine ⟨trivial, ?_⟩; gi_at_call 149; refine (HS.out _).mono ?_; rintro e w1 ⟨⟨v, rfl⟩, hC⟩))
 go_end0
 exact ⟨⟨_, rfl⟩, hC⟩
end Go.M
namespace Go.M
open Go.Proofs Go.RowKit Go.Shelf
attribute [local go_sem] Oper.semAt_some
structure KyG (PX X O S m c n : Nat) (mv : Value) (key : Nat → ByteArray) (val : Nat → Value) (V : World) : Prop where
 px : V.cell? ⟨PX, 0, none⟩ = some (.pointer (some ⟨X, 0, none⟩))
 x0 : V.cell? ⟨X, 0, none⟩ = some (.pointer (some ⟨O, 0, none⟩))
 x1 : V.cell? ⟨X, 1, none⟩ = some (.slice (some ⟨S, 0, none⟩) m c)
 om : OMap V O mv n key val
theorem ZqN {w : World} {PX X O S m c n : Nat} {mv : Value} {key : Nat → ByteArray} {val : Nat → Value} (d : Nat) (hd : 1 ≤ d) (hm : 0 < m) (hfew : n ≤ 1000) (hv1 : ∀ i, i < n → ∃ a c d, val i = .slice a c d) :
 ZqM Fence.wide d Tryz.prog 161 #[.pointer (some ⟨PX, 0, none⟩)] (fun i : Nat => #[.string (key i)]) (fun _ V => KyG PX X O S m c n mv key val V) (fun pre x => x < n ∧ pre = List.range x) (fun xs => xs = List.range n) w := by
 intro l J Jx Wr W hW hJ hJx hG hWr hY h0;obtain ⟨hPX, hX0, hX1, hM⟩ := hG _ _ h0;have hm1 : (0 : Int) < (m : Int) := by omega
 have l1 := World.block_lt_of_cell? W _ hPX;have l2 := World.block_lt_of_cell? W _ hX0;simp only at l1 l2;have HJ := Lib.hid hJ;have HJX := Lib.hid hJx;have HG := Lib.hid hG;have HWr := Lib.hid hWr;have HY := Lib.hid hY;have H0 := Lib.hid h0;clear hJ hJx hG hWr hY h0 hM;refine callsIn_of_wp_marks Tryz.func161 rfl trivial ?_ rfl;simp only [Tryz.ntmps161, List.size_toArray, List.length_cons, List.length_nil, Nat.reduceAdd, Nat.reduceSub, Array.replicate_succ, Array.replicate_zero, List.push_toArray, List.append_toArray, List.nil_append, List.cons_append];refine wpIn_wide.2 ?_
 go_wp2_with (first | go_in)
 generalize hW0 : World.alloc (World.alloc W _) _ = W0;have U0 : Old W W0 := by subst hW0; exact ((Upd.refl _ W).alloc _).alloc _
 have b1 : W0.cell? ⟨W.heap.size, 0, none⟩ = some (.func (.yield l) #[] #[]) := by subst hW0; go_simp
 have b2 : W0.cell? ⟨W.heap.size + 1, 0, none⟩ = some (.pointer (some ⟨O, 0, none⟩)) := by subst hW0; go_simp
 clear hW0;have hz := U0.size;have nw : ∀ k, W.heap.size ≤ k → ¬ Wr W0 k := fun k hk hw => by
  obtain ⟨o, h1, -⟩ := HWr.out.cells _ _ _ H0.out (HWr.out.by_old H0.out U0 hw);have := (Array.getElem?_eq_some_iff.1 h1).1;omega
 refine (wpIn_wide (n := 8)).1 ?_;refine Zmd rfl (by omega) (gf := 148) (lb := #[.pointer (some ⟨W.heap.size + 1, 0, none⟩)]) rfl trivial (enters_of Tryz.func148 (by kernel_rfl) rfl) (encs := fun i : Nat => #[.string (key i), val i]) (fun _ => rfl)
  (ZrG (O := O) (mv := mv) 7 (by omega) (W.heap.size + 1) hfew hv1)
  (fun pre V => J pre V ∧ V.cell? ⟨W.heap.size, 0, none⟩ = some (.func (.yield l) #[] #[]) ∧ V.cell? ⟨W.heap.size + 1, 0, none⟩ = some (.pointer (some ⟨O, 0, none⟩)) ∧ ¬ Wr V W.heap.size ∧ ¬ Wr V (W.heap.size + 1))
  (fun c V => c = .ret ∧ ∃ pre, Jx pre V) Wr (HWr.out.mono hz (fun _ _ h => h.1))
  (fun pre A B row hs hg hr => ⟨HJ.out _ _ _ _ hs.1 hg (fun r e => ⟨by have := (hr r e).1; omega, (hr r e).2⟩), cell_kept hs.2.1 hg (fun r e => (hr r e).2), cell_kept hs.2.2.1 hg (fun r e => (hr r e).2), fun h => hs.2.2.2.1 (HWr.out.step _ _ _ _ hs.1 hg (fun r e => ⟨by have := (hr r e).1; omega, (hr r e).2⟩) _ h), fun h => hs.2.2.2.2 (HWr.out.step _ _ _ _ hs.1 hg (fun r e => ⟨by have := (hr r e).1; omega, (hr r e).2⟩) _ h)⟩)
  (fun c _ A B row hs hg hr => ⟨hs.1, by obtain ⟨pre, h⟩ := hs.2; exact ⟨pre, HJX.out _ _ _ _ h hg (fun r e => ⟨by have := (hr r e).1; omega, (hr r e).2⟩)⟩⟩)
  ⟨ZcE HJ.out H0.out U0, b1, b2, nw _ (Nat.le_refl _), nw _ (by omega)⟩ (fun pre V h => ⟨h.2.2.1, (HG.out _ _ h.1).om⟩)
  (fun i => { tmps := #[.func (.yield l) #[] #[], .pointer (some ⟨PX, 0, none⟩), .pointer (some ⟨W.heap.size, 0, none⟩), .string (key i), .pointer (some ⟨X, 0, none⟩), .bool true, .bool false, .pointer (some ⟨X, 0, none⟩), .pointer (some ⟨X, 0, none⟩), .pointer (some ⟨X, 0, none⟩), .pointer (some ⟨O, 0, none⟩), .func (.func 148) #[] #[.pointer (some ⟨W.heap.size + 1, 0, none⟩)], .string (key i), val i, undef, undef, undef, undef], defers := [] })
  ?assign ?body ?done ?stop
 case assign =>
  intro l2 x V K hK
  gi_wp2
  exact hK
 case body =>
  rintro l2 pre x V hl ⟨hJ1, c1, c2, n1, n2⟩ hok;obtain ⟨fn, tmps, assign, body, hy, hR⟩ := HY.out pre x V hJ1 hok
  gi_wp2
  refine (RoundIn.into rfl hR).mono ?_;rintro e V' ⟨hk, ⟨rfl, hJ2, hf⟩ | ⟨rfl, hJx2⟩⟩
  ·gi_wp2
   have l1 := World.block_lt_of_cell? V _ c1;have l2 := World.block_lt_of_cell? V _ c2;simp only at l1 l2;refine ⟨hk.mono hz, hf, hJ2, hk.cell c1 (Nat.le_refl _) n1, hk.cell c2 (by show W.heap.size ≤ W.heap.size + 1; omega) n2, fun h => ?_, fun h => ?_⟩
   ·rcases hf _ h with h | h
    ·exact n1 h
    ·omega
   ·rcases hf _ h with h | h
    ·exact n2 h
    ·omega
  ·gi_wp2
   exact ⟨hk.mono hz, rfl, _, hJx2⟩
 case done =>
  rintro D1 xs V1 hD rfl ⟨hJ1, -⟩ hKD
  gi_wp2
  refine ⟨by simp, .inl ⟨_, _, rfl, run_takeDeferred hKD, ?_⟩⟩
  refine ⟨_, results_none rfl _ _ _, ⟨_, rfl⟩, .inl ⟨_, rfl, ?_⟩⟩;exact HJ.out.putObj _ hJ1 (by omega) hKD rfl
 case stop =>
  rintro D1 c V1 hD ⟨rfl, pre, hJ1⟩ hKD
  gi_wp2
  refine ⟨by simp, .inl ⟨_, _, rfl, run_takeDeferred hKD, ?_⟩⟩
  refine ⟨_, results_none rfl _ _ _, ⟨_, rfl⟩, .inr ⟨pre, ?_⟩⟩;exact HJX.out.putObj _ hJ1 (by omega) hKD rfl
end Go.M
