/- Frames; what code and calls do, by the machine's steps. -/
import Derived.Test.YtnmkiflnonafbaaGreatDoorE7
import Derived.RangeFuncIn
set_option linter.unusedVariables false
namespace Go.X
noncomputable section
set_option linter.unusedSectionVars false
def dfC (e : Env) : DF → Option Deferred
 | .coll d => match e.f d with
  | some x => some { target := .collected x.1, args := #[] }
  | none => none
 | .cl f a b => match cvs e a, cvs e b with
  | some x, some y => some { target := .fn (.func f) y.toArray, args := x.toArray }
  | _, _ => none
def defsC (e : Env) : List DF → Option (List Deferred)
 | [] => some []
 | d :: ds => match dfC e d, defsC e ds with
  | some x, some r => some (x :: r)
  | _, _ => none
structure FR (e : Env) (fr : Fr) (a : Act) : Prop where
 tm : TmOk e fr.tm fr.n a.tmps
 defs : defsC e fr.defs = some a.defers
theorem dfC_le {e e' : Env} (h : e.le e') {d : DF} {r : Deferred} (hr : dfC e d = some r) : dfC e' d = some r := by
 cases d with
 | coll d =>
  simp only [dfC] at hr ⊢;cases hd : e.f d with
  | none => rw [hd] at hr; cases hr
  | some x => rw [hd] at hr; rw [h.1 _ _ hd]; exact hr
 | cl f a b =>
  simp only [dfC] at hr ⊢;cases ha : cvs e a with
  | none => rw [ha] at hr; cases hr
  | some x =>
   cases hb : cvs e b with
   | none => rw [ha, hb] at hr; cases hr
   | some y => rw [ha, hb] at hr; rw [cvs_le h _ _ ha, cvs_le h _ _ hb]; exact hr
theorem defsC_le {e e' : Env} (h : e.le e') : ∀ {ds : List DF} {r : List Deferred}, defsC e ds = some r → defsC e' ds = some r := by
 intro ds
 induction ds with
 | nil => intro r hr; exact hr
 | cons d ds ih =>
  intro r hr;simp only [defsC] at hr ⊢;cases hd : dfC e d with
  | none => rw [hd] at hr; cases hr
  | some x =>
   cases hs : defsC e ds with
   | none => rw [hd, hs] at hr; cases hr
   | some q => rw [hd, hs] at hr; rw [dfC_le h hd, ih hs]; exact hr
mutual
theorem closed_cv (e e' : Env) : ∀ v : AV, v.closed = true → cv e v = cv e' v
 | .undef, _ | .bool _, _ | .int _ _, _ | .str _, _ | .nilp, _ | .nils, _ | .nilm, _ | .nilf, _ | .nili, _ => rfl
 | .ifc t v, h => by simp only [AV.closed] at h; simp only [cv, closed_cv e e' v h]
 | .agg l, h => by simp only [AV.closed] at h; simp only [cv, closeds_cv e e' l h]
 | .tup l, h => by simp only [AV.closed] at h; simp only [cv, closeds_cv e e' l h]
 | .ptr _ _, h | .mpr _, h | .sl _ _ _ _, h | .fn _ _ _, h | .yld _, h | .capOf _ _, h | .sym _, h | .res _ _, h | .asl _ _ _ _, h | .eptr _ _, h | .pan _, h => by cases h
theorem closeds_cv (e e' : Env) : ∀ l : List AV, AV.closeds l = true → cvs e l = cvs e' l
 | [], _ => rfl
 | v :: vs, h => by
  simp only [AV.closeds, Bool.and_eq_true] at h;simp only [cvs, closed_cv e e' v h.1, closeds_cv e e' vs h.2]
end
theorem FR.le {e e' : Env} (hle : e.le e') {fr : Fr} {a : Act} (h : FR e fr a) : FR e' fr a := ⟨h.tm.le hle, defsC_le hle h.defs⟩
theorem Tr.getU_set (t : Tr AV) (n : Nat) (v : AV) (m : Nat) : (t.set n (some v)).getU m = if m = n then v else t.getU m := by
 unfold Tr.getU;rw [Tr.get_set]
 by_cases h : m = n
 ·rw [if_pos h, if_pos h]
 ·rw [if_neg h, if_neg h]
theorem TmOk.set {e : Env} {tm : Tr AV} {n : Nat} {t : Array Value} (h : TmOk e tm n t) {d : Nat} (hd : d < n) {v : AV} {y : Value} (hv : cv e v = some y) : TmOk e (tm.set d (some v)) n (t.setIfInBounds d y) := by
 refine ⟨by simp [h.1], fun i => ?_⟩
 rw [Tr.getU_set]
 by_cases hi : i = d
 ·subst hi;rw [if_pos rfl, hv];have : i < t.size := by rw [h.1]; exact hd
  simp [this]
 ·rw [if_neg hi, h.2 i];simp only [Array.getD_eq_getD_getElem?];rw [Array.getElem?_setIfInBounds_ne (fun h => hi h.symm)]
theorem FR.put {e : Env} {fr : Fr} {a : Act} (h : FR e fr a) (d : Option Tmp) {v : AV} {y : Value} (hv : cv e v = some y) : FR e (fr.put d v) (a.put d y) := by
 obtain ⟨tm, n, ds⟩ := fr;cases d with
 | none => exact h
 | some d =>
  simp only [Fr.put, brec];cases hb : Nat.blt d n with
  | true => exact ⟨h.tm.set (nblt_of hb) hv, h.defs⟩
  | false =>
   have hge : ¬ d < n := fun hh => by rw [nblt_eq, decide_eq_true hh] at hb; cases hb
   refine ⟨?_, h.defs⟩;have hsz := h.tm.1;have : (a.put (some d) y).tmps = a.tmps := by
    simp only [Act.put];apply Array.ext';simp only [Array.toList_setIfInBounds];apply List.set_eq_of_length_le;have hsz' : a.tmps.size = n := hsz;rw [Array.length_toList, hsz']; exact Nat.le_of_not_lt hge
   rw [this]; exact h.tm
section
variable {P : Program} {X : XP} (ok : XPok P X)
include ok in
theorem evalA_ok {e : Env} {fr : Fr} {a : Act} (h : FR e fr a) (hg : ∀ g, g < P.globals.size → e.f g = some (g, 0)) : EvOk e (evalA X fr.tm) a.eval := by
 intro x v hx;cases x with
 | tmp t =>
  have := h.tm.2 t;simp only [evalA] at hx;simp only [Tr.getU] at this;cases ht : fr.tm.get t with
  | none => rw [ht] at hx this; simp only [Option.some.injEq] at hx; subst hx; exact this
  | some u => rw [ht] at hx this; simp only [Option.some.injEq] at hx; subst hx; exact this
 | const c => exact ofConst_cv e hx
 | global g =>
  simp only [evalA, brec] at hx;cases hb : Nat.blt g X.glob with
  | false => rw [hb] at hx; cases hx
  | true =>
   rw [hb] at hx; simp only [cond_true, Option.some.injEq] at hx; subst hx;have hlt := nblt_of hb;rw [ok.glob] at hlt;simp only [cv, hg g hlt]; rfl
 | func f => simp only [evalA, Option.some.injEq] at hx; subst hx; rfl
theorem cv_not_bool {e : Env} {v : AV} {y : Value} (h : cv e v = some y) (h1 : ∀ b, v ≠ .bool b) (h2 : ∀ i, v ≠ .sym i) : ∀ b, y ≠ .bool b := by
 intro b hb;subst hb;cases v with
 | bool b => exact h1 b rfl
 | sym i => exact h2 i rfl
 | res i c => exact (RC.val_cells (show c.val (e.sy i) = some _ from h)).2 _ rfl
 | ptr => obtain ⟨_, _, h⟩ := cv_ptr h; cases h
 | sl => obtain ⟨_, _, h⟩ := cv_sl h; cases h
 | fn => obtain ⟨_, _, _, _, h⟩ := cv_fn h; cases h
 | yld => obtain ⟨_, _, h⟩ := cv_yld h; cases h
 | mpr => obtain ⟨_, _, h⟩ := cv_mpr h; cases h
 | asl => obtain ⟨_, _, _, _, _, h, _⟩ := cv_asl h; cases h
 | eptr => obtain ⟨_, _, h⟩ := cv_eptr h; cases h
 | agg => obtain ⟨_, _, h⟩ := cv_agg h; cases h
 | tup => obtain ⟨_, _, h⟩ := cv_tup h; cases h
 | str => obtain ⟨_, h⟩ := cv_str h; cases h
 | ifc t v => simp only [cv] at h; cases hv : cv e v <;> rw [hv] at h <;> simp at h
 | capOf b k => simp only [cv] at h; cases hv : e.f b <;> rw [hv] at h <;> simp at h
 | _ => simp [cv, Go.undef] at h
theorem wantedA_ok {e : Env} {fr : Fr} {a : Act} (h : TmOk e fr.tm fr.n a.tmps) {ops : Array Oper} {o : Oper} {b : Bool} (hw : wantedA ops.toList fr.tm o.guard = some b) : Region.wanted o (yielded ops a.tmps) = b := by
 unfold Region.wanted;cases hg : o.guard with
 | none => rw [hg] at hw; simp only [wantedA, Option.some.injEq] at hw; exact hw
 | some jw =>
  obtain ⟨j, want⟩ := jw;rw [hg] at hw;simp only [wantedA] at hw;simp only;have hget : ops.toList[j]? = ops[j]? := by simp
  rw [hget] at hw;unfold yielded;cases hj : ops[j]? with
  | none => rw [hj] at hw; simp only [guardAt, Option.some.injEq] at hw; subst hw; simp
  | some p =>
   rw [hj] at hw;simp only [Option.bind_some];cases hd : p.dst with
   | none =>
    have : guardAt fr.tm want (some p) = some false := by
     obtain ⟨dst, _, _, _, _, _⟩ := p; simp only at hd; subst hd; rfl
    rw [this] at hw; simp only [Option.some.injEq] at hw; subst hw; simp
   | some d =>
    have : guardAt fr.tm want (some p) = guardIs want (fr.tm.get d) := by
     obtain ⟨dst, _, _, _, _, _⟩ := p; simp only at hd; subst hd; rfl
    rw [this] at hw;simp only [Option.bind_some];have hv := h.2 d;have hgetD : ∀ y, a.tmps[d]? = some y → a.tmps.getD d Go.undef = y := by intro y hy; simp [Array.getD_eq_getD_getElem?, hy]
    cases hq : a.tmps[d]? with
    | none =>
     have hu : a.tmps.getD d Go.undef = Go.undef := by simp [Array.getD_eq_getD_getElem?, hq]
     rw [hu] at hv;have : b = false := by
      unfold guardIs at hw
      split at hw
      ·rename_i c hc;simp only [Tr.getU, hc, cv, Option.some.injEq] at hv;cases hv
      ·cases hw
      ·simpa using hw.symm
     subst this; rfl
    | some y =>
     rw [hgetD y hq] at hv;unfold guardIs at hw
     split at hw
     ·rename_i c hc;simp only [Tr.getU, hc, cv, Option.some.injEq] at hv;subst hv;simp only [Option.some.injEq] at hw; subst hw;cases c <;> cases want <;> rfl
     ·cases hw
     ·rename_i n1 n2;simp only [Option.some.injEq] at hw; subst hw
      have hnb := cv_not_bool hv (fun c hc => by
       unfold Tr.getU at hc;cases ht : fr.tm.get d with
       | none => rw [ht] at hc; cases hc
       | some u => rw [ht] at hc; simp only at hc; subst hc; exact n1 c ht)
       (fun c hc => by
         unfold Tr.getU at hc;cases ht : fr.tm.get d with
         | none => rw [ht] at hc; cases hc
         | some u => rw [ht] at hc; simp only at hc; subst hc; exact n2 c ht)
      cases y <;> first | rfl | exact absurd rfl (hnb _)
end
def eNil : Env := ⟨fun _ => none, fun _ => Go.undef⟩
def panE (y : Value) : List PanicEntry := [{ v := y, recovered := false }]
def Arr (P : Program) (m : Machine) (b : Frame) (k : List Item) (cs : List Frame) : XE → Act → World → Prop
 | .normal, a, w => Steps P m (lone (b.atR a k) cs w)
 | .exit id, a, w => ∃ t, exitTo id t = exitTo id k ∧ Steps P m (lone (b.atR a (.code (.exit id) :: t)) cs w)
 | .ret, a, w => ∃ t, Steps P m (lone (b.atR a (.code .ret :: t)) cs w)
 | .pan v, a, w => ∃ y t, v.closed = true ∧ cv eNil v = some y ∧ Steps P m (lone { b.atR a t with mode := .panicking (panE y) } cs w)
theorem Arr.of_steps {P : Program} {m m1 : Machine} {b : Frame} {k : List Item} {cs : List Frame} {x : XE} {a : Act} {w : World} (h : Steps P m m1) (h' : Arr P m1 b k cs x a w) : Arr P m b k cs x a w := by
 cases x with
 | normal => exact Steps.trans h h'
 | exit id => obtain ⟨t, h1, h2⟩ := h'; exact ⟨t, h1, Steps.trans h h2⟩
 | ret => obtain ⟨t, h2⟩ := h'; exact ⟨t, Steps.trans h h2⟩
 | pan v => obtain ⟨y, t, h1, h2, h3⟩ := h'; exact ⟨y, t, h1, h2, Steps.trans h h3⟩
def CodeWP (P : Program) (fid : FuncId) (ro : Option Nat) (c : Code) (Q : XE → Act → World → Prop) (a : Act) (w : World) : Prop :=
 ∀ (b : Frame) (k : List Item) (cs : List Frame), b.fn = fid → b.roundOf = ro →
  ∃ x a' w', Q x a' w' ∧ Arr P (lone (b.atR a (.code c :: k)) cs w) b k cs x a' w'
def Back (c : Frame) : Ending → Frame
 | .returned v => c.finish v
 | .panicked ch => c.raise ch
 | .outgrown => c
def RunsTo (P : Program) (fr : Frame) (w : World) (Q : Ending → World → Prop) : Prop :=
 ∀ (c : Frame) (cs : List Frame), ∃ en w', Q en w' ∧ en ≠ .outgrown ∧ Steps P (lone fr (c :: cs) w) (lone (Back c en) cs w')
def NextTo (P : Program) (Q : Ending → World → Prop) : Next → World → Prop
 | .value v, w => Q (.returned v) w
 | .enter f as, w => RunsTo P (Frame.enter P f as .normal) w Q
 | .round l f tmps asg body, w => RunsTo P (Frame.round l f tmps asg body .normal) w Q
 | _, _ => False
def CallTo (P : Program) (vf : Value) (args : Array Value) (w : World) (Q : Ending → World → Prop) : Prop :=
 ∃ n w1, (do let d ← Deferred.ofValue vf args; invoke d.target d.args : Sem Next).run P w = .ok n w1 ∧ NextTo P Q n w1
def endR (e : Env) (v : AV) (en : Ending) : Prop :=
 match v with
 | .pan u => ∃ y, u.closed = true ∧ cv e u = some y ∧ en = .panicked (panE y)
 | v => ∃ y, cv e v = some y ∧ en = .returned y
theorem endR_ret {e : Env} {v : AV} {y : Value} (h : cv e v = some y) : endR e v (.returned y) := by
 unfold endR
 split
 ·cases h
 ·exact ⟨y, h, rfl⟩
theorem endR_not {e : Env} {v : AV} {en : Ending} (h : endR e v en) (hv : ∀ u, v ≠ .pan u) : ∃ y, cv e v = some y ∧ en = .returned y := by
 unfold endR at h
 split at h
 ·exact absurd rfl (hv _)
 ·exact h
def HOut (NG : GP) (L : Loops) (e : Env) (H : AHeap) (w : World) (v : AV) (H' : AHeap) (en : Ending) (w' : World) : Prop :=
 ∃ e', endR e' v en ∧ HR NG e' L H'.objs.get H'.next w' ∧ Tran e H.objs.get H.next w e' H'.objs.get H'.next w'
def ValOut (NG : GP) (L : Loops) (e : Env) (H : AHeap) (w : World) (outs : List (AV × AHeap)) (en : Ending) (w' : World) : Prop :=
 ∃ v H', (v, H') ∈ outs ∧ HOut NG L e H w v H' en w'
def CodeOut (NG : GP) (L : Loops) (e : Env) (H : AHeap) (w : World) (outs : List (XE × Fr × AHeap)) (x : XE) (a : Act) (w' : World) : Prop :=
 ∃ fr' H' e', (x, fr', H') ∈ outs ∧ FR e' fr' a ∧ HR NG e' L H'.objs.get H'.next w' ∧ Tran e H.objs.get H.next w e' H'.objs.get H'.next w'
def RdOk (e : Env) : Option Nat → Option Nat → Prop
 | none, ro => ro = none
 | some l, ro => ∃ x, e.f l = some x ∧ ro = some x.1
structure RecOk (P : Program) (NG : GP) (R : Rec) : Prop where
 code : ∀ rd fid L fr H c outs, R.code rd fid L fr H c = some outs → ∀ e a w ro, FR e fr a → HR NG e L H.objs.get H.next w → RdOk e rd ro → CodeWP P fid ro c (CodeOut NG L e H w outs) a w
 call : ∀ L fv args H outs, R.call L fv args H = some outs → ∀ e w vf vs, cv e fv = some vf → cvs e args = some vs → HR NG e L H.objs.get H.next w → CallTo P vf vs.toArray w (ValOut NG L e H w outs)
section
variable {P : Program} {b : Frame} {a : Act} {k : List Item} {cs : List Frame} {w : World} {ops : Array Oper}
theorem step_op_value {i : Nat} {rest : List Nat} {o : Oper} (ho : ops[i]? = some o) (hw : Region.wanted o (yielded ops a.tmps) = true) (hd : ∀ c, o.op ≠ .defer c) {n : Next} {y : Value} {w' : World}
 (hr : (execOp a.eval o).run P w = .ok n w') (hn : NextIs n y) :
 step P (lone (b.atR a (.inRegion ops (i :: rest) :: k)) cs w) = .next (lone (b.atR (a.put o.dst y) (.inRegion ops rest :: k)) cs w') := by
 have hg := stepGR_op (P := P) (b := b) (k := k) (cs := cs) (w := w) (rest := rest) ho hw;rw [Oper.semAt_eq _ _ _ hd] at hg;have hfin : ∀ v, (b.atR a (.inRegion ops (i :: rest) :: k)).finish v = b.atR (a.put o.dst v) (.inRegion ops rest :: k) := by
  intro v; rw [Frame.finish_atR, ho]; rfl
 refine step_lone_go ?_;rw [hg, ← hfin];rcases hn with rfl | ⟨rfl, rfl⟩ <;> simp [stepG.apply, hr]
def opBack (b : Frame) (a : Act) (ops : Array Oper) (i : Nat) (rest : List Nat) (k : List Item) (dst : Option Tmp) : Ending → Frame
 | .returned y => b.atR (a.put dst y) (.inRegion ops rest :: k)
 | .panicked ch => { b.atR a (.inRegion ops (i :: rest) :: k) with mode := .panicking ch }
 | .outgrown => b.atR a (.inRegion ops (i :: rest) :: k)
theorem back_atR {i : Nat} {rest : List Nat} {o : Oper} (ho : ops[i]? = some o) (en : Ending) : Back (b.atR a (.inRegion ops (i :: rest) :: k)) en = opBack b a ops i rest k o.dst en := by
 cases en with
 | returned v => simp only [Back, opBack]; rw [Frame.finish_atR, ho]; rfl
 | panicked ch => rfl
 | outgrown => rfl
theorem steps_op_call {i : Nat} {rest : List Nat} {o : Oper} (ho : ops[i]? = some o) (hw : Region.wanted o (yielded ops a.tmps) = true) (hd : ∀ c, o.op ≠ .defer c) {n : Next} {w1 : World} {Q : Ending → World → Prop}
 (hr : (execOp a.eval o).run P w = .ok n w1) (hn : NextTo P Q n w1) :
 ∃ en w', Q en w' ∧ en ≠ .outgrown ∧ Steps P (lone (b.atR a (.inRegion ops (i :: rest) :: k)) cs w) (lone (opBack b a ops i rest k o.dst en) cs w') := by
 have hg := stepGR_op (P := P) (b := b) (k := k) (cs := cs) (w := w) (rest := rest) ho hw;rw [Oper.semAt_eq _ _ _ hd] at hg;cases n with
 | value v =>
  exact ⟨.returned v, w1, hn, by simp, .one (step_op_value ho hw hd hr (.inl rfl))⟩
 | enter f as =>
  obtain ⟨en, w', hq, ho', hs⟩ := hn (b.atR a (.inRegion ops (i :: rest) :: k)) cs;rw [back_atR ho] at hs;refine ⟨en, w', hq, ho', .head (step_lone_go ?_) hs⟩;rw [hg]; simp [stepG.apply, hr, Frame.atR]
 | round l f tmps asg body =>
  obtain ⟨en, w', hq, ho', hs⟩ := hn (b.atR a (.inRegion ops (i :: rest) :: k)) cs;rw [back_atR ho] at hs;refine ⟨en, w', hq, ho', .head (step_lone_go ?_) hs⟩;rw [hg]; simp [stepG.apply, hr, Frame.atR]
 | _ => exact hn.elim
end
end
end Go.X

/- One operation; operations in the order of the text. -/
namespace Go.X
noncomputable section
set_option linter.unusedSectionVars false
theorem bindL_mem {α β : Type} {f : α → Option (List β)} : ∀ {l : List α} {r : List β}, bindL f l = some r → ∀ x ∈ l, ∃ o, f x = some o ∧ ∀ y ∈ o, y ∈ r := by
 intro l
 induction l with
 | nil => intro r _ x hx; cases hx
 | cons a l ih =>
  intro r h x hx;simp only [bindL] at h;cases ha : f a with
  | none => rw [ha] at h; cases h
  | some ys =>
   rw [ha] at h;cases hl : bindL f l with
   | none => rw [hl] at h; cases h
   | some zs =>
    rw [hl] at h; simp only [Option.some.injEq] at h; subst h;rcases List.mem_cons.1 hx with rfl | hx
    ·exact ⟨ys, ha, fun y hy => List.mem_append_left _ hy⟩
    ·obtain ⟨o, ho, hm⟩ := ih hl x hx;exact ⟨o, ho, fun y hy => List.mem_append_right _ (hm y hy)⟩
theorem bindOuts_mem {α β : Type} {f : α → Option (List β)} {l : List α} {r : List β} (h : bindOuts f (some l) = some r) : ∀ x ∈ l, ∃ o, f x = some o ∧ ∀ y ∈ o, y ∈ r := by
 unfold bindOuts at h
 split at h
 ·rename_i x heq;simp only [Option.some.injEq] at heq; subst heq;intro y hy;simp only [List.mem_singleton] at hy; subst hy;exact ⟨r, h, fun _ hz => hz⟩
 ·rename_i l' heq;simp only [Option.some.injEq] at heq; subst heq;exact bindL_mem h
 ·rename_i heq; cases heq
theorem bindOuts_some {α β : Type} {f : α → Option (List β)} {l : Option (List α)} {r : List β} (h : bindOuts f l = some r) : ∃ l', l = some l' := by
 cases l with
 | none => simp [bindOuts] at h
 | some l => exact ⟨l, rfl⟩
theorem RdOk.le {e e' : Env} (hle : e.le e') {rd ro : Option Nat} (h : RdOk e rd ro) : RdOk e' rd ro := by
 cases rd with
 | none => exact h
 | some l => obtain ⟨x, hx, hr⟩ := h; exact ⟨x, hle.1 _ _ hx, hr⟩
section
variable {P : Program} {X : XP} (ok : XPok P X) {R : Rec} (hR : RecOk P (gp P X) R)
include ok hR in
theorem oneOp2_ok {L : Loops} {ev : Operand → Option AV} {H : AHeap} {o : Oper} {cl : Nat} {outs : List (AV × AHeap)} (h : oneOp2 X R L ev H o.op cl = some outs) {e : Env} {a : Act} {w : World} (hev : EvOk e ev a.eval) (hH : HR (gp P X) e L H.objs.get H.next w)
 {ops : Array Oper} {i : Nat} (ho : ops[i]? = some o) (hw : Region.wanted o (yielded ops a.tmps) = true) {b : Frame} {k : List Item} {cs : List Frame} {rest : List Nat} :
 ∃ en w', ValOut (gp P X) L e H w outs en w' ∧ en ≠ .outgrown ∧ Steps P (lone (b.atR a (.inRegion ops (i :: rest) :: k)) cs w) (lone (opBack b a ops i rest k o.dst en) cs w') := by
 have hfree : e.f H.next = none := by
  cases hf : e.f H.next with
  | none => rfl
  | some x => exact absurd (hH.dom _ _ hf) (by omega)
 unfold oneOp2 at h
 split at h
 ·
  unfold quietOr at h
  split at h
  ·rename_i v hq;simp only [Option.some.injEq] at h; subst h;obtain ⟨y, hy, hr⟩ := qop_run ok w hH hH.ora hev o hq;have hnd : ∀ c, o.op ≠ .defer c := by intro c hc; rw [hc] at hq; simp [qop] at hq
   exact ⟨.returned y, w, ⟨v, H, by simp, e, endR_ret hy, hH, Tran.refl _ _ _ _⟩, by simp, .one (step_op_value ho hw hnd hr (.inl rfl))⟩
  ·rename_i hq;unfold convOr at h
   split at h
   ·rename_i p hp;obtain ⟨v, ob⟩ := p;simp only [Option.some.injEq] at h; subst h;obtain ⟨y, w', obj, κ, hr, hheap, g1, g2, g3, hy, hO, hwr⟩ := convOp_run ok w hev (L := L) o hp;have hnd : ∀ c, o.op ≠ .defer c := by intro c hc; rw [hc] at hp; simp [convOp] at hp
    refine ⟨.returned y, w', ⟨v, H.new ob, by simp [newOf], e.ext H.next (w.heap.size, κ), endR_ret hy, ?_, ?_⟩, by simp, .one (step_op_value ho hw hnd hr (.inl rfl))⟩
    ·show HR _ _ L (H.objs.set H.next _).get (H.next + 1) _;rw [get_set_upd];exact HR.alloc (hH.bump (Nat.le_succ _)) hfree (Nat.lt_succ_self _) hheap hO
    ·show Tran _ _ _ _ _ (H.objs.set H.next _).get (H.next + 1) _;rw [get_set_upd];exact Tran.alloc hfree (Nat.le_refl _) (Nat.le_succ _) hwr hheap g1 g2 g3
   obtain ⟨v, H', hm, y, hr, hy, h1, h2, h3⟩ := forkOp_run ok w hH hev o h;have hnd : ∀ c, o.op ≠ .defer c := by intro c hc; rw [hc] at h; simp [forkOp] at h
   exact ⟨.returned y, w, ⟨v, H', hm, e, endR_ret hy, by rw [h3]; exact h1, by rw [h3]; exact h2⟩, by simp, .one (step_op_value ho hw hnd hr (.inl rfl))⟩
 ·
  unfold one1 at h
  split at h
  ·rename_i p hp;obtain ⟨v, ob⟩ := p;simp only [Option.some.injEq] at h; subst h;obtain ⟨y, w', obj, hr, hheap, g1, g2, g3, hy, hO, hwr⟩ := allocOp_run ok w hev (L := L) o hp hfree;have hnd : ∀ c, o.op ≠ .defer c := by intro c hc; rw [hc] at hp; simp [allocOp] at hp
   refine ⟨.returned y, w', ⟨v, H.new ob, by simp [newOf], e.ext H.next (w.heap.size, 0), endR_ret hy, ?_, ?_⟩, by simp, .one (step_op_value ho hw hnd hr (.inl rfl))⟩
   ·show HR _ _ L (H.objs.set H.next _).get (H.next + 1) _;rw [get_set_upd];exact HR.alloc (hH.bump (Nat.le_succ _)) hfree (Nat.lt_succ_self _) hheap hO
   ·show Tran _ _ _ _ _ (H.objs.set H.next _).get (H.next + 1) _;rw [get_set_upd];exact Tran.alloc hfree (Nat.le_refl _) (Nat.le_succ _) hwr hheap g1 g2 g3
  ·cases h
 ·
  unfold wOrFork at h
  split at h
  ·rename_i p hp;obtain ⟨v, H'⟩ := p;simp only [Option.some.injEq] at h; subst h;have hH' : HR (gp P X) e L (bump H).objs.get (H.next + 1) w := hH.bump (Nat.le_succ _);obtain ⟨e', y, nxt, w', hr, hn, hy, h1, h2, h3⟩ := wop_run ok w hH' hev o hp hfree (Nat.lt_succ_self _) (Nat.le_refl _);have hnd : ∀ c, o.op ≠ .defer c := by intro c hc; rw [hc] at hp; simp [wop] at hp
   have h3' : H'.next = H.next + 1 := h3;exact ⟨.returned y, w', ⟨v, H', by simp, e', endR_ret hy, by rw [h3']; exact h1, by rw [h3']; exact h2⟩, by simp, .one (step_op_value ho hw hnd hr hn)⟩
  ·have hH' : HR (gp P X) e L (bump H).objs.get (H.next + 1) w := hH.bump (Nat.le_succ _);obtain ⟨v, H', hm, y, w', hr, hy, h1, h2, h3⟩ := forkW_run w hH' hev o h;have hnd : ∀ c, o.op ≠ .defer c := by intro c hc; rw [hc] at h; simp [forkW] at h
   have h3' : H'.next = H.next + 1 := h3;exact ⟨.returned y, w', ⟨v, H', hm, e, endR_ret hy, by rw [h3']; exact h1, by rw [h3']; exact h2.lower (Nat.le_succ _)⟩, by simp, .one (step_op_value ho hw hnd hr (.inl rfl))⟩
 ·
  unfold callOp at h
  split at h
  ·rename_i c hc;obtain ⟨callee, args, ts⟩ := c;cases callee with
   | value f =>
    simp only [callOf] at h;unfold callVals at h
    split at h
    ·rename_i fv vs hf hvs;obtain ⟨n, w1, hr, hn⟩ := hR.call _ _ _ _ _ h e w _ _ (hev _ _ hf) (evals_cvs hev hvs) hH;have hnd : ∀ c, o.op ≠ .defer c := by intro c hc'; rw [hc] at hc'; cases hc'
     have hexec : (execOp a.eval o).run P w = .ok n w1 := by
      rw [← hr];simp only [execOp, hc, resolve];have : args.map a.eval = (args.toList.map a.eval).toArray := by apply Array.ext'; simp
      rw [this]
     exact steps_op_call ho hw hnd hexec hn
    ·cases h
   | _ => simp [callOf] at h
  ·cases h
include ok hR in
theorem oneOp_ok {L : Loops} {fr : Fr} {H : AHeap} {o : Oper} {outs : List (AV × AHeap)} (h : oneOp X R L fr H o = some outs) {e : Env} {a : Act} {w : World} (hF : FR e fr a) (hH : HR (gp P X) e L H.objs.get H.next w)
 {ops : Array Oper} {i : Nat} (ho : ops[i]? = some o) (hw : Region.wanted o (yielded ops a.tmps) = true) {b : Frame} {k : List Item} {cs : List Frame} {rest : List Nat} :
 ∃ en w', ValOut (gp P X) L e H w outs en w' ∧ en ≠ .outgrown ∧ Steps P (lone (b.atR a (.inRegion ops (i :: rest) :: k)) cs w) (lone (opBack b a ops i rest k o.dst en) cs w') :=
 oneOp2_ok ok hR h (evalA_ok ok hF hH.glob) hH ho hw
theorem outsOr_mem {α β : Type} {f : α → Option (List β)} {z : Option (List β)} {l : List α} {r : List β} (h : outsOr f z (some l) = some r) : ∀ x ∈ l, ∃ o, f x = some o ∧ ∀ y ∈ o, y ∈ r := by
 unfold outsOr at h
 split at h
 ·rename_i x heq;simp only [Option.some.injEq] at heq; subst heq;intro y hy;simp only [List.mem_singleton] at hy; subst hy;exact ⟨r, h, fun _ hz => hz⟩
 ·rename_i l' heq;simp only [Option.some.injEq] at heq; subst heq;exact bindL_mem h
 ·rename_i heq; cases heq
theorem FR.def {e : Env} {fr : Fr} {a : Act} (h : FR e fr a) {d : DF} {D : Deferred} (hd : dfC e d = some D) : FR e (fr.def d) { a with defers := D :: a.defers } := by
 obtain ⟨tm, n, ds⟩ := fr;have h2 := h.defs;simp only at h2;exact ⟨h.tm, by simp only [Fr.def, defsC, hd, h2]⟩
theorem step_op_defer {b : Frame} {a : Act} {k : List Item} {cs : List Frame} {w : World} {ops : Array Oper} {i : Nat} {rest : List Nat} {o : Oper} (ho : ops[i]? = some o) (hw : Region.wanted o (yielded ops a.tmps) = true) (hro : b.roundOf = none) {D : Deferred}
 (hr : (execOp a.eval o).run P w = .ok (.defer D) w) :
 step P (lone (b.atR a (.inRegion ops (i :: rest) :: k)) cs w) = .next (lone (b.atR ({ (a.put o.dst Go.undef) with defers := D :: (a.put o.dst Go.undef).defers }) (.inRegion ops rest :: k)) cs w) := by
 have hg := stepGR_op (P := P) (b := b) (k := k) (cs := cs) (w := w) (rest := rest) ho hw;rw [hro, Oper.semAt_none] at hg;refine step_lone_go ?_;have h1 : ({ b.atR a (.inRegion ops (i :: rest) :: k) with defers := D :: a.defers } : Frame).finish Go.undef = b.atR ({ a with defers := D :: a.defers }.put o.dst Go.undef) (.inRegion ops rest :: k) := by
  have := Frame.finish_atR b { a with defers := D :: a.defers } ops i rest k Go.undef
  rw [ho] at this; exact this
 have h2 : ({ a with defers := D :: a.defers } : Act).put o.dst Go.undef = { (a.put o.dst Go.undef) with defers := D :: (a.put o.dst Go.undef).defers } := by
  cases o.dst <;> rfl
 rw [hg, ← h2, ← h1];simp only [stepG.apply, Sem.runT_eq, hr, GStep.bare_after];rfl
theorem step_op_panic {b : Frame} {a : Act} {k : List Item} {cs : List Frame} {w : World} {ops : Array Oper} {i : Nat} {rest : List Nat} {o : Oper} (ho : ops[i]? = some o) (hw : Region.wanted o (yielded ops a.tmps) = true) (hd : ∀ c, o.op ≠ .defer c) {y : Value}
 (hr : (execOp a.eval o).run P w = .halt (.panic y) w) :
 step P (lone (b.atR a (.inRegion ops (i :: rest) :: k)) cs w) = .next (lone { b.atR a (.inRegion ops (i :: rest) :: k) with mode := .panicking (panE y) } cs w) := by
 have hg := stepGR_op (P := P) (b := b) (k := k) (cs := cs) (w := w) (rest := rest) ho hw;rw [Oper.semAt_eq _ _ _ hd] at hg;refine step_lone_go ?_;rw [hg];simp only [stepG.apply, Sem.runT_eq, hr, GStep.bare_after];rfl
include ok hR in
theorem runOps_ok {rd ro : Option Nat} {L : Loops} {ops : Array Oper} : ∀ (os : List Oper) (j : Nat), ops.toList.drop j = os → ∀ (fr : Fr) (H : AHeap) (outs : List (XE × Fr × AHeap)), runOps X R rd L ops.toList os fr H = some outs →
 ∀ (e : Env) (a : Act) (w : World), FR e fr a → HR (gp P X) e L H.objs.get H.next w → RdOk e rd ro → ∀ (b : Frame) (k : List Item) (cs : List Frame), b.roundOf = ro →
  ∃ x a' w', CodeOut (gp P X) L e H w outs x a' w' ∧ Arr P (lone (b.atR a (.inRegion ops (List.range' j os.length) :: k)) cs w) b k cs x a' w' := by
 intro os
 induction os with
 | nil =>
  intro j _ fr H outs h e a w hF hH _ b k cs _;simp only [runOps, Option.some.injEq] at h; subst h;exact ⟨.normal, a, w, ⟨fr, H, e, by simp, hF, hH, Tran.refl _ _ _ _⟩, .one stepR_region_end⟩
 | cons o os ih =>
  intro j hj fr H outs h e a w hF hH hro b k cs hb;have hoj : ops[j]? = some o := by
   have : (ops.toList.drop j)[0]? = some o := by rw [hj]; rfl
   simpa using this
  have hj' : ops.toList.drop (j + 1) = os := by
   have := congrArg List.tail hj;simpa using this
  have hrange : List.range' j (o :: os).length = j :: List.range' (j + 1) os.length := by simp [List.range'_succ]
  rw [hrange];simp only [runOps] at h;cases hwa : wantedA ops.toList fr.tm o.guard with
  | none => rw [hwa] at h; cases h
  | some t =>
   rw [hwa] at h;have hw := wantedA_ok hF.tm hwa;cases t with
   | false =>
    simp only at h;obtain ⟨x, a', w', hout, hs⟩ := ih (j + 1) hj' _ _ _ h e (a.put o.dst Go.undef) w (hF.put o.dst rfl) hH hro b k cs hb;refine ⟨x, a', w', hout, .of_steps (.one ?_) hs⟩;have := stepR_op_skip (P := P) (b := b) (a := a) (k := k) (cs := cs) (w := w) (ops := ops) (i := j) (rest := List.range' (j + 1) os.length) (by simp [hoj, hw])
    rw [hoj] at this;exact this
   | true =>
    simp only at h;cases hl : oneOp X R L fr H o with
    | some l =>
     rw [hl] at h;obtain ⟨en, w1, ⟨v, H1, hm, e1, hend, hH1, hT1⟩, _, hs1⟩ := oneOp_ok ok hR hl hF hH hoj hw (b := b) (k := k) (cs := cs) (rest := List.range' (j + 1) os.length);obtain ⟨o1, ho1, hsub⟩ := outsOr_mem h (v, H1) hm
     by_cases hp : ∃ u, v = .pan u
     ·obtain ⟨u, rfl⟩ := hp;simp only [contP, Option.some.injEq] at ho1; subst ho1;obtain ⟨y, hc, hy, rfl⟩ := hend;exact ⟨.pan u, a, w1, ⟨fr, H1, e1, hsub _ (by simp), hF.le hT1.le, hH1, hT1⟩, y, _, hc, by rw [closed_cv eNil e1 u hc]; exact hy, hs1⟩
     ·have hp' : ∀ u, v ≠ .pan u := fun u hu => hp ⟨u, hu⟩
      obtain ⟨y, hy, rfl⟩ := endR_not hend hp';have hk : contP fr H1 (runOps X R rd L ops.toList os (fr.put o.dst v) H1) v = runOps X R rd L ops.toList os (fr.put o.dst v) H1 := by
       unfold contP
       split
       ·exact absurd rfl (hp' _)
       ·rfl
      rw [hk] at ho1;obtain ⟨x, a', w', hout, hs⟩ := ih (j + 1) hj' _ _ _ ho1 e1 (a.put o.dst y) w1 ((hF.le hT1.le).put o.dst hy) hH1 (hro.le hT1.le) b k cs hb;obtain ⟨fr', H', e', hm', hF', hH', hT'⟩ := hout;exact ⟨x, a', w', ⟨fr', H', e', hsub _ hm', hF', hH', hT1.trans hT'⟩, .of_steps hs1 hs⟩
    | none =>
     rw [hl] at h;simp only [outsOr] at h;have hev := evalA_ok ok hF hH.glob;unfold special at h
     split at h
     ·rename_i c hc;obtain ⟨callee, args, ts⟩ := c
      split at h
      ·rename_i d hd;simp only [RdOk] at hro;cases callee with
       | value f =>
        simp only [dfCall] at hd;unfold dfFn at hd
        split at hd
        ·rename_i g fs cs' vs hf hvs;simp only [Option.some.injEq] at hd; subst hd;obtain ⟨v1, v3, h1, h3, hρ⟩ := cv_fn (hev _ _ hf);have h2 := evals_cvs hev hvs;have hD : dfC e (.cl g (fs ++ vs) cs') = some { target := .fn (.func g) v3.toArray, args := (v1 ++ args.toList.map a.eval).toArray } := by
          simp only [dfC, cvs_append h1 h2, h3]
         have hrun : (execOp a.eval o).run P w = .ok (.defer { target := .fn (.func g) v3.toArray, args := (v1 ++ args.toList.map a.eval).toArray }) w := by
          simp only [execOp, hc, resolve, hρ];have : args.map a.eval = (args.toList.map a.eval).toArray := by apply Array.ext'; simp
          rw [this];simp [Deferred.ofValue]
         have hst := step_op_defer (P := P) (b := b) (a := a) (k := k) (cs := cs) (w := w) (rest := List.range' (j + 1) os.length) hoj hw (hb.trans hro) hrun;obtain ⟨x, a', w', hout, hs⟩ := ih (j + 1) hj' _ _ _ h e _ w ((hF.put o.dst rfl).def hD) hH (by simp only [RdOk]; exact hro) b k cs hb
         exact ⟨x, a', w', hout, .of_steps (.one hst) hs⟩
        ·cases hd
       | _ => simp [dfCall] at hd
      ·cases h
     ·rename_i x hx
      split at h
      ·rename_i v hv;simp only [Option.some.injEq] at h; subst h;unfold panVal at hv
       split at hv
       ·rename_i t u hxu;simp only [brec] at hv;cases hcl : u.closed with
        | false => rw [hcl] at hv; cases hv
        | true =>
         rw [hcl] at hv; simp only [cond_true, Option.some.injEq] at hv; subst hv;have hcv := hev _ _ hxu;have hcc : (AV.ifc t u).closed = true := hcl;have hif : ∃ z, a.eval x = .iface t z := by
          simp only [cv] at hcv;cases hu : cv e u with
          | none => rw [hu] at hcv; cases hcv
          | some z => rw [hu] at hcv; simp only [Option.some.injEq] at hcv; exact ⟨z, hcv.symm⟩
         obtain ⟨z, hz⟩ := hif;have hnd : ∀ c, o.op ≠ .defer c := by intro c hc'; rw [hx] at hc'; cases hc'
         have hrun : (execOp a.eval o).run P w = .halt (.panic (a.eval x)) w := by
          simp only [execOp, hx, hz, Instr.panic]; rfl
         exact ⟨.pan (.ifc t u), a, w, ⟨fr, H, e, by simp, hF, hH, Tran.refl _ _ _ _⟩, a.eval x, _, hcc, by rw [closed_cv eNil e _ hcc]; exact hcv, .one (step_op_panic hoj hw hnd hrun)⟩
       ·cases hv
      ·cases h
     ·cases h
end
end
end Go.X

/- Control. -/
namespace Go.X
noncomputable section
set_option linter.unusedSectionVars false
theorem bindX_mem {f : Fr → AHeap → Option (List (XE × Fr × AHeap))} : ∀ {l r : List (XE × Fr × AHeap)}, bindX f l = some r → ∀ x fr H, (x, fr, H) ∈ l →
 (x = .normal ∧ ∃ o, f fr H = some o ∧ ∀ y ∈ o, y ∈ r) ∨ (x ≠ .normal ∧ (x, fr, H) ∈ r) := by
 intro l
 induction l with
 | nil => intro r _ x fr H hm; cases hm
 | cons p l ih =>
  intro r h x fr H hm;obtain ⟨x0, fr0, H0⟩ := p;have other : x0 ≠ .normal → (∃ zs, bindX f l = some zs ∧ r = (x0, fr0, H0) :: zs) → (x = .normal ∧ ∃ o, f fr H = some o ∧ ∀ y ∈ o, y ∈ r) ∨ (x ≠ .normal ∧ (x, fr, H) ∈ r) := by
   rintro hne ⟨zs, hl, rfl⟩;rcases List.mem_cons.1 hm with heq | hm
   ·cases heq; exact .inr ⟨hne, List.mem_cons_self ..⟩
   ·rcases ih hl x fr H hm with ⟨h1, o, h2, h3⟩ | ⟨h1, h2⟩
    ·exact .inl ⟨h1, o, h2, fun y hy => List.mem_cons_of_mem _ (h3 y hy)⟩
    ·exact .inr ⟨h1, List.mem_cons_of_mem _ h2⟩
  cases x0 with
  | normal =>
   cases l with
   | nil =>
    simp only [bindX] at h;simp only [List.mem_singleton] at hm; cases hm;exact .inl ⟨rfl, r, h, fun _ hy => hy⟩
   | cons q l =>
    simp only [bindX] at h;cases hf : f fr0 H0 with
    | none => rw [hf] at h; cases h
    | some ys =>
     rw [hf] at h;cases hl : bindX f (q :: l) with
     | none => rw [hl] at h; cases h
     | some zs =>
      rw [hl] at h; simp only [Option.some.injEq] at h; subst h;rcases List.mem_cons.1 hm with heq | hm
      ·cases heq; exact .inl ⟨rfl, ys, hf, fun y hy => List.mem_append_left _ hy⟩
      ·rcases ih hl x fr H hm with ⟨h1, o, h2, h3⟩ | ⟨h1, h2⟩
       ·exact .inl ⟨h1, o, h2, fun y hy => List.mem_append_right _ (h3 y hy)⟩
       ·exact .inr ⟨h1, List.mem_append_right _ h2⟩
  | exit id =>
   refine other (by simp) ?_
   simp only [bindX] at h;cases hl : bindX f l with
   | none => rw [hl] at h; cases h
   | some zs => rw [hl] at h; simp only [Option.some.injEq] at h; exact ⟨zs, rfl, h.symm⟩
  | ret =>
   refine other (by simp) ?_
   simp only [bindX] at h;cases hl : bindX f l with
   | none => rw [hl] at h; cases h
   | some zs => rw [hl] at h; simp only [Option.some.injEq] at h; exact ⟨zs, rfl, h.symm⟩
  | pan v =>
   refine other (by simp) ?_
   simp only [bindX] at h;cases hl : bindX f l with
   | none => rw [hl] at h; cases h
   | some zs => rw [hl] at h; simp only [Option.some.injEq] at h; exact ⟨zs, rfl, h.symm⟩
theorem seqA_some {f : Fr → AHeap → Option (List (XE × Fr × AHeap))} {o : Option (List (XE × Fr × AHeap))} {r : List (XE × Fr × AHeap)} (h : seqA f o = some r) : ∃ l, o = some l ∧ bindX f l = some r := by
 cases o with
 | none => simp [seqA] at h
 | some l => exact ⟨l, rfl, h⟩
theorem Arr.pass {P : Program} {m : Machine} {b : Frame} {it : Item} {k : List Item} {cs : List Frame} {x : XE} {a : Act} {w : World} (hit : ∀ id, exitTo id (it :: k) = exitTo id k) (hx : x ≠ .normal) (h : Arr P m b (it :: k) cs x a w) : Arr P m b k cs x a w := by
 cases x with
 | normal => exact absurd rfl hx
 | exit id => obtain ⟨t, h1, h2⟩ := h; exact ⟨t, h1.trans (hit id), h2⟩
 | ret => exact h
 | pan v => exact h
theorem CodeOut.trans {NG : GP} {L : Loops} {e e1 : Env} {H H1 : AHeap} {w w1 : World} {o outs : List (XE × Fr × AHeap)} {x : XE} {a : Act} {w' : World} (hT : Tran e H.objs.get H.next w e1 H1.objs.get H1.next w1)
 (hsub : ∀ y ∈ o, y ∈ outs) (h : CodeOut NG L e1 H1 w1 o x a w') : CodeOut NG L e H w outs x a w' := by
 obtain ⟨fr', H', e', hm, hF, hH, hT'⟩ := h;exact ⟨fr', H', e', hsub _ hm, hF, hH, hT.trans hT'⟩
theorem loop_start {P : Program} {b : Frame} {a : Act} {c : Code} {k : List Item} {cs : List Frame} {w : World} {m' : Machine} (h : Steps P (lone (b.atR a (.code (.loop c) :: k)) cs w) m') (hne : m' ≠ lone (b.atR a (.code (.loop c) :: k)) cs w) :
 Steps P (lone (b.atR a (.inLoop c :: k)) cs w) m' := by
 obtain ⟨n, hn⟩ := h;cases n with
 | zero => simp only [runN] at hn; injection hn with hn; exact absurd hn.symm hne
 | succ n =>
  refine ⟨n + 1, ?_⟩;simp only [runN, stepR_loop] at hn;simp only [runN, stepR_inLoop];exact hn
theorem atR_todo {b b' : Frame} {a a' : Act} {t t' : List Item} {cs cs' : List Frame} {w w' : World} (h : lone (b.atR a t) cs w = lone (b'.atR a' t') cs' w') : t = t' := by
 simp only [lone, Machine.mk.injEq, Array.mk.injEq, List.cons.injEq, Goroutine.mk.injEq] at h;have := h.2.1.1.1;simp only [Frame.atR, Frame.mk.injEq] at this;exact this.2.2.1
theorem pan_mode {b b' : Frame} {a a' : Act} {t t' : List Item} {cs cs' : List Frame} {w w' : World} {ch : List PanicEntry} (h : lone { b.atR a t with mode := .panicking ch } cs w = lone (b'.atR a' t') cs' w') : FrameMode.panicking ch = .run := by
 simp only [lone, Machine.mk.injEq, Array.mk.injEq, List.cons.injEq, Goroutine.mk.injEq] at h;have := h.2.1.1.1;simp only [Frame.atR, Frame.mk.injEq] at this;exact this.2.2.2.2.1
section
variable {P : Program} {X : XP} (ok : XPok P X) {R : Rec} (hR : RecOk P (gp P X) R)
include hR in
theorem seq_ok {rd ro : Option Nat} {fid : FuncId} {L : Loops} {fr : Fr} {H : AHeap} {c1 c2 : Code} {outs : List (XE × Fr × AHeap)}
 (h : seqA (fun fr H => R.code rd fid L fr H c2) (R.code rd fid L fr H c1) = some outs) {e : Env} {a : Act} {w : World} (hF : FR e fr a) (hH : HR (gp P X) e L H.objs.get H.next w) (hro : RdOk e rd ro) :
 CodeWP P fid ro (.seq c1 c2) (CodeOut (gp P X) L e H w outs) a w := by
 obtain ⟨l, hl, hb⟩ := seqA_some h;intro b k cs hb1 hb3;obtain ⟨x, a1, w1, ⟨fr1, H1, e1, hm, hF1, hH1, hT1⟩, harr⟩ := hR.code _ _ _ _ _ _ _ hl e a w ro hF hH hro b (.code c2 :: k) cs hb1 hb3;rcases bindX_mem hb x fr1 H1 hm with ⟨rfl, o, ho, hsub⟩ | ⟨hx, hm'⟩
 ·obtain ⟨x2, a2, w2, hout, harr2⟩ := hR.code _ _ _ _ _ _ _ ho e1 a1 w1 ro hF1 hH1 (hro.le hT1.le) b k cs hb1 hb3;exact ⟨x2, a2, w2, hout.trans hT1 hsub, .of_steps (.head stepR_seq harr) harr2⟩
 ·exact ⟨x, a1, w1, ⟨fr1, H1, e1, hm', hF1, hH1, hT1⟩, .of_steps (.one stepR_seq) (.pass (fun _ => rfl) hx harr)⟩
include hR in
theorem loop_ok {rd ro : Option Nat} {fid : FuncId} {L : Loops} {fr : Fr} {H : AHeap} {c : Code} {outs : List (XE × Fr × AHeap)}
 (h : seqA (fun fr H => R.code rd fid L fr H (.loop c)) (R.code rd fid L fr H c) = some outs) {e : Env} {a : Act} {w : World} (hF : FR e fr a) (hH : HR (gp P X) e L H.objs.get H.next w) (hro : RdOk e rd ro) :
 CodeWP P fid ro (.loop c) (CodeOut (gp P X) L e H w outs) a w := by
 obtain ⟨l, hl, hb⟩ := seqA_some h;intro b k cs hb1 hb3;obtain ⟨x, a1, w1, ⟨fr1, H1, e1, hm, hF1, hH1, hT1⟩, harr⟩ := hR.code _ _ _ _ _ _ _ hl e a w ro hF hH hro b (.inLoop c :: k) cs hb1 hb3;rcases bindX_mem hb x fr1 H1 hm with ⟨rfl, o, ho, hsub⟩ | ⟨hx, hm'⟩
 ·obtain ⟨x2, a2, w2, hout, harr2⟩ := hR.code _ _ _ _ _ _ _ ho e1 a1 w1 ro hF1 hH1 (hro.le hT1.le) b k cs hb1 hb3;refine ⟨x2, a2, w2, hout.trans hT1 hsub, ?_⟩;have h1 : Steps P (lone (b.atR a (.code (.loop c) :: k)) cs w) (lone (b.atR a1 (.inLoop c :: k)) cs w1) := .head stepR_loop harr;cases x2 with
  | normal => exact Steps.trans h1 (loop_start harr2 (fun he => by have := congrArg List.length (atR_todo he); simp at this))
  | exit id => obtain ⟨t, g1, g2⟩ := harr2; exact ⟨t, g1, Steps.trans h1 (loop_start g2 (fun he => by have := atR_todo he; simp at this))⟩
  | ret => obtain ⟨t, g2⟩ := harr2; exact ⟨t, Steps.trans h1 (loop_start g2 (fun he => by have := atR_todo he; simp at this))⟩
  | pan v => obtain ⟨y, t, g1, g2, g3⟩ := harr2; exact ⟨y, t, g1, g2, Steps.trans h1 (loop_start g3 (fun he => by have := pan_mode he; cases this))⟩
 ·exact ⟨x, a1, w1, ⟨fr1, H1, e1, hm', hF1, hH1, hT1⟩, .of_steps (.one stepR_loop) (.pass (fun _ => rfl) hx harr)⟩
include hR in
theorem block_ok {rd ro : Option Nat} {fid : FuncId} {L : Loops} {fr : Fr} {H : AHeap} {c : Code} {id : Nat} {outs : List (XE × Fr × AHeap)}
 (h : blockA id (R.code rd fid L fr H c) = some outs) {e : Env} {a : Act} {w : World} (hF : FR e fr a) (hH : HR (gp P X) e L H.objs.get H.next w) (hro : RdOk e rd ro) :
 CodeWP P fid ro (.block id c) (CodeOut (gp P X) L e H w outs) a w := by
 cases hl : R.code rd fid L fr H c with
 | none => rw [hl] at h; simp [blockA] at h
 | some l =>
  rw [hl] at h;simp only [blockA, Option.some.injEq] at h; subst h;intro b k cs hb1 hb3;obtain ⟨x, a1, w1, ⟨fr1, H1, e1, hm, hF1, hH1, hT1⟩, harr⟩ := hR.code _ _ _ _ _ _ _ hl e a w ro hF hH hro b (.inBlock id :: k) cs hb1 hb3;have hm' := List.mem_map_of_mem (f := inBlockA id) hm;cases x with
  | normal => exact ⟨.normal, a1, w1, ⟨fr1, H1, e1, hm', hF1, hH1, hT1⟩, .head stepR_block (Steps.trans harr (.one stepR_inBlock))⟩
  | ret => obtain ⟨t, h2⟩ := harr; exact ⟨.ret, a1, w1, ⟨fr1, H1, e1, hm', hF1, hH1, hT1⟩, t, .head stepR_block h2⟩
  | pan v => obtain ⟨y, t, g1, g2, g3⟩ := harr; exact ⟨.pan v, a1, w1, ⟨fr1, H1, e1, hm', hF1, hH1, hT1⟩, y, t, g1, g2, .head stepR_block g3⟩
  | exit i =>
   obtain ⟨t, h1, h2⟩ := harr;simp only [inBlockA, brec] at hm'
   by_cases hid : i = id
   ·rw [nbeq_t hid] at hm';simp only [cond_true] at hm';have : exitTo i (.inBlock id :: k) = some k := by simp [exitTo, hid]
    rw [this] at h1;exact ⟨.normal, a1, w1, ⟨fr1, H1, e1, hm', hF1, hH1, hT1⟩, .head stepR_block (Steps.trans h2 (.one (stepR_exit h1)))⟩
   ·rw [nbeq_f hid] at hm';simp only [cond_false] at hm';have : exitTo i (.inBlock id :: k) = exitTo i k := by
     have : (id == i) = false := by simp; exact fun h => hid h.symm
     simp [exitTo, this]
    rw [this] at h1;exact ⟨.exit i, a1, w1, ⟨fr1, H1, e1, hm', hF1, hH1, hT1⟩, t, h1, .head stepR_block h2⟩
include ok hR in
theorem cond_ok {rd ro : Option Nat} {fid : FuncId} {L : Loops} {fr : Fr} {H : AHeap} {c1 c2 : Code} {x : Operand} {outs : List (XE × Fr × AHeap)}
 (h : condA (R.code rd fid L fr H c1) (R.code rd fid L fr H c2) (evalA X fr.tm x) = some outs) {e : Env} {a : Act} {w : World} (hF : FR e fr a) (hH : HR (gp P X) e L H.objs.get H.next w) (hro : RdOk e rd ro) :
 CodeWP P fid ro (.cond x c1 c2) (CodeOut (gp P X) L e H w outs) a w := by
 have hev := evalA_ok ok hF hH.glob;intro b k cs hb1 hb3;unfold condA at h
 split at h
 ·rename_i hx;have hρ := cv_bool (hev _ _ hx);obtain ⟨x', a1, w1, hout, harr⟩ := hR.code _ _ _ _ _ _ _ h e a w ro hF hH hro b k cs hb1 hb3;exact ⟨x', a1, w1, hout, .of_steps (.one (stepR_cond hρ)) harr⟩
 ·rename_i hx;have hρ := cv_bool (hev _ _ hx);obtain ⟨x', a1, w1, hout, harr⟩ := hR.code _ _ _ _ _ _ _ h e a w ro hF hH hro b k cs hb1 hb3;exact ⟨x', a1, w1, hout, .of_steps (.one (stepR_cond hρ)) harr⟩
 ·cases h
theorem stepR_scope {b : Frame} {a : Act} {c : Code} {k : List Item} {cs : List Frame} {w : World} : step P (lone (b.atR a (.code (.scope c) :: k)) cs w) = .next (lone (b.atR a (.code c :: .inScope c :: k)) cs w) :=
 step_lone_go (by simp [stepG, stepG.exec, Frame.atR])
theorem stepR_inScope {b : Frame} {a : Act} {c : Code} {k : List Item} {cs : List Frame} {w : World} : step P (lone (b.atR a (.inScope c :: k)) cs w) = .next (lone (b.atR a k) cs w) :=
 step_lone_go (by simp [stepG, stepG.exec, Frame.atR])
include hR in
theorem scope_ok {rd ro : Option Nat} {fid : FuncId} {L : Loops} {fr : Fr} {H : AHeap} {c : Code} {outs : List (XE × Fr × AHeap)}
 (h : R.code rd fid L fr H c = some outs) {e : Env} {a : Act} {w : World} (hF : FR e fr a) (hH : HR (gp P X) e L H.objs.get H.next w) (hro : RdOk e rd ro) :
 CodeWP P fid ro (.scope c) (CodeOut (gp P X) L e H w outs) a w := by
 intro b k cs hb1 hb3;obtain ⟨x, a1, w1, hout, harr⟩ := hR.code _ _ _ _ _ _ _ h e a w ro hF hH hro b (.inScope c :: k) cs hb1 hb3;refine ⟨x, a1, w1, hout, ?_⟩;cases x with
 | normal => exact .head stepR_scope (Steps.trans harr (.one stepR_inScope))
 | exit id => exact .of_steps (.one stepR_scope) (.pass (x := .exit id) (fun _ => rfl) (by simp) harr)
 | ret => exact .of_steps (.one stepR_scope) (.pass (x := .ret) (fun _ => rfl) (by simp) harr)
 | pan v => exact .of_steps (.one stepR_scope) (.pass (x := .pan v) (fun _ => rfl) (by simp) harr)
end
end
end Go.X

/- Functions: entering, leaving, results. -/
namespace Go.X
noncomputable section
set_option linter.unusedSectionVars false
theorem argTm_eq : ∀ (vs : List AV) (n : Nat) (t : Tr AV), argTm n vs t = t.put n vs := by
 intro vs
 induction vs with
 | nil => intro n t; rfl
 | cons v vs ih => intro n t; simp only [argTm, Tr.put]; exact ih _ _
theorem argTm_ok {e : Env} {as : List AV} {vs : List Value} (h : cvs e as = some vs) (nt : Nat) : TmOk e (argTm 0 as .nil) (Nat.max as.length nt) (vs.toArray ++ Array.replicate (nt - vs.toArray.size) Go.undef) := by
 have hl := cvs_length h;refine ⟨?_, fun i => ?_⟩
 ·simp only [Array.size_append, List.size_toArray, Array.size_replicate, hl];show as.length + (nt - as.length) = max as.length nt;omega
 ·rw [argTm_eq];unfold Tr.getU;rw [Tr.get_put];simp only [Nat.zero_le, Nat.zero_add, true_and, Nat.sub_zero]
  by_cases hi : i < as.length
  ·rw [if_pos hi];obtain ⟨y, hy, hx⟩ := cvs_get h i as[i] (by simp [hi])
   simp only [List.getElem?_eq_getElem hi];rw [hy];simp only [Array.getD_eq_getD_getElem?];rw [Array.getElem?_append_left (by simpa [hl] using hi)]
   simp [hx]
  ·rw [if_neg hi];simp only [Tr.get_nil, cv]
   congr 1
   simp only [Array.getD_eq_getD_getElem?];rw [Array.getElem?_append_right (by simp [hl]; omega)]
   simp only [Array.getElem?_replicate]
   split <;> rfl
theorem HR.dropWrite {NG : GP} {e : Env} {L : Loops} {G : Nat → Option AObj} {n : Nat} {w w' : World} {d : Nat} {o : AObj} {x : Nat × Nat} (h : HR NG e L G n w) (hd : G d = some o) (hx : e.f d = some x) (hwr : o.wr = true)
 (hsame : ∀ B, B ≠ x.1 → w'.heap[B]? = w.heap[B]?) : HR NG e L (X.upd G d none) n w' := by
 refine ⟨h.dom, ?_, ?_, h.glob, h.ora⟩
 ·intro c p hc
  by_cases e1 : c = d
  ·subst e1; rw [upd_same] at hc; cases hc
  ·rw [upd_ne _ _ e1] at hc;obtain ⟨y, hy, hO⟩ := h.live c p hc;exact ⟨y, hy, hO.keep (Env.le_refl e) (hsame _ fun he => e1 (h.inj c d p o y x hc hd (.inr hwr) hy hx he)) rfl⟩
 ·intro c c' p q y z hc hc';exact h.inj c c' p q y z (Sub.drop G d _ _ hc) (Sub.drop G d _ _ hc')
theorem Tran.dropWrite {e : Env} {G : Nat → Option AObj} {n : Nat} {w w' : World} {d : Nat} {o : AObj} {x : Nat × Nat} (hd : G d = some o) (hx : e.f d = some x) (hw : o.wr = true)
 (hsame : ∀ B, B ≠ x.1 → w'.heap[B]? = w.heap[B]?) (hsz : w'.heap.size = w.heap.size) (hos : w'.os = w.os) (htp : w'.tape = w.tape) (hout : w'.output = w.output) : Tran e G n w e (X.upd G d none) n w' where
 le := Env.le_refl e
 old _ _ := rfl
 nx := Nat.le_refl _
 size := by omega
 keep B _ hf := hsame B fun he => hf ⟨d, o, x, hd, hw, hx, he.symm⟩
 foot B hf _ := hf.mono (Sub.drop G d)
 ro c p hc hp := ⟨p, Sub.drop G d _ _ hc, hp⟩
 os := hos
 tape := htp
 output := hout
theorem step_collected {P : Program} {fr : Frame} {B : Nat} {ds : List Deferred} {cs : List Frame} {w : World} (hm : fr.mode ≠ .run) (hd : fr.defers = { target := .collected B, args := #[] } :: ds) (hb : w.heap[B]? = some (.deferred (some []))) :
 step P (lone fr cs w) = .next (lone { fr with defers := ds } cs { w with heap := w.heap.setIfInBounds B (.deferred none) }) := by
 have hrun : (Instr.takeDeferred B).run P w = .ok [] { w with heap := w.heap.setIfInBounds B (.deferred none) } := by
  simp [Instr.takeDeferred, getObj, setObj, Sem.run, hb, Sem.run_bind]
 refine step_lone_go ?_;cases hmode : fr.mode with
 | run => exact absurd hmode hm
 | returning => simp [stepG, hmode, unwind, hd, Sem.runT_eq, hrun]
 | panicking ch => simp [stepG, hmode, unwind, hd, Sem.runT_eq, hrun]
section
variable {P : Program} {X : XP} (ok : XPok P X)
include ok in
theorem resultsA_ok {L : Loops} {fr : Fr} {H : AHeap} {e : Env} {a : Act} {w : World} (hT : TmOk e fr.tm fr.n a.tmps) (hH : HR (gp P X) e L H.objs.get H.next w) (f : ResultVar → Sem Value)
 (hf : f = fun | .tmp t => pure (a.tmps.getD t Go.undef) | .cell p t => do loadVar t (← asAddr (a.tmps.getD p Go.undef))) :
 ∀ (rs : List ResultVar) (vs : List AV), resultsA X fr H rs = some vs → ∃ ys, cvs e vs = some ys ∧ (rs.mapM f).run P w = .ok ys w := by
 intro rs
 induction rs with
 | nil => intro vs h; simp only [resultsA, Option.some.injEq] at h; subst h; exact ⟨[], rfl, by simp⟩
 | cons r rs ih =>
  intro vs h;simp only [resultsA] at h;cases hr : resultA X fr H r with
  | none => rw [hr] at h; cases h
  | some v =>
   rw [hr] at h;cases hrs : resultsA X fr H rs with
   | none => rw [hrs] at h; cases h
   | some us =>
    rw [hrs] at h; simp only [Option.some.injEq] at h; subst h;obtain ⟨ys, hys, hrun⟩ := ih us hrs;have h1 : ∃ y, cv e v = some y ∧ (f r).run P w = .ok y w := by
     subst hf;cases r with
     | tmp t =>
      refine ⟨_, ?_, rfl⟩;have := hT.2 t;simp only [resultA] at hr;simp only [Tr.getU] at this;cases ht : fr.tm.get t with
      | none => rw [ht] at hr this; simp only [Option.some.injEq] at hr; subst hr; exact this
      | some u => rw [ht] at hr this; simp only [Option.some.injEq] at hr; subst hr; exact this
     | cell p t =>
      simp only [resultA] at hr;have hp := hT.2 p;simp only [Tr.getU] at hp;cases htp : fr.tm.get p with
      | none => rw [htp] at hr; cases hr
      | some u =>
       rw [htp] at hr hp;cases u with
       | ptr b off =>
        simp only at hr hp;obtain ⟨x, y, hx, hy, hl⟩ := loadV_run ok hH hr;obtain ⟨x', hx', hρ⟩ := cv_ptr hp;rw [hx] at hx'; cases hx';refine ⟨y, hy, ?_⟩;simp only [hρ, asAddr, Sem.run_bind, Sem.run_pure, Result.andThen_ok, hl]
       | _ => simp at hr
    obtain ⟨y, hy, hrun1⟩ := h1;refine ⟨y :: ys, cvs_mk hy hys, ?_⟩;rw [List.mapM_cons];simp only [Sem.run_bind, hrun1, Result.andThen_ok, hrun, Sem.run_pure]
include ok in
theorem results_ok {L : Loops} {fn : Func} {fr : Fr} {H : AHeap} {e : Env} {a : Act} {w : World} (hT : TmOk e fr.tm fr.n a.tmps) (hH : HR (gp P X) e L H.objs.get H.next w) {outs : List (AV × AHeap)}
 (h : asResult H (resultsA X fr H fn.results.toList) = some outs) : ∃ v y, outs = [(v, H)] ∧ cv e v = some y ∧ (results fn a.tmps).run P w = .ok y w := by
 cases hr : resultsA X fr H fn.results.toList with
 | none => rw [hr] at h; simp [asResult] at h
 | some vs =>
  rw [hr] at h;obtain ⟨ys, hys, hrun⟩ := resultsA_ok ok hT hH _ rfl _ _ hr;have hl := cvs_length hys;have hmap : (fn.results.mapM (fun | .tmp t => pure (a.tmps.getD t Go.undef) | .cell p t => do loadVar t (← asAddr (a.tmps.getD p Go.undef)) : ResultVar → Sem Value)).run P w = .ok ys.toArray w := by
   rw [Array.mapM_eq_mapM_toList, Sem.run_map, hrun]; rfl
  have key : (results fn a.tmps).run P w = .ok (if h : ys.toArray.size = 1 then ys.toArray[0] else .tuple ys.toArray) w := by
   unfold results;rw [Sem.run_bind];exact congrArg (fun r : Result (Array Value) => r.andThen fun a w' => Sem.run P (pure (if h : a.size = 1 then a[0] else Value.tuple a)) w') hmap
  unfold asResult at h
  split at h
  ·rename_i v heq;simp only [Option.some.injEq] at heq h; subst heq; subst h;obtain ⟨y, z, hy, hz, rfl⟩ := cvs_cons hys;simp only [cvs, Option.some.injEq] at hz; subst hz;exact ⟨v, y, rfl, hy, by rw [key]; rfl⟩
  ·rename_i vs' hne heq;simp only [Option.some.injEq] at heq h; subst heq; subst h;refine ⟨.tup vs, .tuple ys.toArray, rfl, by simp only [cv, hys], ?_⟩
   rw [key, dif_neg];intro h1;simp only [List.size_toArray] at h1;rw [hl] at h1;cases vs with
   | nil => simp at h1
   | cons v vs =>
    cases vs with
    | nil => exact hne v rfl
    | cons v' vs => simp at h1
  ·rename_i heq; cases heq
end
end
end Go.X
