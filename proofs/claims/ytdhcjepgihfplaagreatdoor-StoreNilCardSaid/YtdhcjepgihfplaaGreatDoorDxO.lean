/- Frames; what code and calls do, by the machine's steps. -/
import Derived.Test.YtdhcjepgihfplaaGreatDoorDxN
import Derived.RangeFuncIn
namespace Go.X
noncomputable section
set_option linter.unusedSectionVars false

def dfC (e : Env) : DF → Option Deferred
  | .coll d => match e.f d with
    | some x => some { target := .collected x.1, args := #[] }
    | none => none
  | .cl f a b => match cvs e a, cvs e b with
    | some x, some y => some { target := .fn (.func f) y.toArray, args := x.toArray }
    | _, _ => none

def defsC (e : Env) : List DF → Option (List Deferred)
  | [] => some []
  | d :: ds => match dfC e d, defsC e ds with
    | some x, some r => some (x :: r)
    | _, _ => none

structure FR (e : Env) (fr : Fr) (a : Act) : Prop where
  tm : TmOk e fr.tm fr.n a.tmps
  defs : defsC e fr.defs = some a.defers

theorem dfC_le {e e' : Env} (h : e.le e') {d : DF} {r : Deferred} (hr : dfC e d = some r) : dfC e' d = some r := by
  cases d with
  | coll d =>
    simp only [dfC] at hr ⊢
    cases hd : e.f d with
    | none => rw [hd] at hr; cases hr
    | some x => rw [hd] at hr; rw [h.1 _ _ hd]; exact hr
  | cl f a b =>
    simp only [dfC] at hr ⊢
    cases ha : cvs e a with
    | none => rw [ha] at hr; cases hr
    | some x =>
      cases hb : cvs e b with
      | none => rw [ha, hb] at hr; cases hr
      | some y => rw [ha, hb] at hr; rw [cvs_le h _ _ ha, cvs_le h _ _ hb]; exact hr

theorem defsC_le {e e' : Env} (h : e.le e') : ∀ {ds : List DF} {r : List Deferred}, defsC e ds = some r → defsC e' ds = some r := by
  intro ds
  induction ds with
  | nil => intro r hr; exact hr
  | cons d ds ih =>
    intro r hr
    simp only [defsC] at hr ⊢
    cases hd : dfC e d with
    | none => rw [hd] at hr; cases hr
    | some x =>
      cases hs : defsC e ds with
      | none => rw [hd, hs] at hr; cases hr
      | some q => rw [hd, hs] at hr; rw [dfC_le h hd, ih hs]; exact hr

mutual
/-- what names no block reads alike everywhere -/
theorem closed_cv (e e' : Env) : ∀ v : AV, v.closed = true → cv e v = cv e' v
  | .undef, _ | .bool _, _ | .int _ _, _ | .str _, _ | .nilp, _ | .nils, _ | .nilm, _ | .nilf, _ | .nili, _ => rfl
  | .ifc t v, h => by simp only [AV.closed] at h; simp only [cv, closed_cv e e' v h]
  | .agg l, h => by simp only [AV.closed] at h; simp only [cv, closeds_cv e e' l h]
  | .tup l, h => by simp only [AV.closed] at h; simp only [cv, closeds_cv e e' l h]
  | .ptr _ _, h | .sl _ _ _ _, h | .fn _ _ _, h | .yld _, h | .capOf _ _, h | .sym _, h | .res _ _, h | .pan _, h => by cases h
theorem closeds_cv (e e' : Env) : ∀ l : List AV, AV.closeds l = true → cvs e l = cvs e' l
  | [], _ => rfl
  | v :: vs, h => by
    simp only [AV.closeds, Bool.and_eq_true] at h
    simp only [cvs, closed_cv e e' v h.1, closeds_cv e e' vs h.2]
end

theorem FR.le {e e' : Env} (hle : e.le e') {fr : Fr} {a : Act} (h : FR e fr a) : FR e' fr a := ⟨h.tm.le hle, defsC_le hle h.defs⟩

theorem Tr.getU_set (t : Tr AV) (n : Nat) (v : AV) (m : Nat) : (t.set n (some v)).getU m = if m = n then v else t.getU m := by
  unfold Tr.getU
  rw [Tr.get_set]
  by_cases h : m = n
  · rw [if_pos h, if_pos h]
  · rw [if_neg h, if_neg h]

theorem TmOk.set {e : Env} {tm : Tr AV} {n : Nat} {t : Array Value} (h : TmOk e tm n t) {d : Nat} (hd : d < n) {v : AV} {y : Value} (hv : cv e v = some y) : TmOk e (tm.set d (some v)) n (t.setIfInBounds d y) := by
  refine ⟨by simp [h.1], fun i => ?_⟩
  rw [Tr.getU_set]
  by_cases hi : i = d
  · subst hi
    rw [if_pos rfl, hv]
    have : i < t.size := by rw [h.1]; exact hd
    simp [this]
  · rw [if_neg hi, h.2 i]
    simp only [Array.getD_eq_getD_getElem?]
    rw [Array.getElem?_setIfInBounds_ne (fun h => hi h.symm)]

theorem FR.put {e : Env} {fr : Fr} {a : Act} (h : FR e fr a) (d : Option Tmp) {v : AV} {y : Value} (hv : cv e v = some y) : FR e (fr.put d v) (a.put d y) := by
  obtain ⟨tm, n, ds⟩ := fr
  cases d with
  | none => exact h
  | some d =>
    simp only [Fr.put, brec]
    cases hb : Nat.blt d n with
    | true => exact ⟨h.tm.set (nblt_of hb) hv, h.defs⟩
    | false =>
      have hge : ¬ d < n := fun hh => by rw [nblt_eq, decide_eq_true hh] at hb; cases hb
      refine ⟨?_, h.defs⟩
      have hsz := h.tm.1
      have : (a.put (some d) y).tmps = a.tmps := by
        simp only [Act.put]
        apply Array.ext'
        simp only [Array.toList_setIfInBounds]
        apply List.set_eq_of_length_le
        have hsz' : a.tmps.size = n := hsz
        rw [Array.length_toList, hsz']; exact Nat.le_of_not_lt hge
      rw [this]; exact h.tm

section
variable {P : Program} {X : XP} (ok : XPok P X)

include ok in
theorem evalA_ok {e : Env} {fr : Fr} {a : Act} (h : FR e fr a) (hg : ∀ g, g < P.globals.size → e.f g = some (g, 0)) : EvOk e (evalA X fr.tm) a.eval := by
  intro x v hx
  cases x with
  | tmp t =>
    have := h.tm.2 t
    simp only [evalA] at hx
    simp only [Tr.getU] at this
    cases ht : fr.tm.get t with
    | none => rw [ht] at hx this; simp only [Option.some.injEq] at hx; subst hx; exact this
    | some u => rw [ht] at hx this; simp only [Option.some.injEq] at hx; subst hx; exact this
  | const c => exact ofConst_cv e hx
  | global g =>
    simp only [evalA, brec] at hx
    cases hb : Nat.blt g X.glob with
    | false => rw [hb] at hx; cases hx
    | true =>
      rw [hb] at hx; simp only [cond_true, Option.some.injEq] at hx; subst hx
      have hlt := nblt_of hb
      rw [ok.glob] at hlt
      simp only [cv, hg g hlt]; rfl
  | func f => simp only [evalA, Option.some.injEq] at hx; subst hx; rfl

theorem cv_not_bool {e : Env} {v : AV} {y : Value} (h : cv e v = some y) (h1 : ∀ b, v ≠ .bool b) (h2 : ∀ i, v ≠ .sym i) : ∀ b, y ≠ .bool b := by
  intro b hb
  subst hb
  cases v with
  | bool b => exact h1 b rfl
  | sym i => exact h2 i rfl
  | res i c => exact (RC.val_cells (show c.val (e.sy i) = some _ from h)).2 _ rfl
  | ptr => obtain ⟨_, _, h⟩ := cv_ptr h; cases h
  | sl => obtain ⟨_, _, h⟩ := cv_sl h; cases h
  | fn => obtain ⟨_, _, _, _, h⟩ := cv_fn h; cases h
  | yld => obtain ⟨_, _, h⟩ := cv_yld h; cases h
  | agg => obtain ⟨_, _, h⟩ := cv_agg h; cases h
  | tup => obtain ⟨_, _, h⟩ := cv_tup h; cases h
  | str => obtain ⟨_, h⟩ := cv_str h; cases h
  | ifc t v => simp only [cv] at h; cases hv : cv e v <;> rw [hv] at h <;> simp at h
  | capOf b k => simp only [cv] at h; cases hv : e.f b <;> rw [hv] at h <;> simp at h
  | _ => simp [cv, Go.undef] at h

theorem wantedA_ok {e : Env} {fr : Fr} {a : Act} (h : TmOk e fr.tm fr.n a.tmps) {ops : Array Oper} {o : Oper} {b : Bool} (hw : wantedA ops.toList fr.tm o.guard = some b) : Region.wanted o (yielded ops a.tmps) = b := by
  unfold Region.wanted
  cases hg : o.guard with
  | none => rw [hg] at hw; simp only [wantedA, Option.some.injEq] at hw; exact hw
  | some jw =>
    obtain ⟨j, want⟩ := jw
    rw [hg] at hw
    simp only [wantedA] at hw
    simp only
    have hget : ops.toList[j]? = ops[j]? := by simp
    rw [hget] at hw
    unfold yielded
    cases hj : ops[j]? with
    | none => rw [hj] at hw; simp only [guardAt, Option.some.injEq] at hw; subst hw; simp
    | some p =>
      rw [hj] at hw
      simp only [Option.bind_some]
      cases hd : p.dst with
      | none =>
        have : guardAt fr.tm want (some p) = some false := by
          obtain ⟨dst, _, _, _, _, _⟩ := p; simp only at hd; subst hd; rfl
        rw [this] at hw; simp only [Option.some.injEq] at hw; subst hw; simp
      | some d =>
        have : guardAt fr.tm want (some p) = guardIs want (fr.tm.get d) := by
          obtain ⟨dst, _, _, _, _, _⟩ := p; simp only at hd; subst hd; rfl
        rw [this] at hw
        simp only [Option.bind_some]
        have hv := h.2 d
        have hgetD : ∀ y, a.tmps[d]? = some y → a.tmps.getD d Go.undef = y := by intro y hy; simp [Array.getD_eq_getD_getElem?, hy]
        cases hq : a.tmps[d]? with
        | none =>
          have hu : a.tmps.getD d Go.undef = Go.undef := by simp [Array.getD_eq_getD_getElem?, hq]
          rw [hu] at hv
          have : b = false := by
            unfold guardIs at hw
            split at hw
            · rename_i c hc
              simp only [Tr.getU, hc, cv, Option.some.injEq] at hv
              cases hv
            · cases hw
            · simpa using hw.symm
          subst this; rfl
        | some y =>
          rw [hgetD y hq] at hv
          unfold guardIs at hw
          split at hw
          · rename_i c hc
            simp only [Tr.getU, hc, cv, Option.some.injEq] at hv
            subst hv
            simp only [Option.some.injEq] at hw; subst hw
            cases c <;> cases want <;> rfl
          · cases hw
          · rename_i n1 n2
            simp only [Option.some.injEq] at hw; subst hw
            have hnb := cv_not_bool hv (fun c hc => by
                unfold Tr.getU at hc
                cases ht : fr.tm.get d with
                | none => rw [ht] at hc; cases hc
                | some u => rw [ht] at hc; simp only at hc; subst hc; exact n1 c ht)
              (fun c hc => by
                unfold Tr.getU at hc
                cases ht : fr.tm.get d with
                | none => rw [ht] at hc; cases hc
                | some u => rw [ht] at hc; simp only at hc; subst hc; exact n2 c ht)
            cases y <;> first | rfl | exact absurd rfl (hnb _)
end

def eNil : Env := ⟨fun _ => none, fun _ => Go.undef⟩

def panE (y : Value) : List PanicEntry := [{ v := y, recovered := false }]

/-- how code is left -/
def Arr (P : Program) (m : Machine) (b : Frame) (k : List Item) (cs : List Frame) : XE → Act → World → Prop
  | .normal, a, w => Steps P m (lone (b.atR a k) cs w)
  | .exit id, a, w => ∃ t, exitTo id t = exitTo id k ∧ Steps P m (lone (b.atR a (.code (.exit id) :: t)) cs w)
  | .ret, a, w => ∃ t, Steps P m (lone (b.atR a (.code .ret :: t)) cs w)
  | .pan v, a, w => ∃ y t, v.closed = true ∧ cv eNil v = some y ∧ Steps P m (lone { b.atR a t with mode := .panicking (panE y) } cs w)

theorem Arr.of_steps {P : Program} {m m1 : Machine} {b : Frame} {k : List Item} {cs : List Frame} {x : XE} {a : Act} {w : World} (h : Steps P m m1) (h' : Arr P m1 b k cs x a w) : Arr P m b k cs x a w := by
  cases x with
  | normal => exact Steps.trans h h'
  | exit id => obtain ⟨t, h1, h2⟩ := h'; exact ⟨t, h1, Steps.trans h h2⟩
  | ret => obtain ⟨t, h2⟩ := h'; exact ⟨t, Steps.trans h h2⟩
  | pan v => obtain ⟨y, t, h1, h2, h3⟩ := h'; exact ⟨y, t, h1, h2, Steps.trans h h3⟩

def CodeWP (P : Program) (fid : FuncId) (ro : Option Nat) (c : Code) (Q : XE → Act → World → Prop) (a : Act) (w : World) : Prop :=
  ∀ (b : Frame) (k : List Item) (cs : List Frame), b.fn = fid → b.roundOf = ro →
    ∃ x a' w', Q x a' w' ∧ Arr P (lone (b.atR a (.code c :: k)) cs w) b k cs x a' w'

/-- the caller's frame, behind a call -/
def Back (c : Frame) : Ending → Frame
  | .returned v => c.finish v
  | .panicked ch => c.raise ch
  | .outgrown => c

/-- what a round, or a function, does -/
def RunsTo (P : Program) (fr : Frame) (w : World) (Q : Ending → World → Prop) : Prop :=
  ∀ (c : Frame) (cs : List Frame), ∃ en w', Q en w' ∧ en ≠ .outgrown ∧ Steps P (lone fr (c :: cs) w) (lone (Back c en) cs w')

/-- what calling a function's value leads to -/
def NextTo (P : Program) (Q : Ending → World → Prop) : Next → World → Prop
  | .value v, w => Q (.returned v) w
  | .enter f as, w => RunsTo P (Frame.enter P f as .normal) w Q
  | .round l f tmps asg body, w => RunsTo P (Frame.round l f tmps asg body .normal) w Q
  | _, _ => False

def CallTo (P : Program) (vf : Value) (args : Array Value) (w : World) (Q : Ending → World → Prop) : Prop :=
  ∃ n w1, (do let d ← Deferred.ofValue vf args; invoke d.target d.args : Sem Next).run P w = .ok n w1 ∧ NextTo P Q n w1

/-- how a call ended, as its outcome says -/
def endR (e : Env) (v : AV) (en : Ending) : Prop :=
  match v with
  | .pan u => ∃ y, u.closed = true ∧ cv e u = some y ∧ en = .panicked (panE y)
  | v => ∃ y, cv e v = some y ∧ en = .returned y

theorem endR_ret {e : Env} {v : AV} {y : Value} (h : cv e v = some y) : endR e v (.returned y) := by
  unfold endR
  split
  · cases h
  · exact ⟨y, h, rfl⟩

theorem endR_not {e : Env} {v : AV} {en : Ending} (h : endR e v en) (hv : ∀ u, v ≠ .pan u) : ∃ y, cv e v = some y ∧ en = .returned y := by
  unfold endR at h
  split at h
  · exact absurd rfl (hv _)
  · exact h

def HOut (NG : GP) (L : Loops) (e : Env) (H : AHeap) (w : World) (v : AV) (H' : AHeap) (en : Ending) (w' : World) : Prop :=
  ∃ e', endR e' v en ∧ HR NG e' L H'.objs.get H'.next w' ∧ Tran e H.objs.get H.next w e' H'.objs.get H'.next w'

def ValOut (NG : GP) (L : Loops) (e : Env) (H : AHeap) (w : World) (outs : List (AV × AHeap)) (en : Ending) (w' : World) : Prop :=
  ∃ v H', (v, H') ∈ outs ∧ HOut NG L e H w v H' en w'

def CodeOut (NG : GP) (L : Loops) (e : Env) (H : AHeap) (w : World) (outs : List (XE × Fr × AHeap)) (x : XE) (a : Act) (w' : World) : Prop :=
  ∃ fr' H' e', (x, fr', H') ∈ outs ∧ FR e' fr' a ∧ HR NG e' L H'.objs.get H'.next w' ∧ Tran e H.objs.get H.next w e' H'.objs.get H'.next w'

def RdOk (e : Env) : Option Nat → Option Nat → Prop
  | none, ro => ro = none
  | some l, ro => ∃ x, e.f l = some x ∧ ro = some x.1

structure RecOk (P : Program) (NG : GP) (R : Rec) : Prop where
  code : ∀ rd fid L fr H c outs, R.code rd fid L fr H c = some outs → ∀ e a w ro, FR e fr a → HR NG e L H.objs.get H.next w → RdOk e rd ro → CodeWP P fid ro c (CodeOut NG L e H w outs) a w
  call : ∀ L fv args H outs, R.call L fv args H = some outs → ∀ e w vf vs, cv e fv = some vf → cvs e args = some vs → HR NG e L H.objs.get H.next w → CallTo P vf vs.toArray w (ValOut NG L e H w outs)

section
variable {P : Program} {b : Frame} {a : Act} {k : List Item} {cs : List Frame} {w : World} {ops : Array Oper}

/-- an operation that yields a value -/
theorem step_op_value {i : Nat} {rest : List Nat} {o : Oper} (ho : ops[i]? = some o) (hw : Region.wanted o (yielded ops a.tmps) = true) (hd : ∀ c, o.op ≠ .defer c) {n : Next} {y : Value} {w' : World}
    (hr : (execOp a.eval o).run P w = .ok n w') (hn : NextIs n y) :
    step P (lone (b.atR a (.inRegion ops (i :: rest) :: k)) cs w) = .next (lone (b.atR (a.put o.dst y) (.inRegion ops rest :: k)) cs w') := by
  have hg := stepGR_op (P := P) (b := b) (k := k) (cs := cs) (w := w) (rest := rest) ho hw
  rw [Oper.semAt_eq _ _ _ hd] at hg
  have hfin : ∀ v, (b.atR a (.inRegion ops (i :: rest) :: k)).finish v = b.atR (a.put o.dst v) (.inRegion ops rest :: k) := by
    intro v; rw [Frame.finish_atR, ho]; rfl
  refine step_lone_go ?_
  rw [hg, ← hfin]
  rcases hn with rfl | ⟨rfl, rfl⟩ <;> simp [stepG.apply, hr]

/-- the frame behind an operation that calls -/
def opBack (b : Frame) (a : Act) (ops : Array Oper) (i : Nat) (rest : List Nat) (k : List Item) (dst : Option Tmp) : Ending → Frame
  | .returned y => b.atR (a.put dst y) (.inRegion ops rest :: k)
  | .panicked ch => { b.atR a (.inRegion ops (i :: rest) :: k) with mode := .panicking ch }
  | .outgrown => b.atR a (.inRegion ops (i :: rest) :: k)

theorem back_atR {i : Nat} {rest : List Nat} {o : Oper} (ho : ops[i]? = some o) (en : Ending) : Back (b.atR a (.inRegion ops (i :: rest) :: k)) en = opBack b a ops i rest k o.dst en := by
  cases en with
  | returned v => simp only [Back, opBack]; rw [Frame.finish_atR, ho]; rfl
  | panicked ch => rfl
  | outgrown => rfl

/-- an operation that calls -/
theorem steps_op_call {i : Nat} {rest : List Nat} {o : Oper} (ho : ops[i]? = some o) (hw : Region.wanted o (yielded ops a.tmps) = true) (hd : ∀ c, o.op ≠ .defer c) {n : Next} {w1 : World} {Q : Ending → World → Prop}
    (hr : (execOp a.eval o).run P w = .ok n w1) (hn : NextTo P Q n w1) :
    ∃ en w', Q en w' ∧ en ≠ .outgrown ∧ Steps P (lone (b.atR a (.inRegion ops (i :: rest) :: k)) cs w) (lone (opBack b a ops i rest k o.dst en) cs w') := by
  have hg := stepGR_op (P := P) (b := b) (k := k) (cs := cs) (w := w) (rest := rest) ho hw
  rw [Oper.semAt_eq _ _ _ hd] at hg
  cases n with
  | value v =>
    exact ⟨.returned v, w1, hn, by simp, .one (step_op_value ho hw hd hr (.inl rfl))⟩
  | enter f as =>
    obtain ⟨en, w', hq, ho', hs⟩ := hn (b.atR a (.inRegion ops (i :: rest) :: k)) cs
    rw [back_atR ho] at hs
    refine ⟨en, w', hq, ho', .head (step_lone_go ?_) hs⟩
    rw [hg]; simp [stepG.apply, hr, Frame.atR]
  | round l f tmps asg body =>
    obtain ⟨en, w', hq, ho', hs⟩ := hn (b.atR a (.inRegion ops (i :: rest) :: k)) cs
    rw [back_atR ho] at hs
    refine ⟨en, w', hq, ho', .head (step_lone_go ?_) hs⟩
    rw [hg]; simp [stepG.apply, hr, Frame.atR]
  | _ => exact hn.elim
end
end
end Go.X
