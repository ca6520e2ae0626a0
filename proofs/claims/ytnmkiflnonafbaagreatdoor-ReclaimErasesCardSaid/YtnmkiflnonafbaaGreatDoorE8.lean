/- Frames; what code and calls do, by the machine's steps. -/
import Derived.Test.YtnmkiflnonafbaaGreatDoorE7
import Derived.RangeFuncIn
set_option linter.unusedVariables false
set_option linter.unusedSimpArgs false
namespace Go.X
noncomputable section
set_option linter.unusedSectionVars false
def ZeN (e : Env) : List Nat → Option (List Deferred)
 | [] => some []
 | d :: ds => match e.f d, ZeN e ds with
  | some x, some r => some ({ target := .collected x.1, args := #[] } :: r)
  | _, _ => none
structure FR (e : Env) (fr : Fr) (a : Act) : Prop where
 tm : Zia e fr.tm fr.n a.tmps
 defs : ZeN e fr.defs = some a.defers
theorem Zm6 {e e' : Env} (h : e.le e') : ∀ {ds : List Nat} {r : List Deferred}, ZeN e ds = some r → ZeN e' ds = some r := by
 intro ds
 induction ds with
 | nil => intro r hr; exact hr
 | cons d ds ih =>
  intro r hr;simp only [ZeN] at hr ⊢;cases hd : e.f d with
  | none => rw [hd] at hr; cases hr
  | some x =>
   cases hs : ZeN e ds with
   | none => rw [hd, hs] at hr; cases hr
   | some q => rw [hd, hs] at hr; rw [h.1 _ _ hd, ih hs]; exact hr
theorem FR.le {e e' : Env} (hle : e.le e') {fr : Fr} {a : Act} (h : FR e fr a) : FR e' fr a := ⟨h.tm.le hle, Zm6 hle h.defs⟩
theorem Tr.getU_set (t : Tr AV) (n : Nat) (v : AV) (m : Nat) : (t.set n (some v)).getU m = if m = n then v else t.getU m := by
 unfold Tr.getU;rw [Tr.get_set]
 by_cases h : m = n
 ·rw [if_pos h, if_pos h]
 ·rw [if_neg h, if_neg h]
theorem Zia.set {e : Env} {tm : Tr AV} {n : Nat} {t : Array Value} (h : Zia e tm n t) {d : Nat} (hd : d < n) {v : AV} {y : Value} (hv : cv e v = some y) : Zia e (tm.set d (some v)) n (t.setIfInBounds d y) := by
 refine ⟨by simp [h.1], fun i => ?_⟩
 rw [Tr.getU_set]
 by_cases hi : i = d
 ·subst hi;rw [if_pos rfl, hv];have : i < t.size := by rw [h.1]; exact hd
  simp [this]
 ·rw [if_neg hi, h.2 i];simp only [Array.getD_eq_getD_getElem?];rw [Array.getElem?_setIfInBounds_ne (fun h => hi h.symm)]
theorem FR.put {e : Env} {fr : Fr} {a : Act} (h : FR e fr a) (d : Option Tmp) {v : AV} {y : Value} (hv : cv e v = some y) : FR e (fr.put d v) (a.put d y) := by
 obtain ⟨tm, n, ds⟩ := fr;cases d with
 | none => exact h
 | some d =>
  simp only [Fr.put, Zaw];cases hb : Nat.blt d n with
  | true => exact ⟨h.tm.set (ZaF hb) hv, h.defs⟩
  | false =>
   have hge : ¬ d < n := fun hh => by rw [ZbT, decide_eq_true hh] at hb; cases hb
   refine ⟨?_, h.defs⟩;have hsz := h.tm.1;have : (a.put (some d) y).tmps = a.tmps := by
    simp only [Act.put];apply Array.ext';simp only [Array.toList_setIfInBounds];apply List.set_eq_of_length_le;have hsz' : a.tmps.size = n := hsz;rw [Array.length_toList, hsz']; exact Nat.le_of_not_lt hge
   rw [this]; exact h.tm
section
variable {P : Program} {X : XP} (ok : XPok P X)
include ok in
theorem Zem {e : Env} {fr : Fr} {a : Act} (h : FR e fr a) (hg : ∀ g, g < P.globals.size → e.f g = some (g, 0)) : Ze9 e (Zdy X fr.tm) a.eval := by
 intro x v hx;cases x with
 | tmp t =>
  have := h.tm.2 t;simp only [Zdy] at hx;simp only [Tr.getU] at this;cases ht : fr.tm.get t with
  | none => rw [ht] at hx this; simp only [Option.some.injEq] at hx; subst hx; exact this
  | some u => rw [ht] at hx this; simp only [Option.some.injEq] at hx; subst hx; exact this
 | const c => exact ZjY e hx
 | global g =>
  simp only [Zdy, Zaw] at hx;cases hb : Nat.blt g X.glob with
  | false => rw [hb] at hx; cases hx
  | true =>
   rw [hb] at hx; simp only [cond_true, Option.some.injEq] at hx; subst hx;have hlt := ZaF hb;rw [ok.glob] at hlt;simp only [cv, hg g hlt]; rfl
 | func f => simp only [Zdy, Option.some.injEq] at hx; subst hx; rfl
theorem Zid {e : Env} {v : AV} {y : Value} (h : cv e v = some y) (h1 : ∀ b, v ≠ .bool b) (h2 : ∀ i, v ≠ .sym i) : ∀ b, y ≠ .bool b := by
 intro b hb;subst hb;cases v with
 | bool b => exact h1 b rfl
 | sym i => exact h2 i rfl
 | ptr => obtain ⟨_, _, h⟩ := Zbz h; cases h
 | sl => obtain ⟨_, _, h⟩ := Zbk h; cases h
 | fn => obtain ⟨_, _, _, _, h⟩ := Zg5 h; cases h
 | yld => obtain ⟨_, _, h⟩ := ZeE h; cases h
 | agg => obtain ⟨_, _, h⟩ := ZeF h; cases h
 | tup => obtain ⟨_, _, h⟩ := Zoq h; cases h
 | str => obtain ⟨_, h⟩ := Zbh h; cases h
 | ifc t v => simp only [cv] at h; cases hv : cv e v <;> rw [hv] at h <;> simp at h
 | capOf b k => simp only [cv] at h; cases hv : e.f b <;> rw [hv] at h <;> simp at h
 | _ => simp [cv, Go.undef] at h
theorem ZfA {e : Env} {fr : Fr} {a : Act} (h : Zia e fr.tm fr.n a.tmps) {ops : Array Oper} {o : Oper} {b : Bool} (hw : ZcS ops.toList fr.tm o.guard = some b) : Region.wanted o (yielded ops a.tmps) = b := by
 unfold Region.wanted;cases hg : o.guard with
 | none => rw [hg] at hw; simp only [ZcS, Option.some.injEq] at hw; exact hw
 | some jw =>
  obtain ⟨j, want⟩ := jw;rw [hg] at hw;simp only [ZcS] at hw;simp only;have hget : ops.toList[j]? = ops[j]? := by simp
  rw [hget] at hw;unfold yielded;cases hj : ops[j]? with
  | none => rw [hj] at hw; simp only [ZdA, Option.some.injEq] at hw; subst hw; simp
  | some p =>
   rw [hj] at hw;simp only [Option.bind_some];cases hd : p.dst with
   | none =>
    have : ZdA fr.tm want (some p) = some false := by
     obtain ⟨dst, _, _, _, _, _⟩ := p; simp only at hd; subst hd; rfl
    rw [this] at hw; simp only [Option.some.injEq] at hw; subst hw; simp
   | some d =>
    have : ZdA fr.tm want (some p) = Zf0 want (fr.tm.get d) := by
     obtain ⟨dst, _, _, _, _, _⟩ := p; simp only at hd; subst hd; rfl
    rw [this] at hw;simp only [Option.bind_some];have hv := h.2 d;have hgetD : ∀ y, a.tmps[d]? = some y → a.tmps.getD d Go.undef = y := by intro y hy; simp [Array.getD_eq_getD_getElem?, hy]
    cases hq : a.tmps[d]? with
    | none =>
     have hu : a.tmps.getD d Go.undef = Go.undef := by simp [Array.getD_eq_getD_getElem?, hq]
     rw [hu] at hv;have : b = false := by
      unfold Zf0 at hw
      split at hw
      ·rename_i c hc;simp only [Tr.getU, hc, cv, Option.some.injEq] at hv;cases hv
      ·cases hw
      ·simpa using hw.symm
     subst this; rfl
    | some y =>
     rw [hgetD y hq] at hv;unfold Zf0 at hw
     split at hw
     ·rename_i c hc;simp only [Tr.getU, hc, cv, Option.some.injEq] at hv;subst hv;simp only [Option.some.injEq] at hw; subst hw;cases c <;> cases want <;> rfl
     ·cases hw
     ·rename_i n1 n2;simp only [Option.some.injEq] at hw; subst hw
      have hnb := Zid hv (fun c hc => by
       unfold Tr.getU at hc;cases ht : fr.tm.get d with
       | none => rw [ht] at hc; cases hc
       | some u => rw [ht] at hc; simp only at hc; subst hc; exact n1 c ht)
       (fun c hc => by
         unfold Tr.getU at hc;cases ht : fr.tm.get d with
         | none => rw [ht] at hc; cases hc
         | some u => rw [ht] at hc; simp only at hc; subst hc; exact n2 c ht)
      cases y <;> first | rfl | exact absurd rfl (hnb _)
end
def Arr (P : Program) (m : Machine) (b : Frame) (k : List Item) (cs : List Frame) : XE → Act → World → Prop
 | .normal, a, w => Steps P m (lone (b.atR a k) cs w)
 | .exit id, a, w => ∃ t, exitTo id t = exitTo id k ∧ Steps P m (lone (b.atR a (.code (.exit id) :: t)) cs w)
 | .ret, a, w => ∃ t, Steps P m (lone (b.atR a (.code .ret :: t)) cs w)
theorem Arr.of_steps {P : Program} {m m1 : Machine} {b : Frame} {k : List Item} {cs : List Frame} {x : XE} {a : Act} {w : World} (h : Steps P m m1) (h' : Arr P m1 b k cs x a w) : Arr P m b k cs x a w := by
 cases x with
 | normal => exact Steps.trans h h'
 | exit id => obtain ⟨t, h1, h2⟩ := h'; exact ⟨t, h1, Steps.trans h h2⟩
 | ret => obtain ⟨t, h2⟩ := h'; exact ⟨t, Steps.trans h h2⟩
def Zdn (P : Program) (fid : FuncId) (ro : Option Nat) (c : Code) (Q : XE → Act → World → Prop) (a : Act) (w : World) : Prop :=
 ∀ (b : Frame) (k : List Item) (cs : List Frame), b.fn = fid → b.kind = .normal → b.roundOf = ro →
  ∃ x a' w', Q x a' w' ∧ Arr P (lone (b.atR a (.code c :: k)) cs w) b k cs x a' w'
def ZlK (P : Program) (fr : Frame) (w : World) (Q : Value → World → Prop) : Prop :=
 ∀ (c : Frame) (cs : List Frame), ∃ v w', Q v w' ∧ Steps P (lone fr (c :: cs) w) (lone (c.finish v) cs w')
def ZlL (P : Program) (Q : Value → World → Prop) : Next → World → Prop
 | .value v, w => Q v w
 | .enter f as, w => ZlK P (Frame.enter P f as .normal) w Q
 | .round l f tmps asg body, w => ZlK P (Frame.round l f tmps asg body .normal) w Q
 | _, _ => False
def ZlM (P : Program) (vf : Value) (args : Array Value) (w : World) (Q : Value → World → Prop) : Prop :=
 ∃ n w1, (do let d ← Deferred.ofValue vf args; invoke d.target d.args : Sem Next).run P w = .ok n w1 ∧ ZlL P Q n w1
def Zrh (NG : Nat) (L : Zag) (e : Env) (H : AHeap) (w : World) (v : AV) (H' : AHeap) (y : Value) (w' : World) : Prop :=
 ∃ e', cv e' v = some y ∧ HR NG e' L H'.objs.get H'.next w' ∧ Tran e H.objs.get H.next w e' H'.objs.get H'.next w'
def ZaZ (NG : Nat) (L : Zag) (e : Env) (H : AHeap) (w : World) (outs : List (AV × AHeap)) (y : Value) (w' : World) : Prop :=
 ∃ v H', (v, H') ∈ outs ∧ Zrh NG L e H w v H' y w'
def ZaN (NG : Nat) (L : Zag) (e : Env) (H : AHeap) (w : World) (outs : List (XE × Fr × AHeap)) (x : XE) (a : Act) (w' : World) : Prop :=
 ∃ fr' H' e', (x, fr', H') ∈ outs ∧ FR e' fr' a ∧ HR NG e' L H'.objs.get H'.next w' ∧ Tran e H.objs.get H.next w e' H'.objs.get H'.next w'
def ZkP (e : Env) : Option Nat → Option Nat → Prop
 | none, ro => ro = none
 | some l, ro => ∃ x, e.f l = some x ∧ ro = some x.1
structure RecOk (P : Program) (NG : Nat) (R : Rec) : Prop where
 code : ∀ rd fid L fr H c outs, R.code rd fid L fr H c = some outs → ∀ e a w ro, FR e fr a → HR NG e L H.objs.get H.next w → ZkP e rd ro → Zdn P fid ro c (ZaN NG L e H w outs) a w
 call : ∀ L fv args H outs, R.call L fv args H = some outs → ∀ e w vf vs, cv e fv = some vf → cvs e args = some vs → HR NG e L H.objs.get H.next w → ZlM P vf vs.toArray w (ZaZ NG L e H w outs)
section
variable {P : Program} {b : Frame} {a : Act} {k : List Item} {cs : List Frame} {w : World} {ops : Array Oper}
theorem Zaz {i : Nat} {rest : List Nat} {o : Oper} (ho : ops[i]? = some o) (hw : Region.wanted o (yielded ops a.tmps) = true) (hd : ∀ c, o.op ≠ .defer c) {n : Next} {y : Value} {w' : World}
 (hr : (execOp a.eval o).run P w = .ok n w') (hn : Zos n y) :
 step P (lone (b.atR a (.inRegion ops (i :: rest) :: k)) cs w) = .next (lone (b.atR (a.put o.dst y) (.inRegion ops rest :: k)) cs w') := by
 have hg := stepGR_op (P := P) (b := b) (k := k) (cs := cs) (w := w) (rest := rest) ho hw;rw [Oper.semAt_eq _ _ _ hd] at hg;have hfin : ∀ v, (b.atR a (.inRegion ops (i :: rest) :: k)).finish v = b.atR (a.put o.dst v) (.inRegion ops rest :: k) := by
  intro v; rw [Frame.finish_atR, ho]; rfl
 refine step_lone_go ?_;rw [hg, ← hfin];rcases hn with rfl | ⟨rfl, rfl⟩ <;> simp [stepG.apply, hr]
theorem Zgf {i : Nat} {rest : List Nat} {o : Oper} (ho : ops[i]? = some o) (hw : Region.wanted o (yielded ops a.tmps) = true) (hd : ∀ c, o.op ≠ .defer c) {n : Next} {w1 : World} {Q : Value → World → Prop}
 (hr : (execOp a.eval o).run P w = .ok n w1) (hn : ZlL P Q n w1) (hk : b.kind = .normal) :
 ∃ y w', Q y w' ∧ Steps P (lone (b.atR a (.inRegion ops (i :: rest) :: k)) cs w) (lone (b.atR (a.put o.dst y) (.inRegion ops rest :: k)) cs w') := by
 have hg := stepGR_op (P := P) (b := b) (k := k) (cs := cs) (w := w) (rest := rest) ho hw;rw [Oper.semAt_eq _ _ _ hd] at hg;have hfin : ∀ v, (b.atR a (.inRegion ops (i :: rest) :: k)).finish v = b.atR (a.put o.dst v) (.inRegion ops rest :: k) := by
  intro v; rw [Frame.finish_atR, ho]; rfl
 cases n with
 | value v =>
  exact ⟨v, w1, hn, .one (Zaz ho hw hd hr (.inl rfl))⟩
 | enter f as =>
  obtain ⟨v, w', hq, hs⟩ := hn (b.atR a (.inRegion ops (i :: rest) :: k)) cs;rw [hfin] at hs;refine ⟨v, w', hq, .head (step_lone_go ?_) hs⟩;rw [hg]; simp [stepG.apply, hr, Frame.atR]
 | round l f tmps asg body =>
  obtain ⟨v, w', hq, hs⟩ := hn (b.atR a (.inRegion ops (i :: rest) :: k)) cs;rw [hfin] at hs;refine ⟨v, w', hq, .head (step_lone_go ?_) hs⟩;rw [hg]; simp [stepG.apply, hr, Frame.atR]
 | _ => exact hn.elim
end
end
end Go.X

/- One operation; operations in the order of the text. -/
namespace Go.X
noncomputable section
set_option linter.unusedSectionVars false
theorem ZlN {α β : Type} {f : α → Option (List β)} : ∀ {l : List α} {r : List β}, Zla f l = some r → ∀ x ∈ l, ∃ o, f x = some o ∧ ∀ y ∈ o, y ∈ r := by
 intro l
 induction l with
 | nil => intro r _ x hx; cases hx
 | cons a l ih =>
  intro r h x hx;simp only [Zla] at h;cases ha : f a with
  | none => rw [ha] at h; cases h
  | some ys =>
   rw [ha] at h;cases hl : Zla f l with
   | none => rw [hl] at h; cases h
   | some zs =>
    rw [hl] at h; simp only [Option.some.injEq] at h; subst h;rcases List.mem_cons.1 hx with rfl | hx
    ·exact ⟨ys, ha, fun y hy => List.mem_append_left _ hy⟩
    ·obtain ⟨o, ho, hm⟩ := ih hl x hx;exact ⟨o, ho, fun y hy => List.mem_append_right _ (hm y hy)⟩
theorem Zbd {α β : Type} {f : α → Option (List β)} {l : List α} {r : List β} (h : Zbj f (some l) = some r) : ∀ x ∈ l, ∃ o, f x = some o ∧ ∀ y ∈ o, y ∈ r := by
 unfold Zbj at h
 split at h
 ·rename_i x heq;simp only [Option.some.injEq] at heq; subst heq;intro y hy;simp only [List.mem_singleton] at hy; subst hy;exact ⟨r, h, fun _ hz => hz⟩
 ·rename_i l' heq;simp only [Option.some.injEq] at heq; subst heq;exact ZlN h
 ·rename_i heq; cases heq
theorem Za3 {α β : Type} {f : α → Option (List β)} {l : Option (List α)} {r : List β} (h : Zbj f l = some r) : ∃ l', l = some l' := by
 cases l with
 | none => simp [Zbj] at h
 | some l => exact ⟨l, rfl⟩
section
variable {P : Program} {X : XP} (ok : XPok P X) {R : Rec} (hR : RecOk P P.globals.size R)
include ok hR in
theorem Zhc {L : Zag} {ev : Operand → Option AV} {H : AHeap} {o : Oper} {cl : Nat} {outs : List (AV × AHeap)} (h : ZgM X R L ev H o.op cl = some outs) {e : Env} {a : Act} {w : World} (hev : Ze9 e ev a.eval) (hH : HR P.globals.size e L H.objs.get H.next w)
 {ops : Array Oper} {i : Nat} (ho : ops[i]? = some o) (hw : Region.wanted o (yielded ops a.tmps) = true) {b : Frame} {k : List Item} {cs : List Frame} {rest : List Nat} (hk : b.kind = .normal) :
 ∃ y w', ZaZ P.globals.size L e H w outs y w' ∧ Steps P (lone (b.atR a (.inRegion ops (i :: rest) :: k)) cs w) (lone (b.atR (a.put o.dst y) (.inRegion ops rest :: k)) cs w') := by
 have hfree : e.f H.next = none := by
  cases hf : e.f H.next with
  | none => rfl
  | some x => exact absurd (hH.dom _ _ hf) (by omega)
 unfold ZgM at h
 split at h
 ·
  unfold Zlb at h
  split at h
  ·rename_i v hq;simp only [Option.some.injEq] at h; subst h;obtain ⟨y, hy, hr⟩ := Zib ok w hH hev o hq;have hnd : ∀ c, o.op ≠ .defer c := by intro c hc; rw [hc] at hq; simp [qop] at hq
   exact ⟨y, w, ⟨v, H, by simp, e, hy, hH, Tran.refl _ _ _ _⟩, .one (Zaz ho hw hnd hr (.inl rfl))⟩
  ·rename_i hq;obtain ⟨v, H', hm, y, hr, hy, h1, h2, h3⟩ := Zkd ok w hH hev o h;have hnd : ∀ c, o.op ≠ .defer c := by intro c hc; rw [hc] at h; simp [ZiX] at h
   exact ⟨y, w, ⟨v, H', hm, e, hy, by rw [h3]; exact h1, by rw [h3]; exact h2⟩, .one (Zaz ho hw hnd hr (.inl rfl))⟩
 ·
  unfold ZpV at h
  split at h
  ·rename_i p hp;obtain ⟨v, ob⟩ := p;simp only [Option.some.injEq] at h; subst h;obtain ⟨y, w', obj, hr, hheap, g1, g2, g3, hy, hO, hwr⟩ := ZeK ok w hev (L := L) o hp hfree;have hnd : ∀ c, o.op ≠ .defer c := by intro c hc; rw [hc] at hp; simp [ZcQ] at hp
   refine ⟨y, w', ⟨v, H.new ob, by simp [Zqd], e.ext H.next (w.heap.size, 0), hy, ?_, ?_⟩, .one (Zaz ho hw hnd hr (.inl rfl))⟩
   ·show HR _ _ L (H.objs.set H.next _).get (H.next + 1) _;rw [Zad];exact HR.alloc (hH.bump (Nat.le_succ _)) hfree (Nat.lt_succ_self _) hheap hO
   ·show Tran _ _ _ _ _ (H.objs.set H.next _).get (H.next + 1) _;rw [Zad];exact Tran.alloc hfree (Nat.le_refl _) (Nat.le_succ _) hwr hheap g1 g2 g3
  ·cases h
 ·
  unfold ZpV at h
  split at h
  ·rename_i p hp;obtain ⟨v, H'⟩ := p;simp only [Option.some.injEq, id] at h; subst h;have hH' : HR P.globals.size e L (bump H).objs.get (H.next + 1) w := hH.bump (Nat.le_succ _);obtain ⟨e', y, nxt, w', hr, hn, hy, h1, h2, h3⟩ := Zo4 ok w hH' hev o hp hfree (Nat.lt_succ_self _) (Nat.le_refl _);have hnd : ∀ c, o.op ≠ .defer c := by intro c hc; rw [hc] at hp; simp [wop] at hp
   have h3' : H'.next = H.next + 1 := h3;exact ⟨y, w', ⟨v, H', by simp, e', hy, by rw [h3']; exact h1, by rw [h3']; exact h2⟩, .one (Zaz ho hw hnd hr hn)⟩
  ·cases h
 ·
  unfold Zof at h
  split at h
  ·rename_i c hc;obtain ⟨callee, args, ts⟩ := c;cases callee with
   | value f =>
    simp only [Zlc] at h;unfold ZiY at h
    split at h
    ·rename_i fv vs hf hvs;obtain ⟨n, w1, hr, hn⟩ := hR.call _ _ _ _ _ h e w _ _ (hev _ _ hf) (ZbA hev hvs) hH;have hnd : ∀ c, o.op ≠ .defer c := by intro c hc'; rw [hc] at hc'; cases hc'
     have hexec : (execOp a.eval o).run P w = .ok n w1 := by
      rw [← hr];simp only [execOp, hc, resolve];have : args.map a.eval = (args.toList.map a.eval).toArray := by apply Array.ext'; simp
      rw [this]
     exact Zgf ho hw hnd hexec hn hk
    ·cases h
   | _ => simp [Zlc] at h
  ·cases h
include ok hR in
theorem Zm7 {L : Zag} {fr : Fr} {H : AHeap} {o : Oper} {outs : List (AV × AHeap)} (h : Zqe X R L fr H o = some outs) {e : Env} {a : Act} {w : World} (hF : FR e fr a) (hH : HR P.globals.size e L H.objs.get H.next w)
 {ops : Array Oper} {i : Nat} (ho : ops[i]? = some o) (hw : Region.wanted o (yielded ops a.tmps) = true) {b : Frame} {k : List Item} {cs : List Frame} {rest : List Nat} (hk : b.kind = .normal) :
 ∃ y w', ZaZ P.globals.size L e H w outs y w' ∧ Steps P (lone (b.atR a (.inRegion ops (i :: rest) :: k)) cs w) (lone (b.atR (a.put o.dst y) (.inRegion ops rest :: k)) cs w') :=
 Zhc ok hR h (Zem ok hF hH.glob) hH ho hw hk
include ok hR in
theorem ZlO {L : Zag} {ops : Array Oper} : ∀ (os : List Oper) (j : Nat), ops.toList.drop j = os → ∀ (fr : Fr) (H : AHeap) (outs : List (XE × Fr × AHeap)), Zfi X R L ops.toList os fr H = some outs →
 ∀ (e : Env) (a : Act) (w : World), FR e fr a → HR P.globals.size e L H.objs.get H.next w → ∀ (b : Frame) (k : List Item) (cs : List Frame), b.kind = .normal →
  ∃ a' w', ZaN P.globals.size L e H w outs .normal a' w' ∧ Steps P (lone (b.atR a (.inRegion ops (List.range' j os.length) :: k)) cs w) (lone (b.atR a' k) cs w') := by
 intro os
 induction os with
 | nil =>
  intro j _ fr H outs h e a w hF hH b k cs _;simp only [Zfi, Option.some.injEq] at h; subst h;exact ⟨a, w, ⟨fr, H, e, by simp, hF, hH, Tran.refl _ _ _ _⟩, .one stepR_region_end⟩
 | cons o os ih =>
  intro j hj fr H outs h e a w hF hH b k cs hk;have hoj : ops[j]? = some o := by
   have : (ops.toList.drop j)[0]? = some o := by rw [hj]; rfl
   simpa using this
  have hj' : ops.toList.drop (j + 1) = os := by
   have := congrArg List.tail hj;simpa using this
  simp only [Zfi] at h;cases hwa : ZcS ops.toList fr.tm o.guard with
  | none => rw [hwa] at h; cases h
  | some t =>
   rw [hwa] at h;have hw := ZfA hF.tm hwa;cases t with
   | false =>
    simp only at h;obtain ⟨a', w', hout, hs⟩ := ih (j + 1) hj' _ _ _ h e (a.put o.dst Go.undef) w (hF.put o.dst rfl) hH b k cs hk;refine ⟨a', w', hout, .head ?_ hs⟩;have := stepR_op_skip (P := P) (b := b) (a := a) (k := k) (cs := cs) (w := w) (ops := ops) (i := j) (rest := List.range' (j + 1) os.length) (by simp [hoj, hw])
    rw [hoj] at this;simpa [List.range'_succ] using this
   | true =>
    simp only at h;obtain ⟨l, hl⟩ := Za3 h;rw [hl] at h;obtain ⟨y, w1, ⟨v, H1, hm, e1, hy, hH1, hT1⟩, hs1⟩ := Zm7 ok hR hl hF hH hoj hw (b := b) (k := k) (cs := cs) (rest := List.range' (j + 1) os.length) hk;obtain ⟨o1, ho1, hsub⟩ := Zbd h (v, H1) hm;obtain ⟨a', w', ⟨fr', H', e', hm', hF', hH', hT'⟩, hs⟩ := ih (j + 1) hj' _ _ _ ho1 e1 (a.put o.dst y) w1 ((hF.le hT1.le).put o.dst hy) hH1 b k cs hk;refine ⟨a', w', ⟨fr', H', e', hsub _ hm', hF', hH', hT1.trans hT'⟩, ?_⟩;have : List.range' j (o :: os).length = j :: List.range' (j + 1) os.length := by simp [List.range'_succ]
    rw [this];exact Steps.trans hs1 hs
end
end
end Go.X

/- Control. -/
namespace Go.X
noncomputable section
set_option linter.unusedSectionVars false
theorem ZkP.le {e e' : Env} (hle : e.le e') {rd ro : Option Nat} (h : ZkP e rd ro) : ZkP e' rd ro := by
 cases rd with
 | none => exact h
 | some l => obtain ⟨x, hx, hr⟩ := h; exact ⟨x, hle.1 _ _ hx, hr⟩
theorem Zhd {f : Fr → AHeap → Option (List (XE × Fr × AHeap))} : ∀ {l r : List (XE × Fr × AHeap)}, ZdC f l = some r → ∀ x fr H, (x, fr, H) ∈ l →
 (x = .normal ∧ ∃ o, f fr H = some o ∧ ∀ y ∈ o, y ∈ r) ∨ (x ≠ .normal ∧ (x, fr, H) ∈ r) := by
 intro l
 induction l with
 | nil => intro r _ x fr H hm; cases hm
 | cons p l ih =>
  intro r h x fr H hm;obtain ⟨x0, fr0, H0⟩ := p;have other : x0 ≠ .normal → (∃ zs, ZdC f l = some zs ∧ r = (x0, fr0, H0) :: zs) → (x = .normal ∧ ∃ o, f fr H = some o ∧ ∀ y ∈ o, y ∈ r) ∨ (x ≠ .normal ∧ (x, fr, H) ∈ r) := by
   rintro hne ⟨zs, hl, rfl⟩;rcases List.mem_cons.1 hm with heq | hm
   ·cases heq; exact .inr ⟨hne, List.mem_cons_self ..⟩
   ·rcases ih hl x fr H hm with ⟨h1, o, h2, h3⟩ | ⟨h1, h2⟩
    ·exact .inl ⟨h1, o, h2, fun y hy => List.mem_cons_of_mem _ (h3 y hy)⟩
    ·exact .inr ⟨h1, List.mem_cons_of_mem _ h2⟩
  cases x0 with
  | normal =>
   cases l with
   | nil =>
    simp only [ZdC] at h;simp only [List.mem_singleton] at hm; cases hm;exact .inl ⟨rfl, r, h, fun _ hy => hy⟩
   | cons q l =>
    simp only [ZdC] at h;cases hf : f fr0 H0 with
    | none => rw [hf] at h; cases h
    | some ys =>
     rw [hf] at h;cases hl : ZdC f (q :: l) with
     | none => rw [hl] at h; cases h
     | some zs =>
      rw [hl] at h; simp only [Option.some.injEq] at h; subst h;rcases List.mem_cons.1 hm with heq | hm
      ·cases heq; exact .inl ⟨rfl, ys, hf, fun y hy => List.mem_append_left _ hy⟩
      ·rcases ih hl x fr H hm with ⟨h1, o, h2, h3⟩ | ⟨h1, h2⟩
       ·exact .inl ⟨h1, o, h2, fun y hy => List.mem_append_right _ (h3 y hy)⟩
       ·exact .inr ⟨h1, List.mem_append_right _ h2⟩
  | exit id =>
   refine other (by simp) ?_
   simp only [ZdC] at h;cases hl : ZdC f l with
   | none => rw [hl] at h; cases h
   | some zs => rw [hl] at h; simp only [Option.some.injEq] at h; exact ⟨zs, rfl, h.symm⟩
  | ret =>
   refine other (by simp) ?_
   simp only [ZdC] at h;cases hl : ZdC f l with
   | none => rw [hl] at h; cases h
   | some zs => rw [hl] at h; simp only [Option.some.injEq] at h; exact ⟨zs, rfl, h.symm⟩
theorem Zhe {f : Fr → AHeap → Option (List (XE × Fr × AHeap))} {o : Option (List (XE × Fr × AHeap))} {r : List (XE × Fr × AHeap)} (h : ZpW f o = some r) : ∃ l, o = some l ∧ ZdC f l = some r := by
 cases o with
 | none => simp [ZpW] at h
 | some l => exact ⟨l, rfl, h⟩
theorem Arr.pass {P : Program} {m : Machine} {b : Frame} {it : Item} {k : List Item} {cs : List Frame} {x : XE} {a : Act} {w : World} (hit : ∀ id, exitTo id (it :: k) = exitTo id k) (hx : x ≠ .normal) (h : Arr P m b (it :: k) cs x a w) : Arr P m b k cs x a w := by
 cases x with
 | normal => exact absurd rfl hx
 | exit id => obtain ⟨t, h1, h2⟩ := h; exact ⟨t, h1.trans (hit id), h2⟩
 | ret => exact h
theorem ZaN.trans {NG : Nat} {L : Zag} {e e1 : Env} {H H1 : AHeap} {w w1 : World} {o outs : List (XE × Fr × AHeap)} {x : XE} {a : Act} {w' : World} (hT : Tran e H.objs.get H.next w e1 H1.objs.get H1.next w1)
 (hsub : ∀ y ∈ o, y ∈ outs) (h : ZaN NG L e1 H1 w1 o x a w') : ZaN NG L e H w outs x a w' := by
 obtain ⟨fr', H', e', hm, hF, hH, hT'⟩ := h;exact ⟨fr', H', e', hsub _ hm, hF, hH, hT.trans hT'⟩
theorem ZdI {P : Program} {b : Frame} {a : Act} {c : Code} {k : List Item} {cs : List Frame} {w : World} {m' : Machine} (h : Steps P (lone (b.atR a (.code (.loop c) :: k)) cs w) m') (hne : m' ≠ lone (b.atR a (.code (.loop c) :: k)) cs w) :
 Steps P (lone (b.atR a (.inLoop c :: k)) cs w) m' := by
 obtain ⟨n, hn⟩ := h;cases n with
 | zero => simp only [runN] at hn; injection hn with hn; exact absurd hn.symm hne
 | succ n =>
  refine ⟨n + 1, ?_⟩;simp only [runN, stepR_loop] at hn;simp only [runN, stepR_inLoop];exact hn
theorem Zgg {b b' : Frame} {a a' : Act} {t t' : List Item} {cs cs' : List Frame} {w w' : World} (h : lone (b.atR a t) cs w = lone (b'.atR a' t') cs' w') : t = t' := by
 simp only [lone, Machine.mk.injEq, Array.mk.injEq, List.cons.injEq, Goroutine.mk.injEq] at h;have := h.2.1.1.1;simp only [Frame.atR, Frame.mk.injEq] at this;exact this.2.2.1
section
variable {P : Program} {X : XP} (ok : XPok P X) {R : Rec} (hR : RecOk P P.globals.size R)
include hR in
theorem seq_ok {rd ro : Option Nat} {fid : FuncId} {L : Zag} {fr : Fr} {H : AHeap} {c1 c2 : Code} {outs : List (XE × Fr × AHeap)}
 (h : ZpW (fun fr H => R.code rd fid L fr H c2) (R.code rd fid L fr H c1) = some outs) {e : Env} {a : Act} {w : World} (hF : FR e fr a) (hH : HR P.globals.size e L H.objs.get H.next w) (hro : ZkP e rd ro) :
 Zdn P fid ro (.seq c1 c2) (ZaN P.globals.size L e H w outs) a w := by
 obtain ⟨l, hl, hb⟩ := Zhe h;intro b k cs hb1 hb2 hb3;obtain ⟨x, a1, w1, ⟨fr1, H1, e1, hm, hF1, hH1, hT1⟩, harr⟩ := hR.code _ _ _ _ _ _ _ hl e a w ro hF hH hro b (.code c2 :: k) cs hb1 hb2 hb3;rcases Zhd hb x fr1 H1 hm with ⟨rfl, o, ho, hsub⟩ | ⟨hx, hm'⟩
 ·obtain ⟨x2, a2, w2, hout, harr2⟩ := hR.code _ _ _ _ _ _ _ ho e1 a1 w1 ro hF1 hH1 (hro.le hT1.le) b k cs hb1 hb2 hb3;exact ⟨x2, a2, w2, hout.trans hT1 hsub, .of_steps (.head stepR_seq harr) harr2⟩
 ·exact ⟨x, a1, w1, ⟨fr1, H1, e1, hm', hF1, hH1, hT1⟩, .of_steps (.one stepR_seq) (.pass (fun _ => rfl) hx harr)⟩
include hR in
theorem Zo5 {rd ro : Option Nat} {fid : FuncId} {L : Zag} {fr : Fr} {H : AHeap} {c : Code} {outs : List (XE × Fr × AHeap)}
 (h : ZpW (fun fr H => R.code rd fid L fr H (.loop c)) (R.code rd fid L fr H c) = some outs) {e : Env} {a : Act} {w : World} (hF : FR e fr a) (hH : HR P.globals.size e L H.objs.get H.next w) (hro : ZkP e rd ro) :
 Zdn P fid ro (.loop c) (ZaN P.globals.size L e H w outs) a w := by
 obtain ⟨l, hl, hb⟩ := Zhe h;intro b k cs hb1 hb2 hb3;obtain ⟨x, a1, w1, ⟨fr1, H1, e1, hm, hF1, hH1, hT1⟩, harr⟩ := hR.code _ _ _ _ _ _ _ hl e a w ro hF hH hro b (.inLoop c :: k) cs hb1 hb2 hb3;rcases Zhd hb x fr1 H1 hm with ⟨rfl, o, ho, hsub⟩ | ⟨hx, hm'⟩
 ·obtain ⟨x2, a2, w2, hout, harr2⟩ := hR.code _ _ _ _ _ _ _ ho e1 a1 w1 ro hF1 hH1 (hro.le hT1.le) b k cs hb1 hb2 hb3;refine ⟨x2, a2, w2, hout.trans hT1 hsub, ?_⟩;have h1 : Steps P (lone (b.atR a (.code (.loop c) :: k)) cs w) (lone (b.atR a1 (.inLoop c :: k)) cs w1) := .head stepR_loop harr;cases x2 with
  | normal => exact Steps.trans h1 (ZdI harr2 (fun he => by have := congrArg List.length (Zgg he); simp at this))
  | exit id => obtain ⟨t, g1, g2⟩ := harr2; exact ⟨t, g1, Steps.trans h1 (ZdI g2 (fun he => by have := Zgg he; simp at this))⟩
  | ret => obtain ⟨t, g2⟩ := harr2; exact ⟨t, Steps.trans h1 (ZdI g2 (fun he => by have := Zgg he; simp at this))⟩
 ·exact ⟨x, a1, w1, ⟨fr1, H1, e1, hm', hF1, hH1, hT1⟩, .of_steps (.one stepR_loop) (.pass (fun _ => rfl) hx harr)⟩
include hR in
theorem Zm8 {rd ro : Option Nat} {fid : FuncId} {L : Zag} {fr : Fr} {H : AHeap} {c : Code} {id : Nat} {outs : List (XE × Fr × AHeap)}
 (h : Zi5 id (R.code rd fid L fr H c) = some outs) {e : Env} {a : Act} {w : World} (hF : FR e fr a) (hH : HR P.globals.size e L H.objs.get H.next w) (hro : ZkP e rd ro) :
 Zdn P fid ro (.block id c) (ZaN P.globals.size L e H w outs) a w := by
 cases hl : R.code rd fid L fr H c with
 | none => rw [hl] at h; simp [Zi5] at h
 | some l =>
  rw [hl] at h;simp only [Zi5, Option.some.injEq] at h; subst h;intro b k cs hb1 hb2 hb3;obtain ⟨x, a1, w1, ⟨fr1, H1, e1, hm, hF1, hH1, hT1⟩, harr⟩ := hR.code _ _ _ _ _ _ _ hl e a w ro hF hH hro b (.inBlock id :: k) cs hb1 hb2 hb3;have hm' := List.mem_map_of_mem (f := Zf5 id) hm;cases x with
  | normal => exact ⟨.normal, a1, w1, ⟨fr1, H1, e1, hm', hF1, hH1, hT1⟩, .head stepR_block (Steps.trans harr (.one stepR_inBlock))⟩
  | ret => obtain ⟨t, h2⟩ := harr; exact ⟨.ret, a1, w1, ⟨fr1, H1, e1, hm', hF1, hH1, hT1⟩, t, .head stepR_block h2⟩
  | exit i =>
   obtain ⟨t, h1, h2⟩ := harr;simp only [Zf5, Zaw] at hm'
   by_cases hid : i = id
   ·rw [ZbK hid] at hm';simp only [cond_true] at hm';have : exitTo i (.inBlock id :: k) = some k := by simp [exitTo, hid]
    rw [this] at h1;exact ⟨.normal, a1, w1, ⟨fr1, H1, e1, hm', hF1, hH1, hT1⟩, .head stepR_block (Steps.trans h2 (.one (stepR_exit h1)))⟩
   ·rw [Zbx hid] at hm';simp only [cond_false] at hm';have : exitTo i (.inBlock id :: k) = exitTo i k := by
     have : (id == i) = false := by simp; exact fun h => hid h.symm
     simp [exitTo, this]
    rw [this] at h1;exact ⟨.exit i, a1, w1, ⟨fr1, H1, e1, hm', hF1, hH1, hT1⟩, t, h1, .head stepR_block h2⟩
include ok hR in
theorem Zo6 {rd ro : Option Nat} {fid : FuncId} {L : Zag} {fr : Fr} {H : AHeap} {c1 c2 : Code} {x : Operand} {outs : List (XE × Fr × AHeap)}
 (h : ZoQ (R.code rd fid L fr H c1) (R.code rd fid L fr H c2) (Zdy X fr.tm x) = some outs) {e : Env} {a : Act} {w : World} (hF : FR e fr a) (hH : HR P.globals.size e L H.objs.get H.next w) (hro : ZkP e rd ro) :
 Zdn P fid ro (.cond x c1 c2) (ZaN P.globals.size L e H w outs) a w := by
 have hev := Zem ok hF hH.glob;intro b k cs hb1 hb2 hb3;unfold ZoQ at h
 split at h
 ·rename_i hx;have hρ := Zck (hev _ _ hx);obtain ⟨x', a1, w1, hout, harr⟩ := hR.code _ _ _ _ _ _ _ h e a w ro hF hH hro b k cs hb1 hb2 hb3;exact ⟨x', a1, w1, hout, .of_steps (.one (stepR_cond hρ)) harr⟩
 ·rename_i hx;have hρ := Zck (hev _ _ hx);obtain ⟨x', a1, w1, hout, harr⟩ := hR.code _ _ _ _ _ _ _ h e a w ro hF hH hro b k cs hb1 hb2 hb3;exact ⟨x', a1, w1, hout, .of_steps (.one (stepR_cond hρ)) harr⟩
 ·cases h
theorem ZcZ {b : Frame} {a : Act} {c : Code} {k : List Item} {cs : List Frame} {w : World} : step P (lone (b.atR a (.code (.scope c) :: k)) cs w) = .next (lone (b.atR a (.code c :: .inScope c :: k)) cs w) :=
 step_lone_go (by simp [stepG, stepG.exec, Frame.atR])
theorem Zgh {b : Frame} {a : Act} {c : Code} {k : List Item} {cs : List Frame} {w : World} : step P (lone (b.atR a (.inScope c :: k)) cs w) = .next (lone (b.atR a k) cs w) :=
 step_lone_go (by simp [stepG, stepG.exec, Frame.atR])
include hR in
theorem Zm9 {rd ro : Option Nat} {fid : FuncId} {L : Zag} {fr : Fr} {H : AHeap} {c : Code} {outs : List (XE × Fr × AHeap)}
 (h : R.code rd fid L fr H c = some outs) {e : Env} {a : Act} {w : World} (hF : FR e fr a) (hH : HR P.globals.size e L H.objs.get H.next w) (hro : ZkP e rd ro) :
 Zdn P fid ro (.scope c) (ZaN P.globals.size L e H w outs) a w := by
 intro b k cs hb1 hb2 hb3;obtain ⟨x, a1, w1, hout, harr⟩ := hR.code _ _ _ _ _ _ _ h e a w ro hF hH hro b (.inScope c :: k) cs hb1 hb2 hb3;refine ⟨x, a1, w1, hout, ?_⟩;cases x with
 | normal => exact .head ZcZ (Steps.trans harr (.one Zgh))
 | exit id => exact .of_steps (.one ZcZ) (.pass (x := .exit id) (fun _ => rfl) (by simp) harr)
 | ret => exact .of_steps (.one ZcZ) (.pass (x := .ret) (fun _ => rfl) (by simp) harr)
end
end
end Go.X

/- Functions: entering, leaving, results. -/
namespace Go.X
noncomputable section
set_option linter.unusedSectionVars false
theorem Zna : ∀ (vs : List AV) (n : Nat) (t : Tr AV), ZjH n vs t = t.put n vs := by
 intro vs
 induction vs with
 | nil => intro n t; rfl
 | cons v vs ih => intro n t; simp only [ZjH, Tr.put]; exact ih _ _
theorem Znb {e : Env} {as : List AV} {vs : List Value} (h : cvs e as = some vs) (nt : Nat) : Zia e (ZjH 0 as .nil) (Nat.max as.length nt) (vs.toArray ++ Array.replicate (nt - vs.toArray.size) Go.undef) := by
 have hl := Zal h;refine ⟨?_, fun i => ?_⟩
 ·simp only [Array.size_append, List.size_toArray, Array.size_replicate, hl];show as.length + (nt - as.length) = max as.length nt;omega
 ·rw [Zna];unfold Tr.getU;rw [Tr.get_put];simp only [Nat.zero_le, Nat.zero_add, true_and, Nat.sub_zero]
  by_cases hi : i < as.length
  ·rw [if_pos hi];obtain ⟨y, hy, hx⟩ := Zby h i as[i] (by simp [hi])
   simp only [List.getElem?_eq_getElem hi];rw [hy];simp only [Array.getD_eq_getD_getElem?];rw [Array.getElem?_append_left (by simpa [hl] using hi)]
   simp [hx]
  ·rw [if_neg hi];simp only [Tr.get_nil, cv]
   congr 1
   simp only [Array.getD_eq_getD_getElem?];rw [Array.getElem?_append_right (by simp [hl]; omega)]
   simp only [Array.getElem?_replicate]
   split <;> rfl
theorem HR.dropWrite {NG : Nat} {e : Env} {L : Zag} {G : Nat → Option AObj} {n : Nat} {w w' : World} {d : Nat} {o : AObj} {x : Nat × Nat} (h : HR NG e L G n w) (hd : G d = some o) (hx : e.f d = some x)
 (hsame : ∀ B, B ≠ x.1 → w'.heap[B]? = w.heap[B]?) : HR NG e L (X.upd G d none) n w' := by
 refine ⟨h.dom, ?_, ?_, h.glob⟩
 ·intro c p hc
  by_cases e1 : c = d
  ·subst e1; rw [upd_same] at hc; cases hc
  ·rw [upd_ne _ _ e1] at hc;obtain ⟨y, hy, hO⟩ := h.live c p hc;exact ⟨y, hy, hO.keep (Env.le_refl e) (hsame _ fun he => e1 (h.inj c d p o y x hc hd hy hx he)) rfl⟩
 ·intro c c' p q y z hc hc';exact h.inj c c' p q y z (Sub.drop G d _ _ hc) (Sub.drop G d _ _ hc')
theorem Tran.dropWrite {e : Env} {G : Nat → Option AObj} {n : Nat} {w w' : World} {d : Nat} {o : AObj} {x : Nat × Nat} (hd : G d = some o) (hx : e.f d = some x) (hw : o.wr = true)
 (hsame : ∀ B, B ≠ x.1 → w'.heap[B]? = w.heap[B]?) (hsz : w'.heap.size = w.heap.size) (hos : w'.os = w.os) (htp : w'.tape = w.tape) (hout : w'.output = w.output) : Tran e G n w e (X.upd G d none) n w' where
 le := Env.le_refl e
 old _ _ := rfl
 nx := Nat.le_refl _
 size := by omega
 keep B _ hf := hsame B fun he => hf ⟨d, o, x, hd, hw, hx, he.symm⟩
 foot B hf _ := hf.mono (Sub.drop G d)
 ro c p hc hp := ⟨p, Sub.drop G d _ _ hc, hp⟩
 os := hos
 tape := htp
 output := hout
theorem step_collected {P : Program} {fr : Frame} {B : Nat} {ds : List Deferred} {cs : List Frame} {w : World} (hm : fr.mode = .returning) (hd : fr.defers = { target := .collected B, args := #[] } :: ds) (hb : w.heap[B]? = some (.deferred (some []))) :
 step P (lone fr cs w) = .next (lone { fr with defers := ds } cs { w with heap := w.heap.setIfInBounds B (.deferred none) }) := by
 have hrun : (Instr.takeDeferred B).run P w = .ok [] { w with heap := w.heap.setIfInBounds B (.deferred none) } := by
  simp [Instr.takeDeferred, getObj, setObj, Sem.run, hb, Sem.run_bind]
 refine step_lone_go ?_;simp [stepG, hm, unwind, hd, Sem.runT_eq, hrun]
section
variable {P : Program} {X : XP} (ok : XPok P X)
theorem Zie {L : Zag} : ∀ (ds : List Nat) (H H' : AHeap), Zb5 ds H = some H' → ∀ (e : Env) (w : World) (fr : Frame) (cs : List Frame), fr.mode = .returning → ZeN e ds = some fr.defers → HR P.globals.size e L H.objs.get H.next w →
 ∃ w', HR P.globals.size e L H'.objs.get H'.next w' ∧ Tran e H.objs.get H.next w e H'.objs.get H'.next w' ∧ Steps P (lone fr cs w) (lone { fr with defers := [] } cs w') := by
 intro ds
 induction ds with
 | nil =>
  intro H H' h e w fr cs hm hd hH;simp only [Zb5, Option.some.injEq] at h; subst h;simp only [ZeN, Option.some.injEq] at hd;refine ⟨w, hH, Tran.refl _ _ _ _, ?_⟩;have : ({ fr with defers := [] } : Frame) = fr := by cases fr; simp only at hd; subst hd; rfl
  rw [this]; exact .refl _ _
 | cons d ds ih =>
  intro H H' h e w fr cs hm hd hH;unfold Zb5 at h
  split at h
  ·rename_i hob;simp only [ZeN] at hd;cases hx : e.f d with
   | none => rw [hx] at hd; cases hd
   | some x =>
    cases hr : ZeN e ds with
    | none => rw [hx, hr] at hd; cases hd
    | some r =>
     rw [hx, hr] at hd; simp only [Option.some.injEq] at hd;obtain ⟨x', hx', hO⟩ := hH.live d _ hob;rw [hx] at hx'; cases hx';simp only [Zdx, if_true] at hO;have hst := step_collected (P := P) (cs := cs) hm hd.symm hO;have hsame : ∀ B, B ≠ x.1 → (w.heap.setIfInBounds x.1 (.deferred none))[B]? = w.heap[B]? := fun B hB => Array.getElem?_setIfInBounds_ne (fun h => hB h.symm)
     have hset : (H.set d none).objs.get = X.upd H.objs.get d none := by show (H.objs.set d none).get = _; rw [Zad]
     obtain ⟨w', h1, h2, h3⟩ := ih (H.set d none) H' h e { w with heap := w.heap.setIfInBounds x.1 (.deferred none) } { fr with defers := r } cs hm hr (by rw [hset]; exact hH.dropWrite hob hx hsame)
     refine ⟨w', h1, ?_, .head hst h3⟩;have hT : Tran e H.objs.get H.next w e (H.set d none).objs.get H.next { w with heap := w.heap.setIfInBounds x.1 (.deferred none) } := by
      rw [hset]; exact Tran.dropWrite hob hx rfl hsame (by simp) rfl rfl rfl
     exact hT.trans h2
  ·cases h
include ok in
theorem Zif {L : Zag} {fr : Fr} {H : AHeap} {e : Env} {a : Act} {w : World} (hT : Zia e fr.tm fr.n a.tmps) (hH : HR P.globals.size e L H.objs.get H.next w) (f : ResultVar → Sem Value)
 (hf : f = fun | .tmp t => pure (a.tmps.getD t Go.undef) | .cell p t => do loadVar t (← asAddr (a.tmps.getD p Go.undef))) :
 ∀ (rs : List ResultVar) (vs : List AV), ZbH X fr H rs = some vs → ∃ ys, cvs e vs = some ys ∧ (rs.mapM f).run P w = .ok ys w := by
 intro rs
 induction rs with
 | nil => intro vs h; simp only [ZbH, Option.some.injEq] at h; subst h; exact ⟨[], rfl, by simp⟩
 | cons r rs ih =>
  intro vs h;simp only [ZbH] at h;cases hr : Zf1 X fr H r with
  | none => rw [hr] at h; cases h
  | some v =>
   rw [hr] at h;cases hrs : ZbH X fr H rs with
   | none => rw [hrs] at h; cases h
   | some us =>
    rw [hrs] at h; simp only [Option.some.injEq] at h; subst h;obtain ⟨ys, hys, hrun⟩ := ih us hrs;have h1 : ∃ y, cv e v = some y ∧ (f r).run P w = .ok y w := by
     subst hf;cases r with
     | tmp t =>
      refine ⟨_, ?_, rfl⟩;have := hT.2 t;simp only [Zf1] at hr;simp only [Tr.getU] at this;cases ht : fr.tm.get t with
      | none => rw [ht] at hr this; simp only [Option.some.injEq] at hr; subst hr; exact this
      | some u => rw [ht] at hr this; simp only [Option.some.injEq] at hr; subst hr; exact this
     | cell p t =>
      simp only [Zf1] at hr;have hp := hT.2 p;simp only [Tr.getU] at hp;cases htp : fr.tm.get p with
      | none => rw [htp] at hr; cases hr
      | some u =>
       rw [htp] at hr hp;cases u with
       | ptr b off =>
        simp only at hr hp;obtain ⟨x, y, hx, hy, hl⟩ := Zg2 ok hH hr;obtain ⟨x', hx', hρ⟩ := Zbz hp;rw [hx] at hx'; cases hx';refine ⟨y, hy, ?_⟩;simp only [hρ, asAddr, Sem.run_bind, Sem.run_pure, Result.andThen_ok, hl]
       | _ => simp at hr
    obtain ⟨y, hy, hrun1⟩ := h1;refine ⟨y :: ys, Za2 hy hys, ?_⟩;rw [List.mapM_cons];simp only [Sem.run_bind, hrun1, Result.andThen_ok, hrun, Sem.run_pure]
include ok in
theorem Zke {L : Zag} {fn : Func} {fr : Fr} {H : AHeap} {e : Env} {a : Act} {w : World} (hT : Zia e fr.tm fr.n a.tmps) (hH : HR P.globals.size e L H.objs.get H.next w) {outs : List (AV × AHeap)}
 (h : Zeg H (ZbH X fr H fn.results.toList) = some outs) : ∃ v y, outs = [(v, H)] ∧ cv e v = some y ∧ (results fn a.tmps).run P w = .ok y w := by
 cases hr : ZbH X fr H fn.results.toList with
 | none => rw [hr] at h; simp [Zeg] at h
 | some vs =>
  rw [hr] at h;obtain ⟨ys, hys, hrun⟩ := Zif ok hT hH _ rfl _ _ hr;have hl := Zal hys;have hmap : (fn.results.mapM (fun | .tmp t => pure (a.tmps.getD t Go.undef) | .cell p t => do loadVar t (← asAddr (a.tmps.getD p Go.undef)) : ResultVar → Sem Value)).run P w = .ok ys.toArray w := by
   rw [Array.mapM_eq_mapM_toList, Sem.run_map, hrun]; rfl
  have key : (results fn a.tmps).run P w = .ok (if h : ys.toArray.size = 1 then ys.toArray[0] else .tuple ys.toArray) w := by
   unfold results;rw [Sem.run_bind];exact congrArg (fun r : Result (Array Value) => r.andThen fun a w' => Sem.run P (pure (if h : a.size = 1 then a[0] else Value.tuple a)) w') hmap
  unfold Zeg at h
  split at h
  ·rename_i v heq;simp only [Option.some.injEq] at heq h; subst heq; subst h;obtain ⟨y, z, hy, hz, rfl⟩ := Zap hys;simp only [cvs, Option.some.injEq] at hz; subst hz;exact ⟨v, y, rfl, hy, by rw [key]; rfl⟩
  ·rename_i vs' hne heq;simp only [Option.some.injEq] at heq h; subst heq; subst h;refine ⟨.tup vs, .tuple ys.toArray, rfl, by simp only [cv, hys], ?_⟩
   rw [key, dif_neg];intro h1;simp only [List.size_toArray] at h1;rw [hl] at h1;cases vs with
   | nil => simp at h1
   | cons v vs =>
    cases vs with
    | nil => exact hne v rfl
    | cons v' vs => simp at h1
  ·rename_i heq; cases heq
end
end
end Go.X
