/- Ranges over functions. -/
import Derived.Test.YtnmkiflnonafbaaGreatDoorE9
set_option linter.unusedVariables false
namespace Go.X
noncomputable section
set_option linter.unusedSectionVars false
theorem lookL_ne {L : Loops} {l b : Nat} {c : Code × Code} (h : b ≠ l) : lookL ((l, c.1, c.2) :: L) b = lookL L b := by
 simp only [lookL, brec];rw [nbeq_f (fun he => h he.symm)]; rfl
theorem lookL_eq {L : Loops} {l : Nat} {asg body : Code} : lookL ((l, asg, body) :: L) l = some (asg, body) := by
 simp only [lookL, brec];rw [nbeq_t rfl]; rfl
theorem HR.consL {NG : GP} {e : Env} {L : Loops} {G : Nat → Option AObj} {n : Nat} {w : World} (h : HR NG e L G n w) {l : Nat} (hl : G l = none) (asg body : Code) : HR NG e ((l, asg, body) :: L) G n w where
 dom := h.dom
 live b o hb := by
  obtain ⟨x, hx, hO⟩ := h.live b o hb;have hne : b ≠ l := fun he => by subst he; rw [hl] at hb; cases hb
  exact ⟨x, hx, hO.keep (Env.le_refl e) rfl (lookL_ne (c := (asg, body)) hne)⟩
 inj := h.inj
 glob := h.glob
 ora := h.ora
theorem HR.tailL {NG : GP} {e : Env} {L : Loops} {G : Nat → Option AObj} {n : Nat} {w : World} {l : Nat} {asg body : Code} (h : HR NG e ((l, asg, body) :: L) G n w) (hl : G l = none) : HR NG e L G n w where
 dom := h.dom
 live b o hb := by
  obtain ⟨x, hx, hO⟩ := h.live b o hb;have hne : b ≠ l := fun he => by subst he; rw [hl] at hb; cases hb
  exact ⟨x, hx, hO.keep (Env.le_refl e) rfl (lookL_ne (c := (asg, body)) hne).symm⟩
 inj := h.inj
 glob := h.glob
 ora := h.ora
theorem HR.free {NG : GP} {e : Env} {L : Loops} {G : Nat → Option AObj} {n : Nat} {w : World} (h : HR NG e L G n w) {b : Nat} (hb : n ≤ b) : e.f b = none ∧ G b = none := by
 have h1 : e.f b = none := by
  cases hf : e.f b with
  | none => rfl
  | some x => exact absurd (h.dom _ _ hf) (by omega)
 refine ⟨h1, ?_⟩;cases hg : G b with
 | none => rfl
 | some p => obtain ⟨y, hy, _⟩ := h.live b p hg; rw [h1] at hy; cases hy
section
variable {P : Program} {X : XP} (ok : XPok P X) (okf : FnOk P X) {R : Rec} (hR : RecOk P (gp P X) R)
def BodyCalls (P : Program) (X : XP) (R : Rec) : Prop := ∀ L f first captured args H outs, R.call L (.fn f first captured) args H = some outs → hasBody (X.fns.get f) = true → ∀ e w v1 v2 v3, cvs e first = some v1 → cvs e args = some v2 → cvs e captured = some v3 →
 HR (gp P X) e L H.objs.get H.next w →
 (callFunc f (v1.toArray ++ v2.toArray ++ v3.toArray)).run P w = .ok (.enter f (v1.toArray ++ v2.toArray ++ v3.toArray)) w ∧ Calls P f (v1.toArray ++ v2.toArray ++ v3.toArray) w (fun en w' => en ≠ .outgrown ∧ ValOut (gp P X) L e H w outs en w')
theorem range_core (hB : BodyCalls P X R) {fid : FuncId} {L : Loops} {fr fr' : Fr} {d : Nat} {H0 H : AHeap} {f : FuncId} {first captured : List AV} {ps : Array Tmp} {asg body : Code} {outs : List (XE × Fr × AHeap)} (hbody : hasBody (X.fns.get f) = true)
 (h : range3 R fid L fr fr' d H (.fn f first captured) ps asg body = some outs) {e0 e : Env} {a a' : Act} {w0 w : World} {mark : List Deferred} {v1 v3 : List Value} {xd : Nat × Nat} {g : Operand}
 (h1 : cvs e first = some v1) (h3 : cvs e captured = some v3) (hg : a.eval g = .func (.func f) v1.toArray v3.toArray) (ha' : a' = { a with defers := mark ++ a.defers }) (hF : FR e fr a) (hF' : FR e fr' a')
 (hH : HR (gp P X) e L H.objs.get H.next w) (hT0 : Tran e0 H0.objs.get H0.next w0 e H.objs.get H.next w) (hd : e.f d = some xd) {b : Frame} {k : List Item} {cs : List Frame} (hb1 : b.fn = fid)
 (henter : (Instr.enterLoop b.fn a.tmps ps asg body b.roundOf).run P w0 = .ok (w.heap.size, mark) { w with heap := w.heap.push (.loop { state := .ready, pending := none, fn := fid, tmps := a.tmps, params := ps, assign := asg, body := body, defers := xd.1 }) }) :
 ∃ x a1 w1, CodeOut (gp P X) L e0 H0 w0 outs x a1 w1 ∧ Arr P (lone (b.atR a (.code (.rangeFunc g ps asg body) :: k)) cs w0) b k cs x a1 w1 := by
 unfold range3 at h;obtain ⟨l1, hl1⟩ := bindOuts_some h;rw [hl1] at h;obtain ⟨hfree, hGfree⟩ := hH.free (Nat.le_refl H.next);have hle := Env.le_ext hfree (w.heap.size, 0)
 let w2 : World := { w with heap := w.heap.push (.loop { state := .ready, pending := none, fn := fid, tmps := a.tmps, params := ps, assign := asg, body := body, defers := xd.1 }) }
 have hnd : (noDefs fr).tm = fr.tm ∧ (noDefs fr).n = fr.n := by cases fr; exact ⟨rfl, rfl⟩
 have hne : d ≠ H.next := fun he => by subst he; rw [hfree] at hd; cases hd
 have hO : ObjR (e.ext H.next (w.heap.size, 0)) ((H.next, asg, body) :: L) H.next (w.heap.size, 0) w2 (.loop .ready none fid (noDefs fr) ps.toList d) := by
  refine ⟨asg, body, xd, a.tmps, lookL_eq, by rw [Env.ext_ne _ _ hne]; exact hd, ?_, ?_⟩
  ·simp [w2]
  ·rw [hnd.1, hnd.2]; exact hF.tm.le hle
 have hH2 : HR (gp P X) (e.ext H.next (w.heap.size, 0)) ((H.next, asg, body) :: L) (H.new (.loop .ready none fid (noDefs fr) ps.toList d)).objs.get (H.next + 1) w2 := by
  show HR _ _ _ (H.objs.set H.next _).get _ _;rw [get_set_upd];exact HR.alloc ((hH.consL hGfree asg body).bump (Nat.le_succ _)) hfree (Nat.lt_succ_self _) rfl hO
 have hT2 : Tran e H.objs.get H.next w (e.ext H.next (w.heap.size, 0)) (H.new (.loop .ready none fid (noDefs fr) ps.toList d)).objs.get (H.next + 1) w2 := by
  show Tran _ _ _ _ _ (H.objs.set H.next _).get _ _;rw [get_set_upd];exact Tran.alloc hfree (Nat.le_refl _) (Nat.le_succ _) rfl rfl rfl rfl rfl
 have hyld : cvs (e.ext H.next (w.heap.size, 0)) [.yld H.next] = some [.func (.yield w.heap.size) #[] #[]] := by
  simp only [cvs, cv, Env.ext_same]
 obtain ⟨hcf, hcalls⟩ := hB _ _ _ _ _ _ _ hl1 hbody _ w2 v1 _ v3 (cvs_le hle _ _ h1) hyld (cvs_le hle _ _ h3) hH2;have hres : (resolve a.eval (rangeCall g w.heap.size) 0).run P w2 = .ok { target := .fn (.func f) v3.toArray, args := v1.toArray ++ #[.func (.yield w.heap.size) #[] #[]] } w2 := by
  have hargs : (#[Operand.const (.func (.yield w.heap.size) #[] #[])]).map a.eval = #[Value.func (.yield w.heap.size) #[] #[]] := by simp [Act.eval]
  show (Deferred.ofValue (a.eval g) ((#[Operand.const (.func (.yield w.heap.size) #[] #[])]).map a.eval)).run P w2 = _;rw [hg, hargs]; rfl
 have hinv : (invoke (.fn (.func f) v3.toArray) (v1.toArray ++ #[.func (.yield w.heap.size) #[] #[]])).run P w2 = .ok (.enter f (v1.toArray ++ [Value.func (.yield w.heap.size) #[] #[]].toArray ++ v3.toArray)) w2 := by
  simp only [invoke]; exact hcf
 have hstep := stepR_rangeFunc (P := P) (b := b) (a := a) (k := k) (cs := cs) (w := w0) henter hres hinv;obtain ⟨en, w3, frl, ⟨hne3, v, H3, hm, e3, hend3, hH3, hT3⟩, hcomes, _, hleave⟩ := hcalls (b.atR { a with defers := mark ++ a.defers } (.inRangeFunc w.heap.size :: k) :: cs)
 obtain ⟨o, ho, hsub⟩ := bindOuts_mem h _ hm;have hnp : ∀ u, v ≠ .pan u := by
  intro u hu;subst hu;simp [endLoopA, endLoop1] at ho
 have ho' : endLoop2 H.next fr' H3 (H3.objs.get H.next) = some o := by
  unfold endLoopA endLoop1 at ho
  split at ho
  ·rename_i u hu; exact absurd hu (hnp u)
  ·exact ho
 clear ho;have ho := ho';obtain ⟨y, hy, rfl⟩ := endR_not hend3 hnp;have hx3 : e3.f H.next = some (w.heap.size, 0) := hT3.le.1 _ _ (Env.ext_same _ _ _);have hback : Steps P (lone (b.atR a (.code (.rangeFunc g ps asg body) :: k)) cs w0) (lone (b.atR a' (.endRangeFunc w.heap.size :: k)) cs w3) := by
  refine .head hstep (Steps.trans hcomes (.one ?_));rw [ha', ← finish_atR_inRangeFunc w.heap.size y]; exact step_leave_returned hleave
 have fin : ∀ (st : LoopState) (pend : Option XE) (fn' : FuncId) (frr : Fr) (pp : List Tmp) (dd : Nat), H3.objs.get H.next = some (.loop st pend fn' frr pp dd) → st ≠ .busy →
  ∃ w4, (Instr.endLoop w.heap.size).run P w3 = .ok (pend.map XE.toCode) w4 ∧ FR e3 fr' a' ∧ HR (gp P X) e3 L (H3.set H.next none).objs.get (H3.set H.next none).next w4 ∧
   Tran e0 H0.objs.get H0.next w0 e3 (H3.set H.next none).objs.get (H3.set H.next none).next w4 := by
  intro st pend fn' frr pp dd hob hst;obtain ⟨r, q0, q1, q2, _⟩ := setLoop_ok (st' := .exhausted) (pend' := pend) hH3 hx3 hob;have hsame : ∀ B, B ≠ w.heap.size → (w3.heap.setIfInBounds w.heap.size (.loop { r with state := .exhausted }))[B]? = w3.heap[B]? := fun B hB => Array.getElem?_setIfInBounds_ne (fun h => hB h.symm)
  have hset : (H3.set H.next none).objs.get = upd H3.objs.get H.next none := by show (H3.objs.set H.next none).get = _; rw [get_set_upd]
  refine ⟨{ w3 with heap := w3.heap.setIfInBounds w.heap.size (.loop { r with state := .exhausted }) }, ?_, (hF'.le (Env.le_trans hle hT3.le)), ?_, ?_⟩
  ·have hnb : (r.state == .busy) = false := by rw [q1]; simpa using hst
   have q0' : w3.heap[w.heap.size]? = some (.loop r) := q0;simp only [Instr.endLoop, Sem.run_bind, getLoop_run q0', Result.andThen_ok, hnb, Bool.false_eq_true, if_false, setObj_loop q0', Sem.run_pure, q2]
  ·rw [hset];exact (hH3.dropWrite hob hx3 rfl hsame).tailL (by rw [upd_same])
  ·rw [hset];exact (hT0.trans (hT2.trans hT3)).trans (Tran.dropWrite hob hx3 rfl hsame (by simp) rfl rfl rfl)
 unfold endLoop2 at ho
 split at ho
 ·cases ho
 ·rename_i st fn' frr pp dd hnb hob;simp only [Option.some.injEq] at ho; subst ho;obtain ⟨w4, hend, hF4, hH4, hT4⟩ := fin st none fn' frr pp dd hob (fun he => hnb he)
  refine ⟨.normal, a', w4, ⟨fr', _, e3, hsub _ (by simp), hF4, hH4, hT4⟩, ?_⟩
  exact Steps.trans hback (.one (stepR_endRangeFunc hend))
 ·cases ho
 ·rename_i st x fn' frr pp dd hnb hnpan hob;simp only [Option.some.injEq] at ho; subst ho;obtain ⟨w4, hend, hF4, hH4, hT4⟩ := fin st (some x) fn' frr pp dd hob (fun he => hnb he)
  have hs4 : Steps P (lone (b.atR a (.code (.rangeFunc g ps asg body) :: k)) cs w0) (lone (b.atR a' (.code x.toCode :: k)) cs w4) := Steps.trans hback (.one (stepR_endRangeFunc hend));refine ⟨x, a', w4, ⟨fr', _, e3, hsub _ (by simp), hF4, hH4, hT4⟩, ?_⟩
  cases x with
  | normal => exact Steps.trans hs4 (.one stepR_skip)
  | exit id => exact ⟨k, rfl, hs4⟩
  | ret => exact ⟨k, hs4⟩
  | pan v => exact absurd rfl (hnpan v)
 ·cases ho
include ok in
theorem range_ok (hB : BodyCalls P X R) {rd ro : Option Nat} {fid : FuncId} {L : Loops} {fr : Fr} {H : AHeap} {g : Operand} {ps : Array Tmp} {asg body : Code} {outs : List (XE × Fr × AHeap)}
 (h : rangeA X R rd fid L fr H ps asg body (evalA X fr.tm g) = some outs) {e : Env} {a : Act} {w : World} (hF : FR e fr a) (hH : HR (gp P X) e L H.objs.get H.next w) (hro : RdOk e rd ro) :
 CodeWP P fid ro (.rangeFunc g ps asg body) (CodeOut (gp P X) L e H w outs) a w := by
 intro b k cs hb1 hb3;have hev := evalA_ok ok hF hH.glob;unfold rangeA at h
 split at h
 ·rename_i f first captured hfv
  simp only [brec] at h;cases hbody : hasBody (X.fns.get f) with
  | false => rw [hbody] at h; cases h
  | true =>
   rw [hbody] at h; simp only [cond_true] at h;obtain ⟨v1, v3, h1, h3, hg⟩ := cv_fn (hev _ _ hfv);unfold range2 at h
   split at h
   ·
    simp only [RdOk] at hro;obtain ⟨hfree, hGfree⟩ := hH.free (Nat.le_refl H.next);have hle := Env.le_ext hfree (w.heap.size, 0)
    let w1 : World := { w with heap := w.heap.push (.deferred (some [])) }
    have hH1 : HR (gp P X) (e.ext H.next (w.heap.size, 0)) L (H.new (.defr true)).objs.get (H.next + 1) w1 := by
     show HR _ _ _ (H.objs.set H.next _).get _ _;rw [get_set_upd];exact HR.alloc (hH.bump (Nat.le_succ _)) hfree (Nat.lt_succ_self _) rfl (by simp [ObjR, w1])
    have hT1 : Tran e H.objs.get H.next w (e.ext H.next (w.heap.size, 0)) (H.new (.defr true)).objs.get (H.next + 1) w1 := by
     show Tran _ _ _ _ _ (H.objs.set H.next _).get _ _;rw [get_set_upd];exact Tran.alloc hfree (Nat.le_refl _) (Nat.le_succ _) rfl rfl rfl rfl rfl
    have hF' : FR (e.ext H.next (w.heap.size, 0)) (pushDef fr H.next) { a with defers := [{ target := .collected w.heap.size, args := #[] }] ++ a.defers } := by
     have hFl := hF.le hle;obtain ⟨tm, n, ds⟩ := fr;refine ⟨hFl.tm, ?_⟩;have := hFl.defs;simp only at this;simp only [pushDef, defsC, dfC, Env.ext_same, this]; rfl
    exact range_core hB hbody h (cvs_le hle _ _ h1) (cvs_le hle _ _ h3) hg rfl (hF.le hle) hF' hH1 hT1 (Env.ext_same _ _ _) hb1 (by
     rw [hb3, hro, hb1]
     simp [Instr.enterLoop, w1]; rfl)
   ·rename_i l;obtain ⟨x, hx, hro'⟩ := hro
    split at h
    ·rename_i d hd;unfold loopDfr at hd
     split at hd
     ·rename_i st pend fn' frr pp dd hob;simp only [Option.some.injEq] at hd; subst hd;obtain ⟨r, q0, q1, q2, q3, q4, q5, q6, ⟨xd, hxd, hrd⟩, _⟩ := setLoop_ok (st' := .ready) (pend' := none) hH hx hob
      exact range_core hB hbody h h1 h3 hg (mark := []) rfl hF hF hH (Tran.refl _ _ _ _) hxd hb1 (by
       rw [hb3, hro', hb1]
       simp [Instr.enterLoop, getLoop_run q0, hrd])
     ·cases hd
    ·cases h
 ·cases h
end
end
end Go.X

/- Merging outcomes. -/
namespace Go.X
noncomputable section
set_option linter.unusedSectionVars false
theorem strEq_of : ∀ {a b : List Nat}, strEq a b = true → a = b := by
 intro a
 induction a with
 | nil => intro b h; cases b with
  | nil => rfl
  | cons => simp [strEq] at h
 | cons x a ih =>
  intro b h;cases b with
  | nil => simp [strEq] at h
  | cons y b =>
   simp only [strEq, Bool.and_eq_true] at h;rw [nbeq_of h.1, ih h.2]
theorem Cap.same_of {a b : Cap} (h : a.same b = true) : a = b := by
 cases a <;> cases b <;> simp only [Cap.same, Bool.false_eq_true] at h <;> rw [nbeq_of h]
mutual
theorem AV.same_of : ∀ (a b : AV), a.same b = true → a = b
 | .undef, b, h => by cases b <;> simp [AV.same] at h; rfl
 | .bool x, b, h => by cases b <;> simp [AV.same] at h; rw [h]
 | .int k n, b, h => by
  cases b <;> simp only [AV.same, Bool.false_eq_true, Bool.and_eq_true, iEq_eq] at h
  rw [kEq_of h.1, eq_of_beq h.2]
 | .str s, b, h => by cases b <;> simp only [AV.same, Bool.false_eq_true] at h; rw [strEq_of h]
 | .nilp, b, h => by cases b <;> simp [AV.same] at h; rfl
 | .nils, b, h => by cases b <;> simp [AV.same] at h; rfl
 | .nilm, b, h => by cases b <;> simp [AV.same] at h; rfl
 | .nilf, b, h => by cases b <;> simp [AV.same] at h; rfl
 | .nili, b, h => by cases b <;> simp [AV.same] at h; rfl
 | .ptr x y, b, h => by
  cases b <;> simp only [AV.same, Bool.false_eq_true, Bool.and_eq_true] at h
  rw [nbeq_of h.1, nbeq_of h.2]
 | .sl x y z c, b, h => by
  cases b <;> simp only [AV.same, Bool.false_eq_true, Bool.and_eq_true] at h
  rw [nbeq_of h.1.1.1, nbeq_of h.1.1.2, nbeq_of h.1.2, Cap.same_of h.2]
 | .fn f x y, b, h => by
  cases b <;> simp only [AV.same, Bool.false_eq_true, Bool.and_eq_true] at h
  rw [nbeq_of h.1.1, AV.sames_of _ _ h.1.2, AV.sames_of _ _ h.2]
 | .yld x, b, h => by cases b <;> simp only [AV.same, Bool.false_eq_true] at h; rw [nbeq_of h]
 | .mpr x, b, h => by cases b <;> simp only [AV.same, Bool.false_eq_true] at h; rw [nbeq_of h]
 | .ifc t v, b, h => by
  cases b <;> simp only [AV.same, Bool.false_eq_true, Bool.and_eq_true] at h
  rw [nbeq_of h.1, AV.same_of _ _ h.2]
 | .agg x, b, h => by cases b <;> simp only [AV.same, Bool.false_eq_true] at h; rw [AV.sames_of _ _ h]
 | .tup x, b, h => by cases b <;> simp only [AV.same, Bool.false_eq_true] at h; rw [AV.sames_of _ _ h]
 | .capOf x y, b, h => by
  cases b <;> simp only [AV.same, Bool.false_eq_true, Bool.and_eq_true] at h
  rw [nbeq_of h.1, nbeq_of h.2]
 | .sym x, b, h => by cases b <;> simp only [AV.same, Bool.false_eq_true] at h; rw [nbeq_of h]
 | .res x c, b, h => by
  cases b <;> simp only [AV.same, Bool.false_eq_true, Bool.and_eq_true] at h
  rw [nbeq_of h.1, RC.same_of h.2]
 | .asl x i lo hi, b, h => by
  cases b <;> simp only [AV.same, Bool.false_eq_true, Bool.and_eq_true] at h
  rw [nbeq_of h.1.1.1, nbeq_of h.1.1.2, nbeq_of h.1.2, nbeq_of h.2]
 | .eptr x y, b, h => by
  cases b <;> simp only [AV.same, Bool.false_eq_true, Bool.and_eq_true] at h
  rw [nbeq_of h.1, nbeq_of h.2]
 | .pan v, b, h => by
  cases b <;> simp only [AV.same, Bool.false_eq_true] at h
  rw [AV.same_of _ _ h]
theorem AV.sames_of : ∀ (a b : List AV), AV.sames a b = true → a = b
 | [], b, h => by cases b <;> simp [AV.sames] at h; rfl
 | x :: a, b, h => by
  cases b with
  | nil => simp [AV.sames] at h
  | cons y b =>
   simp only [AV.sames, Bool.and_eq_true] at h;rw [AV.same_of _ _ h.1, AV.sames_of _ _ h.2]
end
theorem Tr.isEmpty_get {α : Type} : ∀ (t : Tr α), t.isEmpty = true → ∀ n, t.get n = none := by
 intro t
 induction t with
 | nil => intro _ n; rfl
 | node v l r ihl ihr =>
  intro h n;simp only [Tr.isEmpty, Bool.and_eq_true] at h;rw [Tr.get_node]
  split
  ·simpa using h.1.1
  ·split
   ·exact ihl h.1.2 _
   ·exact ihr h.2 _
theorem Tr.sub_get {α : Type} {f : α → α → Bool} : ∀ (t t' : Tr α), t.sub f t' = true → ∀ n x, t.get n = some x → ∃ y, t'.get n = some y ∧ f x y = true := by
 intro t
 induction t with
 | nil => intro t' _ n x hx; cases hx
 | node v l r ihl ihr =>
  intro t' h n x hx;cases t' with
  | nil =>
   simp only [Tr.sub] at h;rw [Tr.isEmpty_get _ h] at hx; cases hx
  | node v' l' r' =>
   simp only [Tr.sub, Bool.and_eq_true] at h;rw [Tr.get_node] at hx ⊢
   by_cases h0 : n = 0
   ·rw [if_pos h0] at hx ⊢;have := h.1.1;rw [hx] at this;cases v' with
    | none => simp [optSub] at this
    | some y => exact ⟨y, rfl, this⟩
   ·rw [if_neg h0] at hx ⊢
    by_cases h1 : n % 2 = 1
    ·rw [if_pos h1] at hx ⊢; exact ihl l' h.1.2 _ _ hx
    ·rw [if_neg h1] at hx ⊢; exact ihr r' h.2 _ _ hx
theorem optSame_of {α : Type} {f : α → α → Bool} (hf : ∀ a b, f a b = true → a = b) {a b : Option α} (h : optSame f a b = true) : a = b := by
 cases a <;> cases b <;> simp only [optSame, Bool.false_eq_true] at h
 ·rfl
 ·rw [hf _ _ h]
theorem MEs.same_of : ∀ (a b : List ME), MEs.same a b = true → a = b
 | [], [], _ => rfl
 | x :: a, y :: b, h => by
  simp only [MEs.same, Bool.and_eq_true] at h;obtain ⟨⟨⟨h1, h2⟩, h3⟩, h4⟩ := h;have e1 := AV.same_of _ _ h1;have e2 := AV.same_of _ _ h2;have e3 := nbeq_of h3;rw [MEs.same_of a b h4];cases x; cases y; simp only at e1 e2 e3; rw [e1, e2, e3]
 | [], _ :: _, h => by cases h
 | _ :: _, [], h => by cases h
theorem AObj.sub_ok {o1 o2 : AObj} (h : AObj.sub o1 o2 = true) : o1.wr = o2.wr ∧ ∀ {e : Env} {L : Loops} {b : Nat} {x : Nat × Nat} {w : World}, ObjR e L b x w o2 → ObjR e L b x w o1 := by
 cases o1 with
 | blk el ro sz cells =>
  cases o2 with
  | blk el' ro' sz' cells' =>
   simp only [AObj.sub, Bool.and_eq_true] at h;obtain ⟨⟨⟨h1, h2⟩, h3⟩, h4⟩ := h;have e1 := nbeq_of h1;have e2 : ro = ro' := eq_of_beq h2;have e3 : sz = sz' := by
    cases sz <;> cases sz' <;> simp only [Sz.same, Bool.false_eq_true, Bool.and_eq_true] at h3
    ·rw [nbeq_of h3]
    ·rw [nbeq_of h3.1.1, nbeq_of h3.2, optSame_of (fun a b h => nbeq_of h) h3.1.2]
   subst e1; subst e2; subst e3;refine ⟨rfl, fun {e L b x w} hO => ?_⟩
   obtain ⟨c, fz, g1, g2, g3, g4⟩ := hO;refine ⟨c, fz, g1, g2, g3, fun i v hv => ?_⟩
   obtain ⟨v', hv', hs⟩ := Tr.sub_get cells cells' h4 i v hv;rw [AV.same_of _ _ hs];exact g4 i v' hv'
  | _ => simp [AObj.sub] at h
 | loop st p f fr ps d =>
  cases o2 with
  | loop st' p' f' fr' ps' d' =>
   simp only [AObj.sub, Bool.and_eq_true] at h;obtain ⟨⟨⟨⟨⟨h1, h2⟩, h3⟩, h4⟩, h5⟩, h6⟩ := h;have e1 : st = st' := eq_of_beq h1;have e2 : p = p' := optSame_of (fun a b h => by cases a <;> cases b <;> simp only [XE.same, Bool.false_eq_true] at h <;> first | rfl | rw [nbeq_of h]) h2
   have e3 := nbeq_of h3;have e5 : ps = ps' := strEq_of h5;have e6 := nbeq_of h6;subst e1; subst e2; subst e3; subst e5; subst e6;simp only [Fr.sub, Bool.and_eq_true] at h4;obtain ⟨⟨k1, k2⟩, k3⟩ := h4;refine ⟨rfl, fun {e L b x w} hO => ?_⟩
   obtain ⟨asg, body, xd, t, g1, g2, g3, g4⟩ := hO;refine ⟨asg, body, xd, t, g1, g2, g3, ?_⟩;refine ⟨by rw [nbeq_of k3]; exact g4.1, fun i => ?_⟩
   have : fr.tm.getU i = fr'.tm.getU i := by
    unfold Tr.getU;cases hi : fr.tm.get i with
    | some v =>
     obtain ⟨v', hv', hs⟩ := Tr.sub_get _ _ k1 i v hi;rw [hv', AV.same_of _ _ hs]
    | none =>
     cases hi' : fr'.tm.get i with
     | none => rfl
     | some v' => obtain ⟨v, hv, _⟩ := Tr.sub_get _ _ k2 i v' hi'; rw [hi] at hv; cases hv
   rw [this]; exact g4.2 i
  | _ => simp [AObj.sub] at h
 | defr a =>
  cases o2 with
  | defr b =>
   simp only [AObj.sub] at h;have := eq_of_beq h;subst this;exact ⟨rfl, fun {e L b x w} hO => hO⟩
  | _ => simp [AObj.sub] at h
 | siter s p =>
  cases o2 with
  | siter s' p' =>
   simp only [AObj.sub, Bool.and_eq_true] at h;rw [strEq_of h.1, nbeq_of h.2];exact ⟨rfl, fun {e L b x w} hO => hO⟩
  | _ => simp [AObj.sub] at h
 | mobj es c =>
  cases o2 with
  | mobj es' c' =>
   simp only [AObj.sub, Bool.and_eq_true] at h;rw [MEs.same_of _ _ h.1, nbeq_of h.2];exact ⟨rfl, fun {e L b x w} hO => hO⟩
  | _ => simp [AObj.sub] at h
 | miter m a l p =>
  cases o2 with
  | miter m' a' l' p' =>
   simp only [AObj.sub, Bool.and_eq_true] at h;have e1 : m = m' := optSame_of (fun a b h => nbeq_of h) h.1.1.1
   rw [e1, nbeq_of h.1.1.2, strEq_of h.1.2, nbeq_of h.2];exact ⟨rfl, fun {e L b x w} hO => hO⟩
  | _ => simp [AObj.sub] at h
 | arg c =>
  cases o2 with
  | arg c' =>
   simp only [AObj.sub] at h;refine ⟨rfl, fun {e L b x w} hO => ?_⟩
   obtain ⟨a, el, fz, g1, g2⟩ := hO;refine ⟨a, el, fz, g1, fun i v hv => ?_⟩
   obtain ⟨v', hv', hs⟩ := Tr.sub_get _ _ h i v hv;rw [AV.same_of _ _ hs]; exact g2 i v' hv'
  | _ => simp [AObj.sub] at h
def LeG (G' G : Nat → Option AObj) : Prop := ∀ b o1, G' b = some o1 → ∃ o2, G b = some o2 ∧ AObj.sub o1 o2 = true
theorem HR.leG {NG : GP} {e : Env} {L : Loops} {G G' : Nat → Option AObj} {n : Nat} {w : World} (h : HR NG e L G n w) (hs : LeG G' G) : HR NG e L G' n w where
 dom := h.dom
 live b o hb := by
  obtain ⟨o2, h2, hsub⟩ := hs b o hb;obtain ⟨x, hx, hO⟩ := h.live b o2 h2;exact ⟨x, hx, (AObj.sub_ok hsub).2 hO⟩
 inj b c o p x y hb hc hw := by
  obtain ⟨o2, h2, s2⟩ := hs b o hb;obtain ⟨p2, h3, s3⟩ := hs c p hc;exact h.inj b c o2 p2 x y h2 h3 (by rw [← (AObj.sub_ok s2).1, ← (AObj.sub_ok s3).1]; exact hw)
 glob := h.glob
 ora := h.ora
theorem Tran.leG {e e' : Env} {G G1 G' : Nat → Option AObj} {n n' : Nat} {w w' : World} (h : Tran e G n w e' G1 n' w') (hs : LeG G' G1) : Tran e G n w e' G' n' w' :=
 { h with
   foot := fun B hB => h.foot B (by
    obtain ⟨b, o, x, h1, h2, h3, h4⟩ := hB;obtain ⟨o2, g1, g2⟩ := hs b o h1
    exact ⟨b, o2, x, g1, by rw [← (AObj.sub_ok g2).1]; exact h2, h3, h4⟩)
   ro := fun b o hb hr => by
    obtain ⟨o2, g1, g2⟩ := hs b o hb
    exact h.ro b o2 g1 (by rw [← (AObj.sub_ok g2).1]; exact hr) }
theorem dropArgs_get : ∀ (args : List AV) (t : Tr AObj) (c : Nat) (o : AObj), (dropArgs t args).get c = some o → t.get c = some o := by
 intro args
 induction args with
 | nil => intro t c o h; exact h
 | cons a args ih =>
  intro t c o h;unfold dropArgs at h
  split at h
  ·rename_i heq; cases heq
  ·rename_i heq;injection heq with h1 h2;subst h2;have := ih _ _ _ h;rw [Tr.get_set] at this
   split at this
   ·cases this
   ·exact this
  ·rename_i heq;injection heq with h1 h2;subst h2;exact ih _ _ _ h
theorem dropFrom_get (lo : Nat) : ∀ (n : Nat) (t : Tr AObj) (c : Nat) (o : AObj), (dropFrom lo n t).get c = some o → t.get c = some o := by
 intro n
 induction n with
 | zero => intro t c o h; exact h
 | succ n ih =>
  intro t c o h;simp only [dropFrom] at h;have := ih _ _ _ h;rw [Tr.get_set] at this
  split at this
  ·cases this
  ·exact this
theorem maxNext_ge : ∀ (l : List (AV × AHeap)) (v : AV) (H : AHeap), (v, H) ∈ l → H.next ≤ maxNext l := by
 intro l
 induction l with
 | nil => intro v H h; cases h
 | cons p l ih =>
  intro v H h;obtain ⟨v0, H0⟩ := p;simp only [maxNext];rcases List.mem_cons.1 h with heq | h
  ·cases heq; exact Nat.le_max_left _ _
  ·exact Nat.le_trans (ih v H h) (Nat.le_max_right _ _)
theorem mergeOne_ok {NG : GP} {n0 N : Nat} {args : List AV} {L : Loops} {e : Env} {H0 : AHeap} {w : World} {v v' : AV} {H H' : AHeap} {en : Ending} {w' : World} (h : mergeOne n0 N args (v, H) = some (v', H')) (hN : H.next ≤ N) (ho : HOut NG L e H0 w v H en w') : HOut NG L e H0 w v' H' en w' := by
 obtain ⟨e1, hen, hH, hT⟩ := ho;unfold mergeOne at h
 split at h
 ·rename_i b off len cap H1 heq;cases heq;unfold mgObj at h
  split at h
  ·rename_i k el lo hi es cells hob;simp only [brec] at h;cases hb : Nat.ble (k + len) lo with
   | false => rw [hb] at h; cases h
   | true =>
    rw [hb] at h; simp only [cond_true, Option.some.injEq, Prod.mk.injEq] at h;obtain ⟨rfl, rfl⟩ := h;have hle := nble_of hb;obtain ⟨y, hy, rfl⟩ := endR_not hen (by simp)
    obtain ⟨x, hx, hy'⟩ := cv_sl hy;obtain ⟨x', hx', hO⟩ := hH.live b _ hob;rw [hx] at hx'; cases hx';obtain ⟨hfree, _⟩ := hH.free hN;have hlee := Env.le_ext hfree x;have hOn : ObjR (e1.ext N x) L N x w' (.blk el false (.opn (k + len) none es) cells) := by
     obtain ⟨c, fz, g1, g2, ⟨g3, g4, g5⟩, g6⟩ := hO;exact ⟨c, fz, g1, g2, ⟨g3, by omega, fun _ h => by cases h⟩, fun i v hv => let ⟨z, hz, hc⟩ := g6 i v hv; ⟨z, cv_le hlee _ _ hz, hc⟩⟩
    have hsub : Sub (mgObjs n0 N args H b (.blk el false (.opn (k + len) none es) cells)).get (upd (upd H.objs.get b none) N (some (.blk el false (.opn (k + len) none es) cells))) := by
     intro c o hc;simp only [mgObjs] at hc;rw [Tr.get_set] at hc
     by_cases hcN : c = N
     ·subst hcN; rw [if_pos rfl] at hc; rw [upd_same]; exact hc
     ·rw [if_neg hcN] at hc;have h1 := dropFrom_get _ _ _ _ _ hc;rw [Tr.get_set] at h1
      by_cases hcb : c = b
      ·rw [if_pos hcb] at h1; cases h1
      ·rw [if_neg hcb] at h1;rw [upd_ne _ _ hcN, upd_ne _ _ hcb];exact dropArgs_get _ _ _ _ h1
    refine ⟨e1.ext N x, ?_, ?_, ?_⟩
    ·exact endR_ret (by simp only [cv, Env.ext_same]; rw [hy'])
    ·exact ((hH.bump (show H.next ≤ N + 1 by omega)).rebind hob hx rfl hfree (Nat.lt_succ_self _) (fun _ _ => rfl) hOn).weaken hsub
    ·exact (hT.trans (Tran.rebind hob hx rfl rfl hfree hN (show H.next ≤ N + 1 by omega) (fun _ _ => rfl) rfl rfl rfl rfl)).weaken hsub
  ·cases h
 ·cases h
theorem mergeAll_mem {n0 N : Nat} {args : List AV} {v : AV} {H : AHeap} : ∀ {r : List (AV × AHeap)}, mergeAll n0 N args v H r = true → ∀ p ∈ r, ∃ q, mergeOne n0 N args p = some q ∧ v = q.1 ∧ H.next = q.2.next ∧ H.objs.sub AObj.sub q.2.objs = true := by
 intro r
 induction r with
 | nil => intro _ p hp; cases hp
 | cons o r ih =>
  intro h p hp;simp only [mergeAll] at h;cases hm : mergeOne n0 N args o with
  | none => rw [hm] at h; cases h
  | some q =>
   rw [hm] at h;simp only [Bool.and_eq_true] at h;rcases List.mem_cons.1 hp with rfl | hp
   ·exact ⟨q, hm, AV.same_of _ _ h.1.1.1, nbeq_of h.1.1.2, h.1.2⟩
   ·exact ih h.2 p hp
def LeW (G' G : Nat → Option AObj) : Prop := ∀ b o1, G' b = some o1 → ∃ o2, G b = some o2 ∧ o1.wr = o2.wr ∧ ∀ (e : Env) (L : Loops) (b : Nat) (x : Nat × Nat) (w : World), ObjR e L b x w o2 → ObjR e L b x w o1
theorem HR.leW {NG : GP} {e : Env} {L : Loops} {G G' : Nat → Option AObj} {n : Nat} {w : World} (h : HR NG e L G n w) (hs : LeW G' G) : HR NG e L G' n w where
 dom := h.dom
 live b o hb := by
  obtain ⟨o2, h2, _, hsub⟩ := hs b o hb;obtain ⟨x, hx, hO⟩ := h.live b o2 h2;exact ⟨x, hx, hsub _ _ _ _ _ hO⟩
 inj b c o p x y hb hc hw := by
  obtain ⟨o2, h2, s2, _⟩ := hs b o hb;obtain ⟨p2, h3, s3, _⟩ := hs c p hc;exact h.inj b c o2 p2 x y h2 h3 (by rw [← s2, ← s3]; exact hw)
 glob := h.glob
 ora := h.ora
theorem Tran.leW {e e' : Env} {G G1 G' : Nat → Option AObj} {n n' : Nat} {w w' : World} (h : Tran e G n w e' G1 n' w') (hs : LeW G' G1) : Tran e G n w e' G' n' w' :=
 { h with
   foot := fun B hB => h.foot B (by
    obtain ⟨b, o, x, h1, h2, h3, h4⟩ := hB;obtain ⟨o2, g1, g2, _⟩ := hs b o h1
    exact ⟨b, o2, x, g1, by rw [← g2]; exact h2, h3, h4⟩)
   ro := fun b o hb hr => by
    obtain ⟨o2, g1, g2, _⟩ := hs b o hb
    exact h.ro b o2 g1 (by rw [← g2]; exact hr) }
theorem LeW.trans {G0 G1 G2 : Nat → Option AObj} (h : LeW G0 G1) (k : LeW G1 G2) : LeW G0 G2 := by
 intro b o hb;obtain ⟨o1, h1, h2, h3⟩ := h b o hb;obtain ⟨o2, k1, k2, k3⟩ := k b o1 h1;exact ⟨o2, k1, h2.trans k2, fun e L b x w hO => h3 e L b x w (k3 e L b x w hO)⟩
theorem LeW.refl (G : Nat → Option AObj) : LeW G G := fun b o hb => ⟨o, hb, rfl, fun _ _ _ _ _ h => h⟩
theorem meet_get {α : Type} (f : α → α → Option α) : ∀ (t t' : Tr α) (n : Nat) (z : α), (t.meet f t').get n = some z → ∃ x y, t.get n = some x ∧ t'.get n = some y ∧ f x y = some z := by
 intro t
 induction t with
 | nil => intro t' n x h; simp only [Tr.meet] at h; cases h
 | node v l r ihl ihr =>
  intro t' n x h;cases t' with
  | nil => simp only [Tr.meet] at h; cases h
  | node v' l' r' =>
   simp only [Tr.meet] at h;rw [Tr.get_node] at h;rw [Tr.get_node, Tr.get_node]
   by_cases h0 : n = 0
   ·rw [if_pos h0] at h;rw [if_pos h0, if_pos h0];unfold meetO at h
    split at h
    ·rename_i p q; exact ⟨p, q, rfl, rfl, h⟩
    ·cases h
   ·rw [if_neg h0] at h;rw [if_neg h0, if_neg h0]
    by_cases h1 : n % 2 = 1
    ·rw [if_pos h1] at h; rw [if_pos h1, if_pos h1]; exact ihl l' _ _ h
    ·rw [if_neg h1] at h; rw [if_neg h1, if_neg h1]; exact ihr r' _ _ h
theorem leastN_le (a b : Nat) : leastN a b ≤ a ∧ leastN a b ≤ b := by
 simp only [leastN, brec];cases hb : Nat.ble a b with
 | true => exact ⟨Nat.le_refl _, nble_of hb⟩
 | false =>
  have : ¬ a ≤ b := fun h => by rw [Nat.ble_eq_true_of_le h] at hb; cases hb
  exact ⟨by show b ≤ a; omega, Nat.le_refl _⟩
theorem meetObj_ok {x y z : AObj} (h : meetObj x y = some z) : (z.wr = x.wr ∧ ∀ (e : Env) (L : Loops) (b : Nat) (p : Nat × Nat) (w : World), ObjR e L b p w x → ObjR e L b p w z) ∧
 (z.wr = y.wr ∧ ∀ (e : Env) (L : Loops) (b : Nat) (p : Nat × Nat) (w : World), ObjR e L b p w y → ObjR e L b p w z) := by
 simp only [meetObj, brec] at h;cases hs : AObj.sub x y with
 | true =>
  rw [hs] at h;simp only [cond_true, Option.some.injEq] at h; subst h;exact ⟨⟨rfl, fun _ _ _ _ _ h => h⟩, (AObj.sub_ok hs).1, fun e L b p w => (AObj.sub_ok hs).2⟩
 | false =>
  rw [hs] at h;simp only [cond_false] at h;unfold meetObj2 at h
  split at h
  ·rename_i el ro s c el' ro' s' c';simp only [brec] at h;cases hb : (Nat.beq el el' && ro == ro' && c.sub AV.same c') with
   | false => rw [hb] at h; cases h
   | true =>
    rw [hb] at h;simp only [cond_true] at h;simp only [Bool.and_eq_true] at hb;have e1 := nbeq_of hb.1.1;have e2 : ro = ro' := eq_of_beq hb.1.2;subst e1; subst e2;cases s with
    | fix n => simp [joinSz, meetBlk] at h
    | opn lo hi es =>
     cases s' with
     | fix n => simp [joinSz, meetBlk] at h
     | opn lo' hi' es' =>
      simp only [joinSz, brec] at h;cases he : Nat.beq es es' with
      | false => rw [he] at h; cases h
      | true =>
       rw [he] at h;simp only [cond_true, meetBlk, Option.some.injEq] at h; subst h;have e3 := nbeq_of he;subst e3;have hl := leastN_le lo lo';refine ⟨⟨rfl, fun e L b p w hO => ?_⟩, rfl, fun e L b p w hO => ?_⟩
       ·obtain ⟨c0, fz, g1, g2, ⟨g3, g4, g5⟩, g6⟩ := hO;refine ⟨c0, fz, g1, g2, ⟨g3, Nat.le_trans hl.1 g4, fun h hh => ?_⟩, g6⟩
        unfold joinHi at hh
        split at hh
        ·rename_i a b';simp only [Option.some.injEq] at hh; subst hh;exact Nat.lt_of_lt_of_le (g5 a rfl) (Nat.le_max_left _ _)
        ·cases hh
       ·obtain ⟨c0, fz, g1, g2, ⟨g3, g4, g5⟩, g6⟩ := hO;refine ⟨c0, fz, g1, g2, ⟨g3, Nat.le_trans hl.2 g4, fun h hh => ?_⟩, fun i v hv => ?_⟩
        ·unfold joinHi at hh
         split at hh
         ·rename_i a b';simp only [Option.some.injEq] at hh; subst hh;exact Nat.lt_of_lt_of_le (g5 b' rfl) (Nat.le_max_right _ _)
         ·cases hh
        ·obtain ⟨v', hv', hsm⟩ := Tr.sub_get c c' hb.2 i v hv;rw [AV.same_of _ _ hsm];exact g6 i v' hv'
  ·cases h
theorem meetH_next (a b : AHeap) : (meetH a b).next = Nat.max a.next b.next := by cases a; cases b; rfl
theorem meetH_objs (a b : AHeap) : (meetH a b).objs = a.objs.meet meetObj b.objs := by cases a; cases b; rfl
theorem meetH_le (a b : AHeap) : LeW (meetH a b).objs.get a.objs.get ∧ LeW (meetH a b).objs.get b.objs.get := by
 rw [meetH_objs];constructor
 ·intro n z hz;obtain ⟨x, y, hx, hy, hxy⟩ := meet_get _ _ _ _ _ hz;obtain ⟨h1, _⟩ := meetObj_ok hxy;exact ⟨x, hx, h1.1, h1.2⟩
 ·intro n z hz;obtain ⟨x, y, hx, hy, hxy⟩ := meet_get _ _ _ _ _ hz;obtain ⟨_, h1⟩ := meetObj_ok hxy;exact ⟨y, hy, h1.1, h1.2⟩
theorem mergeSame_ok {v : AV} : ∀ (r : List (AV × AHeap)) (acc H : AHeap), mergeSame v acc r = some H →
 LeW H.objs.get acc.objs.get ∧ acc.next ≤ H.next ∧ ∀ u H', (u, H') ∈ r → u = v ∧ LeW H.objs.get H'.objs.get ∧ H'.next ≤ H.next := by
 intro r
 induction r with
 | nil =>
  intro acc H h;simp only [mergeSame, Option.some.injEq] at h; subst h;exact ⟨LeW.refl _, Nat.le_refl _, fun _ _ h => by cases h⟩
 | cons o r ih =>
  intro acc H h;simp only [mergeSame, brec] at h;cases hs : v.same o.1 with
  | false => rw [hs] at h; cases h
  | true =>
   rw [hs] at h; simp only [cond_true] at h;obtain ⟨h1, h2, h3⟩ := ih _ _ h;rw [meetH_next] at h2;have h2a : acc.next ≤ H.next := Nat.le_trans (Nat.le_max_left _ _) h2;have h2b : o.2.next ≤ H.next := Nat.le_trans (Nat.le_max_right _ _) h2;obtain ⟨m1, m2⟩ := meetH_le acc o.2;refine ⟨h1.trans m1, h2a, ?_⟩;intro u H' hm;rcases List.mem_cons.1 hm with rfl | hm
   ·exact ⟨(AV.same_of _ _ hs).symm, h1.trans m2, h2b⟩
   ·exact h3 u H' hm
theorem mergeV_ok {NG : GP} {L : Loops} {e : Env} {H : AHeap} {w : World} {r : List (AV × AHeap)} {en : Ending} {w' : World} (h : ValOut NG L e H w r en w') : ValOut NG L e H w (mergeV r) en w' := by
 unfold mergeV
 split
 ·exact h
 ·exact h
 ·rename_i o o' r';unfold mergeS
  split
  ·rename_i Hm hm;obtain ⟨v, H', hmem, e1, hen, hH, hT⟩ := h;obtain ⟨h1, h2, h3⟩ := mergeSame_ok _ _ _ hm;rcases List.mem_cons.1 hmem with rfl | hmem'
   ·exact ⟨v, Hm, by simp, e1, hen, (hH.bump h2).leW h1, (hT.bump h2).leW h1⟩
   ·obtain ⟨rfl, g1, g2⟩ := h3 _ _ hmem';exact ⟨o.1, Hm, by simp, e1, hen, (hH.bump g2).leW g1, (hT.bump g2).leW g1⟩
  ·exact h
theorem mergeOuts_ok {P : Program} {X : XP} : MergeOk P X := by
 refine ⟨?_, fun r L e H w en w' h => mergeV_ok h⟩
 intro f _ n0 as r L e H w y w' _ h;unfold mergeOuts
 split
 ·exact h
 ·exact h
 ·rename_i o o' r';unfold mergeInto
  split
  ·rename_i p hp;simp only [brec];cases hm : mergeAll n0 (maxNext (o :: o' :: r')) as p.1 p.2 (o' :: r') with
   | false => exact h
   | true =>
    simp only [cond_true];obtain ⟨v, H', hmem, ho⟩ := h;have hN := maxNext_ge _ _ _ hmem;rcases List.mem_cons.1 hmem with rfl | hmem'
    ·exact ⟨p.1, p.2, by simp, mergeOne_ok hp hN ho⟩
    ·obtain ⟨q, hq, h1, h2, h3⟩ := mergeAll_mem hm _ hmem';obtain ⟨e1, hy, hH, hT⟩ := mergeOne_ok hq hN ho;have hle : LeG p.2.objs.get q.2.objs.get := fun b o1 hb => Tr.sub_get _ _ h3 b o1 hb
     exact ⟨p.1, p.2, by simp, e1, by rw [h1]; exact hy, by rw [h2]; exact hH.leG hle, by rw [h2]; exact hT.leG hle⟩
  ·exact h
end
end Go.X

/- A region whose order is drawn: what the static look says; the frame behind a set of operations. -/
namespace Go.X
noncomputable section
set_option linter.unusedSectionVars false
theorem befOf_bit (B : Tr Nat) : ∀ (es : List Edge) (m j : Nat), Nat.testBit (befOf B es m) j = true →
 Nat.testBit m j = true ∨ ∃ e ∈ es, Region.binds .any e = true ∧ (j = e.on ∨ Nat.testBit (bget (B.get e.on)) j = true) := by
 intro es
 induction es with
 | nil => intro m j h; exact .inl h
 | cons e es ih =>
  intro m j h;simp only [befOf, brec] at h;cases hb : Region.binds .any e with
  | false =>
   rw [hb] at h;rcases ih m j h with h1 | ⟨e', h1, h2⟩
   ·exact .inl h1
   ·exact .inr ⟨e', List.mem_cons_of_mem _ h1, h2⟩
  | true =>
   rw [hb] at h;rcases ih _ j h with h1 | ⟨e', h1, h2⟩
   ·have h1' : Nat.testBit ((m ||| 2 ^ e.on) ||| bget (B.get e.on)) j = true := h1
    rw [Nat.testBit_or, Nat.testBit_or, Bool.or_eq_true, Bool.or_eq_true, Nat.testBit_two_pow] at h1';rcases h1' with (h3 | h3) | h3
    ·exact .inl h3
    ·exact .inr ⟨e, List.mem_cons_self .., hb, .inl (by simpa using h3 : e.on = j).symm⟩
    ·exact .inr ⟨e, List.mem_cons_self .., hb, .inr h3⟩
   ·exact .inr ⟨e', List.mem_cons_of_mem _ h1, h2⟩
theorem befs_spec : ∀ (os : List Oper) (k : Nat) (B : Tr Nat), (∀ x, k ≤ x → B.get x = none) →
 (∀ x, x < k → (befs k os B).get x = B.get x) ∧ (∀ x, k + os.length ≤ x → (befs k os B).get x = none) ∧
 ∀ (i : Nat) (o : Oper), os[i]? = some o → ∀ j, bit (befs k os B) (k + i) j = true → ∃ e ∈ o.after.toList, Region.binds .any e = true ∧ (j = e.on ∨ bit (befs k os B) e.on j = true) := by
 intro os
 induction os with
 | nil => intro k B hB; exact ⟨fun _ _ => rfl, fun x hx => hB x (by simpa using hx), fun i o h => by simp at h⟩
 | cons o os ih =>
  intro k B hB;obtain ⟨h1, h2, h3⟩ := ih (k + 1) (B.set k (some (befOf B o.after.toList 0))) (fun x hx => by rw [Tr.get_set, if_neg (by omega)]; exact hB x (by omega))
  refine ⟨fun x hx => ?_, fun x hx => ?_, ?_⟩
  ·show (befs (k + 1) os _).get x = _;rw [h1 x (by omega), Tr.get_set, if_neg (by omega)]
  ·exact h2 x (by simp only [List.length_cons] at hx; omega)
  ·intro i p hp j hj;cases i with
   | zero =>
    simp only [List.getElem?_cons_zero, Option.some.injEq] at hp; subst hp;have hj' : Nat.testBit (bget ((befs (k + 1) os (B.set k (some (befOf B o.after.toList 0)))).get k)) j = true := hj;rw [h1 k (by omega), Tr.get_set, if_pos rfl] at hj'
    rcases befOf_bit B _ _ _ hj' with h4 | ⟨e, he, hb, h5⟩
    ·simp at h4
    ·refine ⟨e, he, hb, h5.imp id fun h6 => ?_⟩
     have hlt : e.on < k := by
      rcases Nat.lt_or_ge e.on k with h7 | h7
      ·exact h7
      ·rw [hB _ h7] at h6; simp [bget] at h6
     show Nat.testBit (bget ((befs (k + 1) os _).get e.on)) j = true;rw [h1 _ (by omega), Tr.get_set, if_neg (by omega)]
     exact h6
   | succ i =>
    have hj' : bit (befs (k + 1) os (B.set k (some (befOf B o.after.toList 0)))) (k + 1 + i) j = true := by
     have : k + 1 + i = k + (i + 1) := by omega
     rw [this]; exact hj
    exact h3 i p (by simpa using hp) j hj'
theorem okAllEdges_spec : ∀ (os : List Oper) (k : Nat), okAllEdges k os = true → ∀ (i : Nat) (o : Oper), os[i]? = some o → ∀ e ∈ o.after.toList, Region.binds .any e = true → e.on < k + i := by
 intro os
 induction os with
 | nil => intro k _ i o h; simp at h
 | cons o os ih =>
  intro k h i p hp e he hb;simp only [okAllEdges, Bool.and_eq_true] at h;cases i with
  | zero =>
   simp only [List.getElem?_cons_zero, Option.some.injEq] at hp; subst hp;have := List.all_eq_true.1 h.1 e he;rw [hb] at this;have := nblt_of this;omega
  | succ i =>
   have := ih (k + 1) h.2 i p (by simpa using hp) e he hb
   omega
theorem okRow_spec (B : Tr Nat) (i : Nat) (names : List Tmp) : ∀ (ps : List Oper) (k : Nat), okRow B i names k ps = true → ∀ (j : Nat) (p : Oper), ps[j]? = some p → okPair B i names (k + j) p.dst = true := by
 intro ps
 induction ps with
 | nil => intro k _ j p h; simp at h
 | cons q ps ih =>
  intro k h j p hp;simp only [okRow, Bool.and_eq_true] at h;cases j with
  | zero => simp only [List.getElem?_cons_zero, Option.some.injEq] at hp; subst hp; exact h.1
  | succ j =>
   have := ih (k + 1) h.2 j p (by simpa using hp)
   have e1 : k + 1 + j = k + (j + 1) := by omega
   rw [e1] at this; exact this
theorem okRows_spec (B : Tr Nat) (all : Array Oper) : ∀ (os : List Oper) (k : Nat), okRows B all k os = true → ∀ (i : Nat) (o : Oper), os[i]? = some o → okRow B (k + i) (o.looksAt all) 0 all.toList = true := by
 intro os
 induction os with
 | nil => intro k _ j p h; simp at h
 | cons q os ih =>
  intro k h i o ho;simp only [okRows, Bool.and_eq_true] at h;cases i with
  | zero => simp only [List.getElem?_cons_zero, Option.some.injEq] at ho; subst ho; exact h.1
  | succ i =>
   have := ih (k + 1) h.2 i o (by simpa using ho)
   have e1 : k + 1 + i = k + (i + 1) := by omega
   rw [e1] at this; exact this
theorem okDst_spec : ∀ (os : List Oper), okDst os = true → ∀ (i j : Nat) (o p : Oper) (t : Nat), os[i]? = some o → os[j]? = some p → o.dst = some t → p.dst = some t → i = j := by
 intro os
 induction os with
 | nil => intro _ i j o p t h; simp at h
 | cons q os ih =>
  intro h;simp only [okDst, Bool.and_eq_true] at h;have hne : ∀ (j : Nat) (p : Oper) (t : Nat), os[j]? = some p → q.dst = some t → p.dst = some t → False := by
   intro j p t hp hq hd;have := List.all_eq_true.1 h.1 p (List.mem_of_getElem? hp);simp only [otherDst, hq, hd] at this;rw [nbeq_t rfl] at this; cases this
  intro i j o p t hi hj ho hp;cases i with
  | zero =>
   simp only [List.getElem?_cons_zero, Option.some.injEq] at hi; subst hi;cases j with
   | zero => rfl
   | succ j => exact (hne j p t (by simpa using hj) ho hp).elim
  | succ i =>
   cases j with
   | zero =>
    simp only [List.getElem?_cons_zero, Option.some.injEq] at hj; subst hj;exact (hne i o t (by simpa using hi) hp ho).elim
   | succ j => rw [ih h.2 i j o p t (by simpa using hi) (by simpa using hj) ho hp]
structure Stat (ops : Array Oper) (B : Tr Nat) : Prop where
 bef : ∀ (i : Nat) (o : Oper), ops[i]? = some o → ∀ j, bit B i j = true → ∃ e ∈ o.after, Region.binds .any e = true ∧ (j = e.on ∨ bit B e.on j = true)
 none : ∀ i, ops.size ≤ i → ∀ j, bit B i j = false
 edge : ∀ (i : Nat) (o : Oper), ops[i]? = some o → ∀ e ∈ o.after, Region.binds .any e = true → e.on < i
 row : ∀ (i : Nat) (o : Oper) (j : Nat) (p : Oper) (t : Nat), ops[i]? = some o → ops[j]? = some p → p.dst = some t → memN t (o.looksAt ops) = true → (j < i → bit B i j = true) ∧ (i < j → bit B j i = true)
 dst : ∀ (i j : Nat) (o p : Oper) (t : Nat), ops[i]? = some o → ops[j]? = some p → o.dst = some t → p.dst = some t → i = j
theorem okStatic_spec {ops : Array Oper} (h : okStatic ops = true) : Stat ops (befs 0 ops.toList .nil) := by
 simp only [okStatic, Bool.and_eq_true] at h;obtain ⟨⟨h1, h2⟩, h3⟩ := h;obtain ⟨_, b2, b3⟩ := befs_spec ops.toList 0 .nil (fun x _ => rfl)
 have hl : ∀ i : Nat, ops.toList[i]? = ops[i]? := fun i => by simp
 refine ⟨fun i o ho j hj => ?_, fun i hi j => ?_, fun i o ho e he hb => ?_, fun i o j p t ho hp hd hm => ?_, fun i j o p t hi hj => ?_⟩
 ·obtain ⟨e, he, h4⟩ := b3 i o (by rw [hl]; exact ho) j (by rw [Nat.zero_add]; exact hj)
  exact ⟨e, by simpa using he, h4⟩
 ·unfold bit; rw [b2 i (by simpa using hi)]; simp [bget]
 ·have := okAllEdges_spec ops.toList 0 h3 i o (by rw [hl]; exact ho) e (by simpa using he) hb
  omega
 ·have h4 := okRows_spec _ ops ops.toList 0 h1 i o (by rw [hl]; exact ho)
  have h5 := okRow_spec _ _ _ ops.toList 0 h4 j p (by rw [hl]; exact hp)
  simp only [Nat.zero_add, okPair, hd, dstIn, hm, brec, nblt_eq] at h5;refine ⟨fun hlt => ?_, fun hlt => ?_⟩
  ·rw [decide_eq_true hlt] at h5; exact h5
  ·rw [decide_eq_false (by omega : ¬ j < i), decide_eq_true hlt] at h5; exact h5
 ·exact okDst_spec ops.toList h2 i j o p t (by rw [hl]; exact hi) (by rw [hl]; exact hj)
theorem Stat.lt {ops : Array Oper} {B : Tr Nat} (h : Stat ops B) : ∀ (i j : Nat), bit B i j = true → j < i := by
 intro i
 induction i using Nat.strongRecOn with
 | _ i ih =>
  intro j hj;cases ho : ops[i]? with
  | none =>
   have : ops.size ≤ i := by simpa using ho
   rw [h.none i this j] at hj; cases hj
  | some o =>
   obtain ⟨e, he, hb, h1⟩ := h.bef i o ho j hj;have h2 := h.edge i o ho e he hb;rcases h1 with rfl | h1
   ·exact h2
   ·have := ih e.on h2 j h1; omega
def putOne (ops : Array Oper) (recs : List RRec) (fr : Fr) (j : Nat) : Fr :=
 match ops[j]?, recs[j]? with
 | some o, some r => fr.put o.dst r.v
 | _, _ => fr
def putL (ops : Array Oper) (recs : List RRec) (fr : Fr) (l : List Nat) : Fr := l.foldl (putOne ops recs) fr
theorem Fr.put_n (fr : Fr) (d : Option Tmp) (v : AV) : (fr.put d v).n = fr.n := by
 obtain ⟨tm, n, ds⟩ := fr;cases d with
 | none => rfl
 | some d => simp only [Fr.put, brec]; cases Nat.blt d n <;> rfl
theorem Fr.put_defs (fr : Fr) (d : Option Tmp) (v : AV) : (fr.put d v).defs = fr.defs := by
 obtain ⟨tm, n, ds⟩ := fr;cases d with
 | none => rfl
 | some d => simp only [Fr.put, brec]; cases Nat.blt d n <;> rfl
theorem Fr.put_get (fr : Fr) (d : Option Tmp) (v : AV) (t : Nat) : (fr.put d v).tm.get t = if d = some t ∧ t < fr.n then some v else fr.tm.get t := by
 obtain ⟨tm, n, ds⟩ := fr;cases d with
 | none => rw [if_neg (by simp)]; rfl
 | some d =>
  simp only [Fr.put, brec, nblt_eq]
  by_cases hd : d < n
  ·rw [decide_eq_true hd];show (tm.set d (some v)).get t = _;rw [Tr.get_set]
   by_cases ht : t = d
   ·subst ht; rw [if_pos rfl, if_pos ⟨rfl, hd⟩]
   ·rw [if_neg ht, if_neg (by rintro ⟨h1, _⟩; cases h1; exact ht rfl)]
  ·rw [decide_eq_false hd];show tm.get t = _;rw [if_neg (by rintro ⟨h1, h2⟩; cases h1; exact hd h2)]
section
variable {ops : Array Oper} {recs : List RRec}
theorem putOne_n (fr : Fr) (j : Nat) : (putOne ops recs fr j).n = fr.n := by
 unfold putOne; split
 ·exact Fr.put_n ..
 ·rfl
theorem putOne_defs (fr : Fr) (j : Nat) : (putOne ops recs fr j).defs = fr.defs := by
 unfold putOne; split
 ·exact Fr.put_defs ..
 ·rfl
theorem putL_n (fr : Fr) (l : List Nat) : (putL ops recs fr l).n = fr.n := by
 induction l generalizing fr with
 | nil => rfl
 | cons j l ih => exact (ih _).trans (putOne_n fr j)
theorem putL_defs (fr : Fr) (l : List Nat) : (putL ops recs fr l).defs = fr.defs := by
 induction l generalizing fr with
 | nil => rfl
 | cons j l ih => exact (ih _).trans (putOne_defs fr j)
theorem putL_get {t : Nat} {V : AV} (hV : ∀ (j : Nat) p, ops[j]? = some p → p.dst = some t → ∃ r, recs[j]? = some r ∧ r.v = V) (l : List Nat) (fr : Fr) :
 ((t < fr.n ∧ ∃ j ∈ l, ∃ p, ops[j]? = some p ∧ p.dst = some t) → (putL ops recs fr l).tm.get t = some V) ∧
 (¬ (t < fr.n ∧ ∃ j ∈ l, ∃ p, ops[j]? = some p ∧ p.dst = some t) → (putL ops recs fr l).tm.get t = fr.tm.get t) := by
 induction l generalizing fr with
 | nil => exact ⟨fun ⟨_, j, hj, _⟩ => by simp at hj, fun _ => rfl⟩
 | cons j l ih =>
  obtain ⟨h1, h2⟩ := ih (putOne ops recs fr j);rw [putOne_n] at h1 h2;have hone : (t < fr.n ∧ ∃ p, ops[j]? = some p ∧ p.dst = some t) → (putOne ops recs fr j).tm.get t = some V := by
   rintro ⟨hlt, p, hp, hd⟩;obtain ⟨r, hr, hv⟩ := hV j p hp hd;unfold putOne; rw [hp, hr];simp only;rw [Fr.put_get, if_pos ⟨hd, hlt⟩, hv]
  have hno : ¬ (t < fr.n ∧ ∃ p, ops[j]? = some p ∧ p.dst = some t) → (putOne ops recs fr j).tm.get t = fr.tm.get t := by
   intro hn;unfold putOne
   split
   ·rename_i o r ho hr;rw [Fr.put_get, if_neg];rintro ⟨hd, hlt⟩;exact hn ⟨hlt, o, ho, hd⟩
   ·rfl
  show _ ∧ _
  by_cases hl : t < fr.n ∧ ∃ j ∈ l, ∃ p, ops[j]? = some p ∧ p.dst = some t
  ·refine ⟨fun _ => h1 hl, fun hn => (hn ?_).elim⟩
   obtain ⟨hlt, i, hi, hp⟩ := hl;exact ⟨hlt, i, List.mem_cons_of_mem _ hi, hp⟩
  ·have h3 := h2 hl;refine ⟨fun hh => ?_, fun hn => ?_⟩
   ·obtain ⟨hlt, i, hi, hp⟩ := hh;rcases List.mem_cons.1 hi with rfl | hi
    ·exact h3.trans (hone ⟨hlt, hp⟩)
    ·exact (hl ⟨hlt, i, hi, hp⟩).elim
   ·refine h3.trans (hno ?_);rintro ⟨hlt, hp⟩;exact hn ⟨hlt, j, List.mem_cons_self .., hp⟩
theorem putL_agree {B : Tr Nat} (hs : Stat ops B) (hlen : recs.length = ops.size) {t : Nat} {l l' : List Nat} (fr : Fr) (h : ∀ (j : Nat) p, ops[j]? = some p → p.dst = some t → (j ∈ l ↔ j ∈ l')) :
 (putL ops recs fr l).tm.get t = (putL ops recs fr l').tm.get t := by
 by_cases hex : ∃ (j : Nat) (p : Oper), ops[j]? = some p ∧ p.dst = some t
 ·obtain ⟨j0, p0, hp0, hd0⟩ := hex;have hj0 : j0 < recs.length := by
   rw [hlen]; exact (Array.getElem?_eq_some_iff.1 hp0).1
  have hV : ∀ (j : Nat) p, ops[j]? = some p → p.dst = some t → ∃ r, recs[j]? = some r ∧ r.v = (recs[j0]).v := by
   intro j p hp hd;have := hs.dst j j0 p p0 t hp hp0 hd hd0;subst this;exact ⟨recs[j], by simp [hj0], rfl⟩
  obtain ⟨h1, h2⟩ := putL_get hV l fr;obtain ⟨k1, k2⟩ := putL_get hV l' fr
  by_cases hc : t < fr.n ∧ ∃ j ∈ l, ∃ p, ops[j]? = some p ∧ p.dst = some t
  ·have hc' : t < fr.n ∧ ∃ j ∈ l', ∃ p, ops[j]? = some p ∧ p.dst = some t := by
    obtain ⟨hlt, j, hj, p, hp, hd⟩ := hc;exact ⟨hlt, j, (h j p hp hd).1 hj, p, hp, hd⟩
   rw [h1 hc, k1 hc']
  ·have hc' : ¬ (t < fr.n ∧ ∃ j ∈ l', ∃ p, ops[j]? = some p ∧ p.dst = some t) := by
    rintro ⟨hlt, j, hj, p, hp, hd⟩;exact hc ⟨hlt, j, (h j p hp hd).2 hj, p, hp, hd⟩
   rw [h2 hc, k2 hc']
 ·have hV : ∀ (j : Nat) p, ops[j]? = some p → p.dst = some t → ∃ r, recs[j]? = some r ∧ r.v = AV.undef := fun j p hp hd => (hex ⟨j, p, hp, hd⟩).elim
  have hno : ∀ l : List Nat, ¬ (t < fr.n ∧ ∃ j ∈ l, ∃ p, ops[j]? = some p ∧ p.dst = some t) := by
   rintro l ⟨_, j, _, p, hp, hd⟩;exact hex ⟨j, p, hp, hd⟩
  rw [(putL_get hV l fr).2 (hno l), (putL_get hV l' fr).2 (hno l')]
end
theorem FR.congr {e : Env} {fr fr' : Fr} {a : Act} (h : FR e fr a) (h1 : ∀ t, fr'.tm.get t = fr.tm.get t) (h2 : fr'.n = fr.n) (h3 : fr'.defs = fr.defs) : FR e fr' a := by
 refine ⟨⟨by rw [h2]; exact h.tm.1, fun i => ?_⟩, by rw [h3]; exact h.defs⟩
 have := h.tm.2 i;unfold Tr.getU at *
 rw [h1 i]; exact this
theorem evalR_ok {X : XP} {e : Env} {tm tm' : Tr AV} {names : List Tmp} {ρ : Operand → Value} (h : EvOk e (evalA X tm) ρ) (hn : ∀ t, memN t names = true → tm.get t = tm'.get t) : EvOk e (evalR X tm' names) ρ := by
 intro x v hx;cases x with
 | tmp t =>
  simp only [evalR, brec] at hx;cases hm : memN t names with
  | false => rw [hm] at hx; cases hx
  | true =>
   rw [hm] at hx;refine h (.tmp t) v ?_;simp only [cond_true, evalA] at hx ⊢;rw [hn t hm]; exact hx
 | const c => exact h _ _ hx
 | global g => exact h _ _ hx
 | func f => exact h _ _ hx
theorem wantedR_ok {names : List Tmp} {ops : List Oper} {tm tm' : Tr AV} {g : Option (Nat × Bool)} {b : Bool} (h : wantedR names ops tm' g = some b) (hn : ∀ t, memN t names = true → tm.get t = tm'.get t) : wantedA ops tm g = some b := by
 cases g with
 | none => exact h
 | some jw =>
  obtain ⟨j, want⟩ := jw;simp only [wantedR, brec] at h;simp only [wantedA];cases hg : guardSeen names ops[j]? with
  | false => rw [hg] at h; cases h
  | true =>
   rw [hg] at h;simp only [cond_true] at h;rw [← h];cases ho : ops[j]? with
   | none => rfl
   | some o =>
    rw [ho] at hg;obtain ⟨dst, op, ty, pos, after, guard⟩ := o;cases dst with
    | none => rfl
    | some d =>
     simp only [guardSeen] at hg;simp only [guardAt];rw [hn d hg]
end
end Go.X
