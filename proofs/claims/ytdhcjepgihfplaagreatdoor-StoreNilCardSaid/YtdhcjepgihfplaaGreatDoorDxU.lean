/- Ranges over functions. -/
import Derived.Test.YtdhcjepgihfplaaGreatDoorDxS
namespace Go.X
noncomputable section
set_option linter.unusedSectionVars false

theorem lookL_ne {L : Loops} {l b : Nat} {c : Code × Code} (h : b ≠ l) : lookL ((l, c.1, c.2) :: L) b = lookL L b := by
  simp only [lookL, brec]
  rw [nbeq_f (fun he => h he.symm)]; rfl

theorem lookL_eq {L : Loops} {l : Nat} {asg body : Code} : lookL ((l, asg, body) :: L) l = some (asg, body) := by
  simp only [lookL, brec]
  rw [nbeq_t rfl]; rfl

theorem HR.consL {NG : GP} {e : Env} {L : Loops} {G : Nat → Option AObj} {n : Nat} {w : World} (h : HR NG e L G n w) {l : Nat} (hl : G l = none) (asg body : Code) : HR NG e ((l, asg, body) :: L) G n w where
  dom := h.dom
  live b o hb := by
    obtain ⟨x, hx, hO⟩ := h.live b o hb
    have hne : b ≠ l := fun he => by subst he; rw [hl] at hb; cases hb
    exact ⟨x, hx, hO.keep (Env.le_refl e) rfl (lookL_ne (c := (asg, body)) hne)⟩
  inj := h.inj
  glob := h.glob
  ora := h.ora

theorem HR.tailL {NG : GP} {e : Env} {L : Loops} {G : Nat → Option AObj} {n : Nat} {w : World} {l : Nat} {asg body : Code} (h : HR NG e ((l, asg, body) :: L) G n w) (hl : G l = none) : HR NG e L G n w where
  dom := h.dom
  live b o hb := by
    obtain ⟨x, hx, hO⟩ := h.live b o hb
    have hne : b ≠ l := fun he => by subst he; rw [hl] at hb; cases hb
    exact ⟨x, hx, hO.keep (Env.le_refl e) rfl (lookL_ne (c := (asg, body)) hne).symm⟩
  inj := h.inj
  glob := h.glob
  ora := h.ora

theorem HR.free {NG : GP} {e : Env} {L : Loops} {G : Nat → Option AObj} {n : Nat} {w : World} (h : HR NG e L G n w) {b : Nat} (hb : n ≤ b) : e.f b = none ∧ G b = none := by
  have h1 : e.f b = none := by
    cases hf : e.f b with
    | none => rfl
    | some x => exact absurd (h.dom _ _ hf) (by omega)
  refine ⟨h1, ?_⟩
  cases hg : G b with
  | none => rfl
  | some p => obtain ⟨y, hy, _⟩ := h.live b p hg; rw [h1] at hy; cases hy

section
variable {P : Program} {X : XP} (ok : XPok P X) (okf : FnOk P X) {R : Rec} (hR : RecOk P (gp P X) R)

/-- the call of the function that is ranged over leads to a function's body -/
def BodyCalls (P : Program) (X : XP) (R : Rec) : Prop := ∀ L f first captured args H outs, R.call L (.fn f first captured) args H = some outs → hasBody (X.fns.get f) = true → ∀ e w v1 v2 v3, cvs e first = some v1 → cvs e args = some v2 → cvs e captured = some v3 →
    HR (gp P X) e L H.objs.get H.next w →
    (callFunc f (v1.toArray ++ v2.toArray ++ v3.toArray)).run P w = .ok (.enter f (v1.toArray ++ v2.toArray ++ v3.toArray)) w ∧ Calls P f (v1.toArray ++ v2.toArray ++ v3.toArray) w (fun en w' => en ≠ .outgrown ∧ ValOut (gp P X) L e H w outs en w')

theorem range_core (hB : BodyCalls P X R) {fid : FuncId} {L : Loops} {fr fr' : Fr} {d : Nat} {H0 H : AHeap} {f : FuncId} {first captured : List AV} {ps : Array Tmp} {asg body : Code} {outs : List (XE × Fr × AHeap)} (hbody : hasBody (X.fns.get f) = true)
    (h : range3 R fid L fr fr' d H (.fn f first captured) ps asg body = some outs) {e0 e : Env} {a a' : Act} {w0 w : World} {mark : List Deferred} {v1 v3 : List Value} {xd : Nat × Nat} {g : Operand}
    (h1 : cvs e first = some v1) (h3 : cvs e captured = some v3) (hg : a.eval g = .func (.func f) v1.toArray v3.toArray) (ha' : a' = { a with defers := mark ++ a.defers }) (hF : FR e fr a) (hF' : FR e fr' a')
    (hH : HR (gp P X) e L H.objs.get H.next w) (hT0 : Tran e0 H0.objs.get H0.next w0 e H.objs.get H.next w) (hd : e.f d = some xd) {b : Frame} {k : List Item} {cs : List Frame} (hb1 : b.fn = fid)
    (henter : (Instr.enterLoop b.fn a.tmps ps asg body b.roundOf).run P w0 = .ok (w.heap.size, mark) { w with heap := w.heap.push (.loop { state := .ready, pending := none, fn := fid, tmps := a.tmps, params := ps, assign := asg, body := body, defers := xd.1 }) }) :
    ∃ x a1 w1, CodeOut (gp P X) L e0 H0 w0 outs x a1 w1 ∧ Arr P (lone (b.atR a (.code (.rangeFunc g ps asg body) :: k)) cs w0) b k cs x a1 w1 := by
  unfold range3 at h
  obtain ⟨l1, hl1⟩ := bindOuts_some h
  rw [hl1] at h
  obtain ⟨hfree, hGfree⟩ := hH.free (Nat.le_refl H.next)
  have hle := Env.le_ext hfree (w.heap.size, 0)
  let w2 : World := { w with heap := w.heap.push (.loop { state := .ready, pending := none, fn := fid, tmps := a.tmps, params := ps, assign := asg, body := body, defers := xd.1 }) }
  have hnd : (noDefs fr).tm = fr.tm ∧ (noDefs fr).n = fr.n := by cases fr; exact ⟨rfl, rfl⟩
  have hne : d ≠ H.next := fun he => by subst he; rw [hfree] at hd; cases hd
  have hO : ObjR (e.ext H.next (w.heap.size, 0)) ((H.next, asg, body) :: L) H.next (w.heap.size, 0) w2 (.loop .ready none fid (noDefs fr) ps.toList d) := by
    refine ⟨asg, body, xd, a.tmps, lookL_eq, by rw [Env.ext_ne _ _ hne]; exact hd, ?_, ?_⟩
    · simp [w2]
    · rw [hnd.1, hnd.2]; exact hF.tm.le hle
  have hH2 : HR (gp P X) (e.ext H.next (w.heap.size, 0)) ((H.next, asg, body) :: L) (H.new (.loop .ready none fid (noDefs fr) ps.toList d)).objs.get (H.next + 1) w2 := by
    show HR _ _ _ (H.objs.set H.next _).get _ _
    rw [get_set_upd]
    exact HR.alloc ((hH.consL hGfree asg body).bump (Nat.le_succ _)) hfree (Nat.lt_succ_self _) rfl hO
  have hT2 : Tran e H.objs.get H.next w (e.ext H.next (w.heap.size, 0)) (H.new (.loop .ready none fid (noDefs fr) ps.toList d)).objs.get (H.next + 1) w2 := by
    show Tran _ _ _ _ _ (H.objs.set H.next _).get _ _
    rw [get_set_upd]
    exact Tran.alloc hfree (Nat.le_refl _) (Nat.le_succ _) rfl rfl rfl rfl rfl
  have hyld : cvs (e.ext H.next (w.heap.size, 0)) [.yld H.next] = some [.func (.yield w.heap.size) #[] #[]] := by
    simp only [cvs, cv, Env.ext_same]
  obtain ⟨hcf, hcalls⟩ := hB _ _ _ _ _ _ _ hl1 hbody _ w2 v1 _ v3 (cvs_le hle _ _ h1) hyld (cvs_le hle _ _ h3) hH2
  have hres : (resolve a.eval (rangeCall g w.heap.size) 0).run P w2 = .ok { target := .fn (.func f) v3.toArray, args := v1.toArray ++ #[.func (.yield w.heap.size) #[] #[]] } w2 := by
    have hargs : (#[Operand.const (.func (.yield w.heap.size) #[] #[])]).map a.eval = #[Value.func (.yield w.heap.size) #[] #[]] := by simp [Act.eval]
    show (Deferred.ofValue (a.eval g) ((#[Operand.const (.func (.yield w.heap.size) #[] #[])]).map a.eval)).run P w2 = _
    rw [hg, hargs]; rfl
  have hinv : (invoke (.fn (.func f) v3.toArray) (v1.toArray ++ #[.func (.yield w.heap.size) #[] #[]])).run P w2 = .ok (.enter f (v1.toArray ++ [Value.func (.yield w.heap.size) #[] #[]].toArray ++ v3.toArray)) w2 := by
    simp only [invoke]; exact hcf
  have hstep := stepR_rangeFunc (P := P) (b := b) (a := a) (k := k) (cs := cs) (w := w0) henter hres hinv
  obtain ⟨en, w3, frl, ⟨hne3, v, H3, hm, e3, hend3, hH3, hT3⟩, hcomes, _, hleave⟩ := hcalls (b.atR { a with defers := mark ++ a.defers } (.inRangeFunc w.heap.size :: k) :: cs)
  obtain ⟨o, ho, hsub⟩ := bindOuts_mem h _ hm
  have hnp : ∀ u, v ≠ .pan u := by
    intro u hu
    subst hu
    simp [endLoopA, endLoop1] at ho
  have ho' : endLoop2 H.next fr' H3 (H3.objs.get H.next) = some o := by
    unfold endLoopA endLoop1 at ho
    split at ho
    · rename_i u hu; exact absurd hu (hnp u)
    · exact ho
  clear ho
  have ho := ho'
  obtain ⟨y, hy, rfl⟩ := endR_not hend3 hnp
  have hx3 : e3.f H.next = some (w.heap.size, 0) := hT3.le.1 _ _ (Env.ext_same _ _ _)
  have hback : Steps P (lone (b.atR a (.code (.rangeFunc g ps asg body) :: k)) cs w0) (lone (b.atR a' (.endRangeFunc w.heap.size :: k)) cs w3) := by
    refine .head hstep (Steps.trans hcomes (.one ?_))
    rw [ha', ← finish_atR_inRangeFunc w.heap.size y]; exact step_leave_returned hleave
  -- the record is forgotten
  have fin : ∀ (st : LoopState) (pend : Option XE) (fn' : FuncId) (frr : Fr) (pp : List Tmp) (dd : Nat), H3.objs.get H.next = some (.loop st pend fn' frr pp dd) → st ≠ .busy →
      ∃ w4, (Instr.endLoop w.heap.size).run P w3 = .ok (pend.map XE.toCode) w4 ∧ FR e3 fr' a' ∧ HR (gp P X) e3 L (H3.set H.next none).objs.get (H3.set H.next none).next w4 ∧
        Tran e0 H0.objs.get H0.next w0 e3 (H3.set H.next none).objs.get (H3.set H.next none).next w4 := by
    intro st pend fn' frr pp dd hob hst
    obtain ⟨r, q0, q1, q2, _⟩ := setLoop_ok (st' := .exhausted) (pend' := pend) hH3 hx3 hob
    have hsame : ∀ B, B ≠ w.heap.size → (w3.heap.setIfInBounds w.heap.size (.loop { r with state := .exhausted }))[B]? = w3.heap[B]? := fun B hB => Array.getElem?_setIfInBounds_ne (fun h => hB h.symm)
    have hset : (H3.set H.next none).objs.get = upd H3.objs.get H.next none := by show (H3.objs.set H.next none).get = _; rw [get_set_upd]
    refine ⟨{ w3 with heap := w3.heap.setIfInBounds w.heap.size (.loop { r with state := .exhausted }) }, ?_, (hF'.le (Env.le_trans hle hT3.le)), ?_, ?_⟩
    · have hnb : (r.state == .busy) = false := by rw [q1]; simpa using hst
      have q0' : w3.heap[w.heap.size]? = some (.loop r) := q0
      simp only [Instr.endLoop, Sem.run_bind, getLoop_run q0', Result.andThen_ok, hnb, Bool.false_eq_true, if_false, setObj_loop q0', Sem.run_pure, q2]
    · rw [hset]
      exact (hH3.dropWrite hob hx3 hsame).tailL (by rw [upd_same])
    · rw [hset]
      exact (hT0.trans (hT2.trans hT3)).trans (Tran.dropWrite hob hx3 rfl hsame (by simp) rfl rfl rfl)
  unfold endLoop2 at ho
  split at ho
  · cases ho
  · rename_i st fn' frr pp dd hnb hob
    simp only [Option.some.injEq] at ho; subst ho
    obtain ⟨w4, hend, hF4, hH4, hT4⟩ := fin st none fn' frr pp dd hob (fun he => hnb he)
    refine ⟨.normal, a', w4, ⟨fr', _, e3, hsub _ (by simp), hF4, hH4, hT4⟩, ?_⟩
    exact Steps.trans hback (.one (stepR_endRangeFunc hend))
  · cases ho
  · rename_i st x fn' frr pp dd hnb hnpan hob
    simp only [Option.some.injEq] at ho; subst ho
    obtain ⟨w4, hend, hF4, hH4, hT4⟩ := fin st (some x) fn' frr pp dd hob (fun he => hnb he)
    have hs4 : Steps P (lone (b.atR a (.code (.rangeFunc g ps asg body) :: k)) cs w0) (lone (b.atR a' (.code x.toCode :: k)) cs w4) := Steps.trans hback (.one (stepR_endRangeFunc hend))
    refine ⟨x, a', w4, ⟨fr', _, e3, hsub _ (by simp), hF4, hH4, hT4⟩, ?_⟩
    cases x with
    | normal => exact Steps.trans hs4 (.one stepR_skip)
    | exit id => exact ⟨k, rfl, hs4⟩
    | ret => exact ⟨k, hs4⟩
    | pan v => exact absurd rfl (hnpan v)
  · cases ho

include ok in
theorem range_ok (hB : BodyCalls P X R) {rd ro : Option Nat} {fid : FuncId} {L : Loops} {fr : Fr} {H : AHeap} {g : Operand} {ps : Array Tmp} {asg body : Code} {outs : List (XE × Fr × AHeap)}
    (h : rangeA X R rd fid L fr H ps asg body (evalA X fr.tm g) = some outs) {e : Env} {a : Act} {w : World} (hF : FR e fr a) (hH : HR (gp P X) e L H.objs.get H.next w) (hro : RdOk e rd ro) :
    CodeWP P fid ro (.rangeFunc g ps asg body) (CodeOut (gp P X) L e H w outs) a w := by
  intro b k cs hb1 hb3
  have hev := evalA_ok ok hF hH.glob
  unfold rangeA at h
  split at h
  · rename_i f first captured hfv
    simp only [brec] at h
    cases hbody : hasBody (X.fns.get f) with
    | false => rw [hbody] at h; cases h
    | true =>
      rw [hbody] at h; simp only [cond_true] at h
      obtain ⟨v1, v3, h1, h3, hg⟩ := cv_fn (hev _ _ hfv)
      unfold range2 at h
      split at h
      · -- an outermost loop
        simp only [RdOk] at hro
        obtain ⟨hfree, hGfree⟩ := hH.free (Nat.le_refl H.next)
        have hle := Env.le_ext hfree (w.heap.size, 0)
        let w1 : World := { w with heap := w.heap.push (.deferred (some [])) }
        have hH1 : HR (gp P X) (e.ext H.next (w.heap.size, 0)) L (H.new (.defr true)).objs.get (H.next + 1) w1 := by
          show HR _ _ _ (H.objs.set H.next _).get _ _
          rw [get_set_upd]
          exact HR.alloc (hH.bump (Nat.le_succ _)) hfree (Nat.lt_succ_self _) rfl (by simp [ObjR, w1])
        have hT1 : Tran e H.objs.get H.next w (e.ext H.next (w.heap.size, 0)) (H.new (.defr true)).objs.get (H.next + 1) w1 := by
          show Tran _ _ _ _ _ (H.objs.set H.next _).get _ _
          rw [get_set_upd]
          exact Tran.alloc hfree (Nat.le_refl _) (Nat.le_succ _) rfl rfl rfl rfl rfl
        have hF' : FR (e.ext H.next (w.heap.size, 0)) (pushDef fr H.next) { a with defers := [{ target := .collected w.heap.size, args := #[] }] ++ a.defers } := by
          have hFl := hF.le hle
          obtain ⟨tm, n, ds⟩ := fr
          refine ⟨hFl.tm, ?_⟩
          have := hFl.defs
          simp only at this
          simp only [pushDef, defsC, dfC, Env.ext_same, this]; rfl
        exact range_core hB hbody h (cvs_le hle _ _ h1) (cvs_le hle _ _ h3) hg rfl (hF.le hle) hF' hH1 hT1 (Env.ext_same _ _ _) hb1 (by
          rw [hb3, hro, hb1]
          simp [Instr.enterLoop, w1]; rfl)
      · rename_i l
        obtain ⟨x, hx, hro'⟩ := hro
        split at h
        · rename_i d hd
          unfold loopDfr at hd
          split at hd
          · rename_i st pend fn' frr pp dd hob
            simp only [Option.some.injEq] at hd; subst hd
            obtain ⟨r, q0, q1, q2, q3, q4, q5, q6, ⟨xd, hxd, hrd⟩, _⟩ := setLoop_ok (st' := .ready) (pend' := none) hH hx hob
            exact range_core hB hbody h h1 h3 hg (mark := []) rfl hF hF hH (Tran.refl _ _ _ _) hxd hb1 (by
              rw [hb3, hro', hb1]
              simp [Instr.enterLoop, getLoop_run q0, hrd])
          · cases hd
        · cases h
  · cases h
end
end
end Go.X
