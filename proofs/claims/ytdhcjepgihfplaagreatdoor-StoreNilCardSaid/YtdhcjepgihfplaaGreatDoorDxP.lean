/- One operation; operations in the order of the text. -/
import Derived.Test.YtdhcjepgihfplaaGreatDoorDxO
namespace Go.X
noncomputable section
set_option linter.unusedSectionVars false

theorem bindL_mem {α β : Type} {f : α → Option (List β)} : ∀ {l : List α} {r : List β}, bindL f l = some r → ∀ x ∈ l, ∃ o, f x = some o ∧ ∀ y ∈ o, y ∈ r := by
  intro l
  induction l with
  | nil => intro r _ x hx; cases hx
  | cons a l ih =>
    intro r h x hx
    simp only [bindL] at h
    cases ha : f a with
    | none => rw [ha] at h; cases h
    | some ys =>
      rw [ha] at h
      cases hl : bindL f l with
      | none => rw [hl] at h; cases h
      | some zs =>
        rw [hl] at h; simp only [Option.some.injEq] at h; subst h
        rcases List.mem_cons.1 hx with rfl | hx
        · exact ⟨ys, ha, fun y hy => List.mem_append_left _ hy⟩
        · obtain ⟨o, ho, hm⟩ := ih hl x hx
          exact ⟨o, ho, fun y hy => List.mem_append_right _ (hm y hy)⟩

theorem bindOuts_mem {α β : Type} {f : α → Option (List β)} {l : List α} {r : List β} (h : bindOuts f (some l) = some r) : ∀ x ∈ l, ∃ o, f x = some o ∧ ∀ y ∈ o, y ∈ r := by
  unfold bindOuts at h
  split at h
  · rename_i x heq
    simp only [Option.some.injEq] at heq; subst heq
    intro y hy
    simp only [List.mem_singleton] at hy; subst hy
    exact ⟨r, h, fun _ hz => hz⟩
  · rename_i l' heq
    simp only [Option.some.injEq] at heq; subst heq
    exact bindL_mem h
  · rename_i heq; cases heq

theorem bindOuts_some {α β : Type} {f : α → Option (List β)} {l : Option (List α)} {r : List β} (h : bindOuts f l = some r) : ∃ l', l = some l' := by
  cases l with
  | none => simp [bindOuts] at h
  | some l => exact ⟨l, rfl⟩

theorem RdOk.le {e e' : Env} (hle : e.le e') {rd ro : Option Nat} (h : RdOk e rd ro) : RdOk e' rd ro := by
  cases rd with
  | none => exact h
  | some l => obtain ⟨x, hx, hr⟩ := h; exact ⟨x, hle.1 _ _ hx, hr⟩

section
variable {P : Program} {X : XP} (ok : XPok P X) {R : Rec} (hR : RecOk P (gp P X) R)

include ok hR in
theorem oneOp2_ok {L : Loops} {ev : Operand → Option AV} {H : AHeap} {o : Oper} {cl : Nat} {outs : List (AV × AHeap)} (h : oneOp2 X R L ev H o.op cl = some outs) {e : Env} {a : Act} {w : World} (hev : EvOk e ev a.eval) (hH : HR (gp P X) e L H.objs.get H.next w)
    {ops : Array Oper} {i : Nat} (ho : ops[i]? = some o) (hw : Region.wanted o (yielded ops a.tmps) = true) {b : Frame} {k : List Item} {cs : List Frame} {rest : List Nat} :
    ∃ en w', ValOut (gp P X) L e H w outs en w' ∧ en ≠ .outgrown ∧ Steps P (lone (b.atR a (.inRegion ops (i :: rest) :: k)) cs w) (lone (opBack b a ops i rest k o.dst en) cs w') := by
  have hfree : e.f H.next = none := by
    cases hf : e.f H.next with
    | none => rfl
    | some x => exact absurd (hH.dom _ _ hf) (by omega)
  unfold oneOp2 at h
  split at h
  · -- quiet
    unfold quietOr at h
    split at h
    · rename_i v hq
      simp only [Option.some.injEq] at h; subst h
      obtain ⟨y, hy, hr⟩ := qop_run ok w hH hH.ora hev o hq
      have hnd : ∀ c, o.op ≠ .defer c := by intro c hc; rw [hc] at hq; simp [qop] at hq
      exact ⟨.returned y, w, ⟨v, H, by simp, e, endR_ret hy, hH, Tran.refl _ _ _ _⟩, by simp, .one (step_op_value ho hw hnd hr (.inl rfl))⟩
    · rename_i hq
      obtain ⟨v, H', hm, y, hr, hy, h1, h2, h3⟩ := forkOp_run ok w hH hev o h
      have hnd : ∀ c, o.op ≠ .defer c := by intro c hc; rw [hc] at h; simp [forkOp] at h
      exact ⟨.returned y, w, ⟨v, H', hm, e, endR_ret hy, by rw [h3]; exact h1, by rw [h3]; exact h2⟩, by simp, .one (step_op_value ho hw hnd hr (.inl rfl))⟩
  · -- a new block
    unfold one1 at h
    split at h
    · rename_i p hp
      obtain ⟨v, ob⟩ := p
      simp only [Option.some.injEq] at h; subst h
      obtain ⟨y, w', obj, hr, hheap, g1, g2, g3, hy, hO, hwr⟩ := allocOp_run ok w hev (L := L) o hp hfree
      have hnd : ∀ c, o.op ≠ .defer c := by intro c hc; rw [hc] at hp; simp [allocOp] at hp
      refine ⟨.returned y, w', ⟨v, H.new ob, by simp [newOf], e.ext H.next (w.heap.size, 0), endR_ret hy, ?_, ?_⟩, by simp, .one (step_op_value ho hw hnd hr (.inl rfl))⟩
      · show HR _ _ L (H.objs.set H.next _).get (H.next + 1) _
        rw [get_set_upd]
        exact HR.alloc (hH.bump (Nat.le_succ _)) hfree (Nat.lt_succ_self _) hheap hO
      · show Tran _ _ _ _ _ (H.objs.set H.next _).get (H.next + 1) _
        rw [get_set_upd]
        exact Tran.alloc hfree (Nat.le_refl _) (Nat.le_succ _) hwr hheap g1 g2 g3
    · cases h
  · -- a write
    unfold one1 at h
    split at h
    · rename_i p hp
      obtain ⟨v, H'⟩ := p
      simp only [Option.some.injEq, id] at h; subst h
      have hH' : HR (gp P X) e L (bump H).objs.get (H.next + 1) w := hH.bump (Nat.le_succ _)
      obtain ⟨e', y, nxt, w', hr, hn, hy, h1, h2, h3⟩ := wop_run ok w hH' hev o hp hfree (Nat.lt_succ_self _) (Nat.le_refl _)
      have hnd : ∀ c, o.op ≠ .defer c := by intro c hc; rw [hc] at hp; simp [wop] at hp
      have h3' : H'.next = H.next + 1 := h3
      exact ⟨.returned y, w', ⟨v, H', by simp, e', endR_ret hy, by rw [h3']; exact h1, by rw [h3']; exact h2⟩, by simp, .one (step_op_value ho hw hnd hr hn)⟩
    · cases h
  · -- a call
    unfold callOp at h
    split at h
    · rename_i c hc
      obtain ⟨callee, args, ts⟩ := c
      cases callee with
      | value f =>
        simp only [callOf] at h
        unfold callVals at h
        split at h
        · rename_i fv vs hf hvs
          obtain ⟨n, w1, hr, hn⟩ := hR.call _ _ _ _ _ h e w _ _ (hev _ _ hf) (evals_cvs hev hvs) hH
          have hnd : ∀ c, o.op ≠ .defer c := by intro c hc'; rw [hc] at hc'; cases hc'
          have hexec : (execOp a.eval o).run P w = .ok n w1 := by
            rw [← hr]
            simp only [execOp, hc, resolve]
            have : args.map a.eval = (args.toList.map a.eval).toArray := by apply Array.ext'; simp
            rw [this]
          exact steps_op_call ho hw hnd hexec hn
        · cases h
      | _ => simp [callOf] at h
    · cases h

include ok hR in
theorem oneOp_ok {L : Loops} {fr : Fr} {H : AHeap} {o : Oper} {outs : List (AV × AHeap)} (h : oneOp X R L fr H o = some outs) {e : Env} {a : Act} {w : World} (hF : FR e fr a) (hH : HR (gp P X) e L H.objs.get H.next w)
    {ops : Array Oper} {i : Nat} (ho : ops[i]? = some o) (hw : Region.wanted o (yielded ops a.tmps) = true) {b : Frame} {k : List Item} {cs : List Frame} {rest : List Nat} :
    ∃ en w', ValOut (gp P X) L e H w outs en w' ∧ en ≠ .outgrown ∧ Steps P (lone (b.atR a (.inRegion ops (i :: rest) :: k)) cs w) (lone (opBack b a ops i rest k o.dst en) cs w') :=
  oneOp2_ok ok hR h (evalA_ok ok hF hH.glob) hH ho hw

theorem outsOr_mem {α β : Type} {f : α → Option (List β)} {z : Option (List β)} {l : List α} {r : List β} (h : outsOr f z (some l) = some r) : ∀ x ∈ l, ∃ o, f x = some o ∧ ∀ y ∈ o, y ∈ r := by
  unfold outsOr at h
  split at h
  · rename_i x heq
    simp only [Option.some.injEq] at heq; subst heq
    intro y hy
    simp only [List.mem_singleton] at hy; subst hy
    exact ⟨r, h, fun _ hz => hz⟩
  · rename_i l' heq
    simp only [Option.some.injEq] at heq; subst heq
    exact bindL_mem h
  · rename_i heq; cases heq

theorem FR.def {e : Env} {fr : Fr} {a : Act} (h : FR e fr a) {d : DF} {D : Deferred} (hd : dfC e d = some D) : FR e (fr.def d) { a with defers := D :: a.defers } := by
  obtain ⟨tm, n, ds⟩ := fr
  have h2 := h.defs
  simp only at h2
  exact ⟨h.tm, by simp only [Fr.def, defsC, hd, h2]⟩

/-- a defer statement -/
theorem step_op_defer {b : Frame} {a : Act} {k : List Item} {cs : List Frame} {w : World} {ops : Array Oper} {i : Nat} {rest : List Nat} {o : Oper} (ho : ops[i]? = some o) (hw : Region.wanted o (yielded ops a.tmps) = true) (hro : b.roundOf = none) {D : Deferred}
    (hr : (execOp a.eval o).run P w = .ok (.defer D) w) :
    step P (lone (b.atR a (.inRegion ops (i :: rest) :: k)) cs w) = .next (lone (b.atR ({ (a.put o.dst Go.undef) with defers := D :: (a.put o.dst Go.undef).defers }) (.inRegion ops rest :: k)) cs w) := by
  have hg := stepGR_op (P := P) (b := b) (k := k) (cs := cs) (w := w) (rest := rest) ho hw
  rw [hro, Oper.semAt_none] at hg
  refine step_lone_go ?_
  have h1 : ({ b.atR a (.inRegion ops (i :: rest) :: k) with defers := D :: a.defers } : Frame).finish Go.undef = b.atR ({ a with defers := D :: a.defers }.put o.dst Go.undef) (.inRegion ops rest :: k) := by
    have := Frame.finish_atR b { a with defers := D :: a.defers } ops i rest k Go.undef
    rw [ho] at this; exact this
  have h2 : ({ a with defers := D :: a.defers } : Act).put o.dst Go.undef = { (a.put o.dst Go.undef) with defers := D :: (a.put o.dst Go.undef).defers } := by
    cases o.dst <;> rfl
  rw [hg, ← h2, ← h1]
  simp only [stepG.apply, Sem.runT_eq, hr, GStep.bare_after]
  rfl

/-- a panic -/
theorem step_op_panic {b : Frame} {a : Act} {k : List Item} {cs : List Frame} {w : World} {ops : Array Oper} {i : Nat} {rest : List Nat} {o : Oper} (ho : ops[i]? = some o) (hw : Region.wanted o (yielded ops a.tmps) = true) (hd : ∀ c, o.op ≠ .defer c) {y : Value}
    (hr : (execOp a.eval o).run P w = .halt (.panic y) w) :
    step P (lone (b.atR a (.inRegion ops (i :: rest) :: k)) cs w) = .next (lone { b.atR a (.inRegion ops (i :: rest) :: k) with mode := .panicking (panE y) } cs w) := by
  have hg := stepGR_op (P := P) (b := b) (k := k) (cs := cs) (w := w) (rest := rest) ho hw
  rw [Oper.semAt_eq _ _ _ hd] at hg
  refine step_lone_go ?_
  rw [hg]
  simp only [stepG.apply, Sem.runT_eq, hr, GStep.bare_after]
  rfl

include ok hR in
theorem runOps_ok {rd ro : Option Nat} {L : Loops} {ops : Array Oper} : ∀ (os : List Oper) (j : Nat), ops.toList.drop j = os → ∀ (fr : Fr) (H : AHeap) (outs : List (XE × Fr × AHeap)), runOps X R rd L ops.toList os fr H = some outs →
    ∀ (e : Env) (a : Act) (w : World), FR e fr a → HR (gp P X) e L H.objs.get H.next w → RdOk e rd ro → ∀ (b : Frame) (k : List Item) (cs : List Frame), b.roundOf = ro →
      ∃ x a' w', CodeOut (gp P X) L e H w outs x a' w' ∧ Arr P (lone (b.atR a (.inRegion ops (List.range' j os.length) :: k)) cs w) b k cs x a' w' := by
  intro os
  induction os with
  | nil =>
    intro j _ fr H outs h e a w hF hH _ b k cs _
    simp only [runOps, Option.some.injEq] at h; subst h
    exact ⟨.normal, a, w, ⟨fr, H, e, by simp, hF, hH, Tran.refl _ _ _ _⟩, .one stepR_region_end⟩
  | cons o os ih =>
    intro j hj fr H outs h e a w hF hH hro b k cs hb
    have hoj : ops[j]? = some o := by
      have : (ops.toList.drop j)[0]? = some o := by rw [hj]; rfl
      simpa using this
    have hj' : ops.toList.drop (j + 1) = os := by
      have := congrArg List.tail hj
      simpa using this
    have hrange : List.range' j (o :: os).length = j :: List.range' (j + 1) os.length := by simp [List.range'_succ]
    rw [hrange]
    simp only [runOps] at h
    cases hwa : wantedA ops.toList fr.tm o.guard with
    | none => rw [hwa] at h; cases h
    | some t =>
      rw [hwa] at h
      have hw := wantedA_ok hF.tm hwa
      cases t with
      | false =>
        simp only at h
        obtain ⟨x, a', w', hout, hs⟩ := ih (j + 1) hj' _ _ _ h e (a.put o.dst Go.undef) w (hF.put o.dst rfl) hH hro b k cs hb
        refine ⟨x, a', w', hout, .of_steps (.one ?_) hs⟩
        have := stepR_op_skip (P := P) (b := b) (a := a) (k := k) (cs := cs) (w := w) (ops := ops) (i := j) (rest := List.range' (j + 1) os.length) (by simp [hoj, hw])
        rw [hoj] at this
        exact this
      | true =>
        simp only at h
        cases hl : oneOp X R L fr H o with
        | some l =>
          rw [hl] at h
          obtain ⟨en, w1, ⟨v, H1, hm, e1, hend, hH1, hT1⟩, _, hs1⟩ := oneOp_ok ok hR hl hF hH hoj hw (b := b) (k := k) (cs := cs) (rest := List.range' (j + 1) os.length)
          obtain ⟨o1, ho1, hsub⟩ := outsOr_mem h (v, H1) hm
          by_cases hp : ∃ u, v = .pan u
          · obtain ⟨u, rfl⟩ := hp
            simp only [contP, Option.some.injEq] at ho1; subst ho1
            obtain ⟨y, hc, hy, rfl⟩ := hend
            exact ⟨.pan u, a, w1, ⟨fr, H1, e1, hsub _ (by simp), hF.le hT1.le, hH1, hT1⟩, y, _, hc, by rw [closed_cv eNil e1 u hc]; exact hy, hs1⟩
          · have hp' : ∀ u, v ≠ .pan u := fun u hu => hp ⟨u, hu⟩
            obtain ⟨y, hy, rfl⟩ := endR_not hend hp'
            have hk : contP fr H1 (runOps X R rd L ops.toList os (fr.put o.dst v) H1) v = runOps X R rd L ops.toList os (fr.put o.dst v) H1 := by
              unfold contP
              split
              · exact absurd rfl (hp' _)
              · rfl
            rw [hk] at ho1
            obtain ⟨x, a', w', hout, hs⟩ := ih (j + 1) hj' _ _ _ ho1 e1 (a.put o.dst y) w1 ((hF.le hT1.le).put o.dst hy) hH1 (hro.le hT1.le) b k cs hb
            obtain ⟨fr', H', e', hm', hF', hH', hT'⟩ := hout
            exact ⟨x, a', w', ⟨fr', H', e', hsub _ hm', hF', hH', hT1.trans hT'⟩, .of_steps hs1 hs⟩
        | none =>
          rw [hl] at h
          simp only [outsOr] at h
          have hev := evalA_ok ok hF hH.glob
          unfold special at h
          split at h
          · rename_i c hc
            obtain ⟨callee, args, ts⟩ := c
            split at h
            · rename_i d hd
              simp only [RdOk] at hro
              cases callee with
              | value f =>
                simp only [dfCall] at hd
                unfold dfFn at hd
                split at hd
                · rename_i g fs cs' vs hf hvs
                  simp only [Option.some.injEq] at hd; subst hd
                  obtain ⟨v1, v3, h1, h3, hρ⟩ := cv_fn (hev _ _ hf)
                  have h2 := evals_cvs hev hvs
                  have hD : dfC e (.cl g (fs ++ vs) cs') = some { target := .fn (.func g) v3.toArray, args := (v1 ++ args.toList.map a.eval).toArray } := by
                    simp only [dfC, cvs_append h1 h2, h3]
                  have hrun : (execOp a.eval o).run P w = .ok (.defer { target := .fn (.func g) v3.toArray, args := (v1 ++ args.toList.map a.eval).toArray }) w := by
                    simp only [execOp, hc, resolve, hρ]
                    have : args.map a.eval = (args.toList.map a.eval).toArray := by apply Array.ext'; simp
                    rw [this]
                    simp [Deferred.ofValue]
                  have hst := step_op_defer (P := P) (b := b) (a := a) (k := k) (cs := cs) (w := w) (rest := List.range' (j + 1) os.length) hoj hw (hb.trans hro) hrun
                  obtain ⟨x, a', w', hout, hs⟩ := ih (j + 1) hj' _ _ _ h e _ w ((hF.put o.dst rfl).def hD) hH (by simp only [RdOk]; exact hro) b k cs hb
                  exact ⟨x, a', w', hout, .of_steps (.one hst) hs⟩
                · cases hd
              | _ => simp [dfCall] at hd
            · cases h
          · rename_i x hx
            split at h
            · rename_i v hv
              simp only [Option.some.injEq] at h; subst h
              unfold panVal at hv
              split at hv
              · rename_i t u hxu
                simp only [brec] at hv
                cases hcl : u.closed with
                | false => rw [hcl] at hv; cases hv
                | true =>
                  rw [hcl] at hv; simp only [cond_true, Option.some.injEq] at hv; subst hv
                  have hcv := hev _ _ hxu
                  have hcc : (AV.ifc t u).closed = true := hcl
                  have hif : ∃ z, a.eval x = .iface t z := by
                    simp only [cv] at hcv
                    cases hu : cv e u with
                    | none => rw [hu] at hcv; cases hcv
                    | some z => rw [hu] at hcv; simp only [Option.some.injEq] at hcv; exact ⟨z, hcv.symm⟩
                  obtain ⟨z, hz⟩ := hif
                  have hnd : ∀ c, o.op ≠ .defer c := by intro c hc'; rw [hx] at hc'; cases hc'
                  have hrun : (execOp a.eval o).run P w = .halt (.panic (a.eval x)) w := by
                    simp only [execOp, hx, hz, Instr.panic]; rfl
                  exact ⟨.pan (.ifc t u), a, w, ⟨fr, H, e, by simp, hF, hH, Tran.refl _ _ _ _⟩, a.eval x, _, hcc, by rw [closed_cv eNil e _ hcc]; exact hcv, .one (step_op_panic hoj hw hnd hrun)⟩
              · cases hv
            · cases h
          · cases h
end
end
end Go.X
