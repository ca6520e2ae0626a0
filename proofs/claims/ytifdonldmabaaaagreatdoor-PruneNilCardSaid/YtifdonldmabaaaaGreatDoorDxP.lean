/- One operation; operations in the order of the text. -/
import Derived.Test.YtifdonldmabaaaaGreatDoorDxO
namespace Go.X
noncomputable section
set_option linter.unusedSectionVars false

theorem bindL_mem {α β : Type} {f : α → Option (List β)} : ∀ {l : List α} {r : List β}, bindL f l = some r → ∀ x ∈ l, ∃ o, f x = some o ∧ ∀ y ∈ o, y ∈ r := by
  intro l
  induction l with
  | nil => intro r _ x hx; cases hx
  | cons a l ih =>
    intro r h x hx
    simp only [bindL] at h
    cases ha : f a with
    | none => rw [ha] at h; cases h
    | some ys =>
      rw [ha] at h
      cases hl : bindL f l with
      | none => rw [hl] at h; cases h
      | some zs =>
        rw [hl] at h; simp only [Option.some.injEq] at h; subst h
        rcases List.mem_cons.1 hx with rfl | hx
        · exact ⟨ys, ha, fun y hy => List.mem_append_left _ hy⟩
        · obtain ⟨o, ho, hm⟩ := ih hl x hx
          exact ⟨o, ho, fun y hy => List.mem_append_right _ (hm y hy)⟩

theorem bindOuts_mem {α β : Type} {f : α → Option (List β)} {l : List α} {r : List β} (h : bindOuts f (some l) = some r) : ∀ x ∈ l, ∃ o, f x = some o ∧ ∀ y ∈ o, y ∈ r := by
  unfold bindOuts at h
  split at h
  · rename_i x heq
    simp only [Option.some.injEq] at heq; subst heq
    intro y hy
    simp only [List.mem_singleton] at hy; subst hy
    exact ⟨r, h, fun _ hz => hz⟩
  · rename_i l' heq
    simp only [Option.some.injEq] at heq; subst heq
    exact bindL_mem h
  · rename_i heq; cases heq

theorem bindOuts_some {α β : Type} {f : α → Option (List β)} {l : Option (List α)} {r : List β} (h : bindOuts f l = some r) : ∃ l', l = some l' := by
  cases l with
  | none => simp [bindOuts] at h
  | some l => exact ⟨l, rfl⟩

section
variable {P : Program} {X : XP} (ok : XPok P X) {R : Rec} (hR : RecOk P P.globals.size R)

include ok hR in
theorem oneOp2_ok {L : Loops} {ev : Operand → Option AV} {H : AHeap} {o : Oper} {cl : Nat} {outs : List (AV × AHeap)} (h : oneOp2 X R L ev H o.op cl = some outs) {e : Env} {a : Act} {w : World} (hev : EvOk e ev a.eval) (hH : HR P.globals.size e L H.objs.get H.next w)
    {ops : Array Oper} {i : Nat} (ho : ops[i]? = some o) (hw : Region.wanted o (yielded ops a.tmps) = true) {b : Frame} {k : List Item} {cs : List Frame} {rest : List Nat} (hk : b.kind = .normal) :
    ∃ y w', ValOut P.globals.size L e H w outs y w' ∧ Steps P (lone (b.atR a (.inRegion ops (i :: rest) :: k)) cs w) (lone (b.atR (a.put o.dst y) (.inRegion ops rest :: k)) cs w') := by
  have hfree : e.f H.next = none := by
    cases hf : e.f H.next with
    | none => rfl
    | some x => exact absurd (hH.dom _ _ hf) (by omega)
  unfold oneOp2 at h
  split at h
  · -- quiet
    unfold quietOr at h
    split at h
    · rename_i v hq
      simp only [Option.some.injEq] at h; subst h
      obtain ⟨y, hy, hr⟩ := qop_run ok w hH hev o hq
      have hnd : ∀ c, o.op ≠ .defer c := by intro c hc; rw [hc] at hq; simp [qop] at hq
      exact ⟨y, w, ⟨v, H, by simp, e, hy, hH, Tran.refl _ _ _ _⟩, .one (step_op_value ho hw hnd hr (.inl rfl))⟩
    · rename_i hq
      obtain ⟨v, H', hm, y, hr, hy, h1, h2, h3⟩ := forkOp_run ok w hH hev o h
      have hnd : ∀ c, o.op ≠ .defer c := by intro c hc; rw [hc] at h; simp [forkOp] at h
      exact ⟨y, w, ⟨v, H', hm, e, hy, by rw [h3]; exact h1, by rw [h3]; exact h2⟩, .one (step_op_value ho hw hnd hr (.inl rfl))⟩
  · -- a new block
    unfold one1 at h
    split at h
    · rename_i p hp
      obtain ⟨v, ob⟩ := p
      simp only [Option.some.injEq] at h; subst h
      obtain ⟨y, w', obj, hr, hheap, g1, g2, g3, hy, hO, hwr⟩ := allocOp_run ok w hev (L := L) o hp hfree
      have hnd : ∀ c, o.op ≠ .defer c := by intro c hc; rw [hc] at hp; simp [allocOp] at hp
      refine ⟨y, w', ⟨v, H.new ob, by simp [newOf], e.ext H.next (w.heap.size, 0), hy, ?_, ?_⟩, .one (step_op_value ho hw hnd hr (.inl rfl))⟩
      · show HR _ _ L (H.objs.set H.next _).get (H.next + 1) _
        rw [get_set_upd]
        exact HR.alloc (hH.bump (Nat.le_succ _)) hfree (Nat.lt_succ_self _) hheap hO
      · show Tran _ _ _ _ _ (H.objs.set H.next _).get (H.next + 1) _
        rw [get_set_upd]
        exact Tran.alloc hfree (Nat.le_refl _) (Nat.le_succ _) hwr hheap g1 g2 g3
    · cases h
  · -- a write
    unfold one1 at h
    split at h
    · rename_i p hp
      obtain ⟨v, H'⟩ := p
      simp only [Option.some.injEq, id] at h; subst h
      have hH' : HR P.globals.size e L (bump H).objs.get (H.next + 1) w := hH.bump (Nat.le_succ _)
      obtain ⟨e', y, nxt, w', hr, hn, hy, h1, h2, h3⟩ := wop_run ok w hH' hev o hp hfree (Nat.lt_succ_self _) (Nat.le_refl _)
      have hnd : ∀ c, o.op ≠ .defer c := by intro c hc; rw [hc] at hp; simp [wop] at hp
      have h3' : H'.next = H.next + 1 := h3
      exact ⟨y, w', ⟨v, H', by simp, e', hy, by rw [h3']; exact h1, by rw [h3']; exact h2⟩, .one (step_op_value ho hw hnd hr hn)⟩
    · cases h
  · -- a call
    unfold callOp at h
    split at h
    · rename_i c hc
      obtain ⟨callee, args, ts⟩ := c
      cases callee with
      | value f =>
        simp only [callOf] at h
        unfold callVals at h
        split at h
        · rename_i fv vs hf hvs
          obtain ⟨n, w1, hr, hn⟩ := hR.call _ _ _ _ _ h e w _ _ (hev _ _ hf) (evals_cvs hev hvs) hH
          have hnd : ∀ c, o.op ≠ .defer c := by intro c hc'; rw [hc] at hc'; cases hc'
          have hexec : (execOp a.eval o).run P w = .ok n w1 := by
            rw [← hr]
            simp only [execOp, hc, resolve]
            have : args.map a.eval = (args.toList.map a.eval).toArray := by apply Array.ext'; simp
            rw [this]
          exact steps_op_call ho hw hnd hexec hn hk
        · cases h
      | _ => simp [callOf] at h
    · cases h

include ok hR in
theorem oneOp_ok {L : Loops} {fr : Fr} {H : AHeap} {o : Oper} {outs : List (AV × AHeap)} (h : oneOp X R L fr H o = some outs) {e : Env} {a : Act} {w : World} (hF : FR e fr a) (hH : HR P.globals.size e L H.objs.get H.next w)
    {ops : Array Oper} {i : Nat} (ho : ops[i]? = some o) (hw : Region.wanted o (yielded ops a.tmps) = true) {b : Frame} {k : List Item} {cs : List Frame} {rest : List Nat} (hk : b.kind = .normal) :
    ∃ y w', ValOut P.globals.size L e H w outs y w' ∧ Steps P (lone (b.atR a (.inRegion ops (i :: rest) :: k)) cs w) (lone (b.atR (a.put o.dst y) (.inRegion ops rest :: k)) cs w') :=
  oneOp2_ok ok hR h (evalA_ok ok hF hH.glob) hH ho hw hk

include ok hR in
theorem runOps_ok {L : Loops} {ops : Array Oper} : ∀ (os : List Oper) (j : Nat), ops.toList.drop j = os → ∀ (fr : Fr) (H : AHeap) (outs : List (XE × Fr × AHeap)), runOps X R L ops.toList os fr H = some outs →
    ∀ (e : Env) (a : Act) (w : World), FR e fr a → HR P.globals.size e L H.objs.get H.next w → ∀ (b : Frame) (k : List Item) (cs : List Frame), b.kind = .normal →
      ∃ a' w', CodeOut P.globals.size L e H w outs .normal a' w' ∧ Steps P (lone (b.atR a (.inRegion ops (List.range' j os.length) :: k)) cs w) (lone (b.atR a' k) cs w') := by
  intro os
  induction os with
  | nil =>
    intro j _ fr H outs h e a w hF hH b k cs _
    simp only [runOps, Option.some.injEq] at h; subst h
    exact ⟨a, w, ⟨fr, H, e, by simp, hF, hH, Tran.refl _ _ _ _⟩, .one stepR_region_end⟩
  | cons o os ih =>
    intro j hj fr H outs h e a w hF hH b k cs hk
    have hoj : ops[j]? = some o := by
      have : (ops.toList.drop j)[0]? = some o := by rw [hj]; rfl
      simpa using this
    have hj' : ops.toList.drop (j + 1) = os := by
      have := congrArg List.tail hj
      simpa using this
    simp only [runOps] at h
    cases hwa : wantedA ops.toList fr.tm o.guard with
    | none => rw [hwa] at h; cases h
    | some t =>
      rw [hwa] at h
      have hw := wantedA_ok hF.tm hwa
      cases t with
      | false =>
        simp only at h
        obtain ⟨a', w', hout, hs⟩ := ih (j + 1) hj' _ _ _ h e (a.put o.dst Go.undef) w (hF.put o.dst rfl) hH b k cs hk
        refine ⟨a', w', hout, .head ?_ hs⟩
        have := stepR_op_skip (P := P) (b := b) (a := a) (k := k) (cs := cs) (w := w) (ops := ops) (i := j) (rest := List.range' (j + 1) os.length) (by simp [hoj, hw])
        rw [hoj] at this
        simpa [List.range'_succ] using this
      | true =>
        simp only at h
        obtain ⟨l, hl⟩ := bindOuts_some h
        rw [hl] at h
        obtain ⟨y, w1, ⟨v, H1, hm, e1, hy, hH1, hT1⟩, hs1⟩ := oneOp_ok ok hR hl hF hH hoj hw (b := b) (k := k) (cs := cs) (rest := List.range' (j + 1) os.length) hk
        obtain ⟨o1, ho1, hsub⟩ := bindOuts_mem h (v, H1) hm
        obtain ⟨a', w', ⟨fr', H', e', hm', hF', hH', hT'⟩, hs⟩ := ih (j + 1) hj' _ _ _ ho1 e1 (a.put o.dst y) w1 ((hF.le hT1.le).put o.dst hy) hH1 b k cs hk
        refine ⟨a', w', ⟨fr', H', e', hsub _ hm', hF', hH', hT1.trans hT'⟩, ?_⟩
        have : List.range' j (o :: os).length = j :: List.range' (j + 1) os.length := by simp [List.range'_succ]
        rw [this]
        exact Steps.trans hs1 hs
end
end
end Go.X
