/- Control. -/
import Derived.Test.YtdhcjepgihfplaaGreatDoorDxP
namespace Go.X
noncomputable section
set_option linter.unusedSectionVars false

theorem bindX_mem {f : Fr → AHeap → Option (List (XE × Fr × AHeap))} : ∀ {l r : List (XE × Fr × AHeap)}, bindX f l = some r → ∀ x fr H, (x, fr, H) ∈ l →
    (x = .normal ∧ ∃ o, f fr H = some o ∧ ∀ y ∈ o, y ∈ r) ∨ (x ≠ .normal ∧ (x, fr, H) ∈ r) := by
  intro l
  induction l with
  | nil => intro r _ x fr H hm; cases hm
  | cons p l ih =>
    intro r h x fr H hm
    obtain ⟨x0, fr0, H0⟩ := p
    have other : x0 ≠ .normal → (∃ zs, bindX f l = some zs ∧ r = (x0, fr0, H0) :: zs) → (x = .normal ∧ ∃ o, f fr H = some o ∧ ∀ y ∈ o, y ∈ r) ∨ (x ≠ .normal ∧ (x, fr, H) ∈ r) := by
      rintro hne ⟨zs, hl, rfl⟩
      rcases List.mem_cons.1 hm with heq | hm
      · cases heq; exact .inr ⟨hne, List.mem_cons_self ..⟩
      · rcases ih hl x fr H hm with ⟨h1, o, h2, h3⟩ | ⟨h1, h2⟩
        · exact .inl ⟨h1, o, h2, fun y hy => List.mem_cons_of_mem _ (h3 y hy)⟩
        · exact .inr ⟨h1, List.mem_cons_of_mem _ h2⟩
    cases x0 with
    | normal =>
      cases l with
      | nil =>
        simp only [bindX] at h
        simp only [List.mem_singleton] at hm; cases hm
        exact .inl ⟨rfl, r, h, fun _ hy => hy⟩
      | cons q l =>
        simp only [bindX] at h
        cases hf : f fr0 H0 with
        | none => rw [hf] at h; cases h
        | some ys =>
          rw [hf] at h
          cases hl : bindX f (q :: l) with
          | none => rw [hl] at h; cases h
          | some zs =>
            rw [hl] at h; simp only [Option.some.injEq] at h; subst h
            rcases List.mem_cons.1 hm with heq | hm
            · cases heq; exact .inl ⟨rfl, ys, hf, fun y hy => List.mem_append_left _ hy⟩
            · rcases ih hl x fr H hm with ⟨h1, o, h2, h3⟩ | ⟨h1, h2⟩
              · exact .inl ⟨h1, o, h2, fun y hy => List.mem_append_right _ (h3 y hy)⟩
              · exact .inr ⟨h1, List.mem_append_right _ h2⟩
    | exit id =>
      refine other (by simp) ?_
      simp only [bindX] at h
      cases hl : bindX f l with
      | none => rw [hl] at h; cases h
      | some zs => rw [hl] at h; simp only [Option.some.injEq] at h; exact ⟨zs, rfl, h.symm⟩
    | ret =>
      refine other (by simp) ?_
      simp only [bindX] at h
      cases hl : bindX f l with
      | none => rw [hl] at h; cases h
      | some zs => rw [hl] at h; simp only [Option.some.injEq] at h; exact ⟨zs, rfl, h.symm⟩
    | pan v =>
      refine other (by simp) ?_
      simp only [bindX] at h
      cases hl : bindX f l with
      | none => rw [hl] at h; cases h
      | some zs => rw [hl] at h; simp only [Option.some.injEq] at h; exact ⟨zs, rfl, h.symm⟩

theorem seqA_some {f : Fr → AHeap → Option (List (XE × Fr × AHeap))} {o : Option (List (XE × Fr × AHeap))} {r : List (XE × Fr × AHeap)} (h : seqA f o = some r) : ∃ l, o = some l ∧ bindX f l = some r := by
  cases o with
  | none => simp [seqA] at h
  | some l => exact ⟨l, rfl, h⟩

/-- passing by an item that catches nothing -/
theorem Arr.pass {P : Program} {m : Machine} {b : Frame} {it : Item} {k : List Item} {cs : List Frame} {x : XE} {a : Act} {w : World} (hit : ∀ id, exitTo id (it :: k) = exitTo id k) (hx : x ≠ .normal) (h : Arr P m b (it :: k) cs x a w) : Arr P m b k cs x a w := by
  cases x with
  | normal => exact absurd rfl hx
  | exit id => obtain ⟨t, h1, h2⟩ := h; exact ⟨t, h1.trans (hit id), h2⟩
  | ret => exact h
  | pan v => exact h

theorem CodeOut.trans {NG : GP} {L : Loops} {e e1 : Env} {H H1 : AHeap} {w w1 : World} {o outs : List (XE × Fr × AHeap)} {x : XE} {a : Act} {w' : World} (hT : Tran e H.objs.get H.next w e1 H1.objs.get H1.next w1)
    (hsub : ∀ y ∈ o, y ∈ outs) (h : CodeOut NG L e1 H1 w1 o x a w') : CodeOut NG L e H w outs x a w' := by
  obtain ⟨fr', H', e', hm, hF, hH, hT'⟩ := h
  exact ⟨fr', H', e', hsub _ hm, hF, hH, hT.trans hT'⟩

theorem loop_start {P : Program} {b : Frame} {a : Act} {c : Code} {k : List Item} {cs : List Frame} {w : World} {m' : Machine} (h : Steps P (lone (b.atR a (.code (.loop c) :: k)) cs w) m') (hne : m' ≠ lone (b.atR a (.code (.loop c) :: k)) cs w) :
    Steps P (lone (b.atR a (.inLoop c :: k)) cs w) m' := by
  obtain ⟨n, hn⟩ := h
  cases n with
  | zero => simp only [runN] at hn; injection hn with hn; exact absurd hn.symm hne
  | succ n =>
    refine ⟨n + 1, ?_⟩
    simp only [runN, stepR_loop] at hn
    simp only [runN, stepR_inLoop]
    exact hn

theorem atR_todo {b b' : Frame} {a a' : Act} {t t' : List Item} {cs cs' : List Frame} {w w' : World} (h : lone (b.atR a t) cs w = lone (b'.atR a' t') cs' w') : t = t' := by
  simp only [lone, Machine.mk.injEq, Array.mk.injEq, List.cons.injEq, Goroutine.mk.injEq] at h
  have := h.2.1.1.1
  simp only [Frame.atR, Frame.mk.injEq] at this
  exact this.2.2.1

theorem pan_mode {b b' : Frame} {a a' : Act} {t t' : List Item} {cs cs' : List Frame} {w w' : World} {ch : List PanicEntry} (h : lone { b.atR a t with mode := .panicking ch } cs w = lone (b'.atR a' t') cs' w') : FrameMode.panicking ch = .run := by
  simp only [lone, Machine.mk.injEq, Array.mk.injEq, List.cons.injEq, Goroutine.mk.injEq] at h
  have := h.2.1.1.1
  simp only [Frame.atR, Frame.mk.injEq] at this
  exact this.2.2.2.2.1

section
variable {P : Program} {X : XP} (ok : XPok P X) {R : Rec} (hR : RecOk P (gp P X) R)

include hR in
theorem seq_ok {rd ro : Option Nat} {fid : FuncId} {L : Loops} {fr : Fr} {H : AHeap} {c1 c2 : Code} {outs : List (XE × Fr × AHeap)}
    (h : seqA (fun fr H => R.code rd fid L fr H c2) (R.code rd fid L fr H c1) = some outs) {e : Env} {a : Act} {w : World} (hF : FR e fr a) (hH : HR (gp P X) e L H.objs.get H.next w) (hro : RdOk e rd ro) :
    CodeWP P fid ro (.seq c1 c2) (CodeOut (gp P X) L e H w outs) a w := by
  obtain ⟨l, hl, hb⟩ := seqA_some h
  intro b k cs hb1 hb3
  obtain ⟨x, a1, w1, ⟨fr1, H1, e1, hm, hF1, hH1, hT1⟩, harr⟩ := hR.code _ _ _ _ _ _ _ hl e a w ro hF hH hro b (.code c2 :: k) cs hb1 hb3
  rcases bindX_mem hb x fr1 H1 hm with ⟨rfl, o, ho, hsub⟩ | ⟨hx, hm'⟩
  · obtain ⟨x2, a2, w2, hout, harr2⟩ := hR.code _ _ _ _ _ _ _ ho e1 a1 w1 ro hF1 hH1 (hro.le hT1.le) b k cs hb1 hb3
    exact ⟨x2, a2, w2, hout.trans hT1 hsub, .of_steps (.head stepR_seq harr) harr2⟩
  · exact ⟨x, a1, w1, ⟨fr1, H1, e1, hm', hF1, hH1, hT1⟩, .of_steps (.one stepR_seq) (.pass (fun _ => rfl) hx harr)⟩

include hR in
theorem loop_ok {rd ro : Option Nat} {fid : FuncId} {L : Loops} {fr : Fr} {H : AHeap} {c : Code} {outs : List (XE × Fr × AHeap)}
    (h : seqA (fun fr H => R.code rd fid L fr H (.loop c)) (R.code rd fid L fr H c) = some outs) {e : Env} {a : Act} {w : World} (hF : FR e fr a) (hH : HR (gp P X) e L H.objs.get H.next w) (hro : RdOk e rd ro) :
    CodeWP P fid ro (.loop c) (CodeOut (gp P X) L e H w outs) a w := by
  obtain ⟨l, hl, hb⟩ := seqA_some h
  intro b k cs hb1 hb3
  obtain ⟨x, a1, w1, ⟨fr1, H1, e1, hm, hF1, hH1, hT1⟩, harr⟩ := hR.code _ _ _ _ _ _ _ hl e a w ro hF hH hro b (.inLoop c :: k) cs hb1 hb3
  rcases bindX_mem hb x fr1 H1 hm with ⟨rfl, o, ho, hsub⟩ | ⟨hx, hm'⟩
  · obtain ⟨x2, a2, w2, hout, harr2⟩ := hR.code _ _ _ _ _ _ _ ho e1 a1 w1 ro hF1 hH1 (hro.le hT1.le) b k cs hb1 hb3
    refine ⟨x2, a2, w2, hout.trans hT1 hsub, ?_⟩
    have h1 : Steps P (lone (b.atR a (.code (.loop c) :: k)) cs w) (lone (b.atR a1 (.inLoop c :: k)) cs w1) := .head stepR_loop harr
    cases x2 with
    | normal => exact Steps.trans h1 (loop_start harr2 (fun he => by have := congrArg List.length (atR_todo he); simp at this))
    | exit id => obtain ⟨t, g1, g2⟩ := harr2; exact ⟨t, g1, Steps.trans h1 (loop_start g2 (fun he => by have := atR_todo he; simp at this))⟩
    | ret => obtain ⟨t, g2⟩ := harr2; exact ⟨t, Steps.trans h1 (loop_start g2 (fun he => by have := atR_todo he; simp at this))⟩
    | pan v => obtain ⟨y, t, g1, g2, g3⟩ := harr2; exact ⟨y, t, g1, g2, Steps.trans h1 (loop_start g3 (fun he => by have := pan_mode he; cases this))⟩
  · exact ⟨x, a1, w1, ⟨fr1, H1, e1, hm', hF1, hH1, hT1⟩, .of_steps (.one stepR_loop) (.pass (fun _ => rfl) hx harr)⟩

include hR in
theorem block_ok {rd ro : Option Nat} {fid : FuncId} {L : Loops} {fr : Fr} {H : AHeap} {c : Code} {id : Nat} {outs : List (XE × Fr × AHeap)}
    (h : blockA id (R.code rd fid L fr H c) = some outs) {e : Env} {a : Act} {w : World} (hF : FR e fr a) (hH : HR (gp P X) e L H.objs.get H.next w) (hro : RdOk e rd ro) :
    CodeWP P fid ro (.block id c) (CodeOut (gp P X) L e H w outs) a w := by
  cases hl : R.code rd fid L fr H c with
  | none => rw [hl] at h; simp [blockA] at h
  | some l =>
    rw [hl] at h
    simp only [blockA, Option.some.injEq] at h; subst h
    intro b k cs hb1 hb3
    obtain ⟨x, a1, w1, ⟨fr1, H1, e1, hm, hF1, hH1, hT1⟩, harr⟩ := hR.code _ _ _ _ _ _ _ hl e a w ro hF hH hro b (.inBlock id :: k) cs hb1 hb3
    have hm' := List.mem_map_of_mem (f := inBlockA id) hm
    cases x with
    | normal => exact ⟨.normal, a1, w1, ⟨fr1, H1, e1, hm', hF1, hH1, hT1⟩, .head stepR_block (Steps.trans harr (.one stepR_inBlock))⟩
    | ret => obtain ⟨t, h2⟩ := harr; exact ⟨.ret, a1, w1, ⟨fr1, H1, e1, hm', hF1, hH1, hT1⟩, t, .head stepR_block h2⟩
    | pan v => obtain ⟨y, t, g1, g2, g3⟩ := harr; exact ⟨.pan v, a1, w1, ⟨fr1, H1, e1, hm', hF1, hH1, hT1⟩, y, t, g1, g2, .head stepR_block g3⟩
    | exit i =>
      obtain ⟨t, h1, h2⟩ := harr
      simp only [inBlockA, brec] at hm'
      by_cases hid : i = id
      · rw [nbeq_t hid] at hm'
        simp only [cond_true] at hm'
        have : exitTo i (.inBlock id :: k) = some k := by simp [exitTo, hid]
        rw [this] at h1
        exact ⟨.normal, a1, w1, ⟨fr1, H1, e1, hm', hF1, hH1, hT1⟩, .head stepR_block (Steps.trans h2 (.one (stepR_exit h1)))⟩
      · rw [nbeq_f hid] at hm'
        simp only [cond_false] at hm'
        have : exitTo i (.inBlock id :: k) = exitTo i k := by
          have : (id == i) = false := by simp; exact fun h => hid h.symm
          simp [exitTo, this]
        rw [this] at h1
        exact ⟨.exit i, a1, w1, ⟨fr1, H1, e1, hm', hF1, hH1, hT1⟩, t, h1, .head stepR_block h2⟩

include ok hR in
theorem cond_ok {rd ro : Option Nat} {fid : FuncId} {L : Loops} {fr : Fr} {H : AHeap} {c1 c2 : Code} {x : Operand} {outs : List (XE × Fr × AHeap)}
    (h : condA (R.code rd fid L fr H c1) (R.code rd fid L fr H c2) (evalA X fr.tm x) = some outs) {e : Env} {a : Act} {w : World} (hF : FR e fr a) (hH : HR (gp P X) e L H.objs.get H.next w) (hro : RdOk e rd ro) :
    CodeWP P fid ro (.cond x c1 c2) (CodeOut (gp P X) L e H w outs) a w := by
  have hev := evalA_ok ok hF hH.glob
  intro b k cs hb1 hb3
  unfold condA at h
  split at h
  · rename_i hx
    have hρ := cv_bool (hev _ _ hx)
    obtain ⟨x', a1, w1, hout, harr⟩ := hR.code _ _ _ _ _ _ _ h e a w ro hF hH hro b k cs hb1 hb3
    exact ⟨x', a1, w1, hout, .of_steps (.one (stepR_cond hρ)) harr⟩
  · rename_i hx
    have hρ := cv_bool (hev _ _ hx)
    obtain ⟨x', a1, w1, hout, harr⟩ := hR.code _ _ _ _ _ _ _ h e a w ro hF hH hro b k cs hb1 hb3
    exact ⟨x', a1, w1, hout, .of_steps (.one (stepR_cond hρ)) harr⟩
  · cases h

theorem stepR_scope {b : Frame} {a : Act} {c : Code} {k : List Item} {cs : List Frame} {w : World} : step P (lone (b.atR a (.code (.scope c) :: k)) cs w) = .next (lone (b.atR a (.code c :: .inScope c :: k)) cs w) :=
  step_lone_go (by simp [stepG, stepG.exec, Frame.atR])
theorem stepR_inScope {b : Frame} {a : Act} {c : Code} {k : List Item} {cs : List Frame} {w : World} : step P (lone (b.atR a (.inScope c :: k)) cs w) = .next (lone (b.atR a k) cs w) :=
  step_lone_go (by simp [stepG, stepG.exec, Frame.atR])

include hR in
theorem scope_ok {rd ro : Option Nat} {fid : FuncId} {L : Loops} {fr : Fr} {H : AHeap} {c : Code} {outs : List (XE × Fr × AHeap)}
    (h : R.code rd fid L fr H c = some outs) {e : Env} {a : Act} {w : World} (hF : FR e fr a) (hH : HR (gp P X) e L H.objs.get H.next w) (hro : RdOk e rd ro) :
    CodeWP P fid ro (.scope c) (CodeOut (gp P X) L e H w outs) a w := by
  intro b k cs hb1 hb3
  obtain ⟨x, a1, w1, hout, harr⟩ := hR.code _ _ _ _ _ _ _ h e a w ro hF hH hro b (.inScope c :: k) cs hb1 hb3
  refine ⟨x, a1, w1, hout, ?_⟩
  cases x with
  | normal => exact .head stepR_scope (Steps.trans harr (.one stepR_inScope))
  | exit id => exact .of_steps (.one stepR_scope) (.pass (x := .exit id) (fun _ => rfl) (by simp) harr)
  | ret => exact .of_steps (.one stepR_scope) (.pass (x := .ret) (fun _ => rfl) (by simp) harr)
  | pan v => exact .of_steps (.one stepR_scope) (.pass (x := .pan v) (fun _ => rfl) (by simp) harr)
end
end
end Go.X
