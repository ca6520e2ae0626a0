/- Functions: entering, leaving, results. -/
import Derived.Test.YtdhcjepgihfplaaGreatDoorDxQ
namespace Go.X
noncomputable section
set_option linter.unusedSectionVars false

theorem argTm_eq : ∀ (vs : List AV) (n : Nat) (t : Tr AV), argTm n vs t = t.put n vs := by
  intro vs
  induction vs with
  | nil => intro n t; rfl
  | cons v vs ih => intro n t; simp only [argTm, Tr.put]; exact ih _ _

theorem argTm_ok {e : Env} {as : List AV} {vs : List Value} (h : cvs e as = some vs) (nt : Nat) : TmOk e (argTm 0 as .nil) (Nat.max as.length nt) (vs.toArray ++ Array.replicate (nt - vs.toArray.size) Go.undef) := by
  have hl := cvs_length h
  refine ⟨?_, fun i => ?_⟩
  · simp only [Array.size_append, List.size_toArray, Array.size_replicate, hl]
    show as.length + (nt - as.length) = max as.length nt
    omega
  · rw [argTm_eq]
    unfold Tr.getU
    rw [Tr.get_put]
    simp only [Nat.zero_le, Nat.zero_add, true_and, Nat.sub_zero]
    by_cases hi : i < as.length
    · rw [if_pos hi]
      obtain ⟨y, hy, hx⟩ := cvs_get h i as[i] (by simp [hi])
      simp only [List.getElem?_eq_getElem hi]
      rw [hy]
      simp only [Array.getD_eq_getD_getElem?]
      rw [Array.getElem?_append_left (by simpa [hl] using hi)]
      simp [hx]
    · rw [if_neg hi]
      simp only [Tr.get_nil, cv]
      congr 1
      simp only [Array.getD_eq_getD_getElem?]
      rw [Array.getElem?_append_right (by simp [hl]; omega)]
      simp only [Array.getElem?_replicate]
      split <;> rfl

/-- a block that is no longer known is written -/
theorem HR.dropWrite {NG : GP} {e : Env} {L : Loops} {G : Nat → Option AObj} {n : Nat} {w w' : World} {d : Nat} {o : AObj} {x : Nat × Nat} (h : HR NG e L G n w) (hd : G d = some o) (hx : e.f d = some x)
    (hsame : ∀ B, B ≠ x.1 → w'.heap[B]? = w.heap[B]?) : HR NG e L (X.upd G d none) n w' := by
  refine ⟨h.dom, ?_, ?_, h.glob, h.ora⟩
  · intro c p hc
    by_cases e1 : c = d
    · subst e1; rw [upd_same] at hc; cases hc
    · rw [upd_ne _ _ e1] at hc
      obtain ⟨y, hy, hO⟩ := h.live c p hc
      exact ⟨y, hy, hO.keep (Env.le_refl e) (hsame _ fun he => e1 (h.inj c d p o y x hc hd hy hx he)) rfl⟩
  · intro c c' p q y z hc hc'
    exact h.inj c c' p q y z (Sub.drop G d _ _ hc) (Sub.drop G d _ _ hc')

theorem Tran.dropWrite {e : Env} {G : Nat → Option AObj} {n : Nat} {w w' : World} {d : Nat} {o : AObj} {x : Nat × Nat} (hd : G d = some o) (hx : e.f d = some x) (hw : o.wr = true)
    (hsame : ∀ B, B ≠ x.1 → w'.heap[B]? = w.heap[B]?) (hsz : w'.heap.size = w.heap.size) (hos : w'.os = w.os) (htp : w'.tape = w.tape) (hout : w'.output = w.output) : Tran e G n w e (X.upd G d none) n w' where
  le := Env.le_refl e
  old _ _ := rfl
  nx := Nat.le_refl _
  size := by omega
  keep B _ hf := hsame B fun he => hf ⟨d, o, x, hd, hw, hx, he.symm⟩
  foot B hf _ := hf.mono (Sub.drop G d)
  ro c p hc hp := ⟨p, Sub.drop G d _ _ hc, hp⟩
  os := hos
  tape := htp
  output := hout

theorem step_collected {P : Program} {fr : Frame} {B : Nat} {ds : List Deferred} {cs : List Frame} {w : World} (hm : fr.mode ≠ .run) (hd : fr.defers = { target := .collected B, args := #[] } :: ds) (hb : w.heap[B]? = some (.deferred (some []))) :
    step P (lone fr cs w) = .next (lone { fr with defers := ds } cs { w with heap := w.heap.setIfInBounds B (.deferred none) }) := by
  have hrun : (Instr.takeDeferred B).run P w = .ok [] { w with heap := w.heap.setIfInBounds B (.deferred none) } := by
    simp [Instr.takeDeferred, getObj, setObj, Sem.run, hb, Sem.run_bind]
  refine step_lone_go ?_
  cases hmode : fr.mode with
  | run => exact absurd hmode hm
  | returning => simp [stepG, hmode, unwind, hd, Sem.runT_eq, hrun]
  | panicking ch => simp [stepG, hmode, unwind, hd, Sem.runT_eq, hrun]

section
variable {P : Program} {X : XP} (ok : XPok P X)

include ok in
theorem resultsA_ok {L : Loops} {fr : Fr} {H : AHeap} {e : Env} {a : Act} {w : World} (hT : TmOk e fr.tm fr.n a.tmps) (hH : HR (gp P X) e L H.objs.get H.next w) (f : ResultVar → Sem Value)
    (hf : f = fun | .tmp t => pure (a.tmps.getD t Go.undef) | .cell p t => do loadVar t (← asAddr (a.tmps.getD p Go.undef))) :
    ∀ (rs : List ResultVar) (vs : List AV), resultsA X fr H rs = some vs → ∃ ys, cvs e vs = some ys ∧ (rs.mapM f).run P w = .ok ys w := by
  intro rs
  induction rs with
  | nil => intro vs h; simp only [resultsA, Option.some.injEq] at h; subst h; exact ⟨[], rfl, by simp⟩
  | cons r rs ih =>
    intro vs h
    simp only [resultsA] at h
    cases hr : resultA X fr H r with
    | none => rw [hr] at h; cases h
    | some v =>
      rw [hr] at h
      cases hrs : resultsA X fr H rs with
      | none => rw [hrs] at h; cases h
      | some us =>
        rw [hrs] at h; simp only [Option.some.injEq] at h; subst h
        obtain ⟨ys, hys, hrun⟩ := ih us hrs
        have h1 : ∃ y, cv e v = some y ∧ (f r).run P w = .ok y w := by
          subst hf
          cases r with
          | tmp t =>
            refine ⟨_, ?_, rfl⟩
            have := hT.2 t
            simp only [resultA] at hr
            simp only [Tr.getU] at this
            cases ht : fr.tm.get t with
            | none => rw [ht] at hr this; simp only [Option.some.injEq] at hr; subst hr; exact this
            | some u => rw [ht] at hr this; simp only [Option.some.injEq] at hr; subst hr; exact this
          | cell p t =>
            simp only [resultA] at hr
            have hp := hT.2 p
            simp only [Tr.getU] at hp
            cases htp : fr.tm.get p with
            | none => rw [htp] at hr; cases hr
            | some u =>
              rw [htp] at hr hp
              cases u with
              | ptr b off =>
                simp only at hr hp
                obtain ⟨x, y, hx, hy, hl⟩ := loadV_run ok hH hr
                obtain ⟨x', hx', hρ⟩ := cv_ptr hp
                rw [hx] at hx'; cases hx'
                refine ⟨y, hy, ?_⟩
                simp only [hρ, asAddr, Sem.run_bind, Sem.run_pure, Result.andThen_ok, hl]
              | _ => simp at hr
        obtain ⟨y, hy, hrun1⟩ := h1
        refine ⟨y :: ys, cvs_mk hy hys, ?_⟩
        rw [List.mapM_cons]
        simp only [Sem.run_bind, hrun1, Result.andThen_ok, hrun, Sem.run_pure]

include ok in
theorem results_ok {L : Loops} {fn : Func} {fr : Fr} {H : AHeap} {e : Env} {a : Act} {w : World} (hT : TmOk e fr.tm fr.n a.tmps) (hH : HR (gp P X) e L H.objs.get H.next w) {outs : List (AV × AHeap)}
    (h : asResult H (resultsA X fr H fn.results.toList) = some outs) : ∃ v y, outs = [(v, H)] ∧ cv e v = some y ∧ (results fn a.tmps).run P w = .ok y w := by
  cases hr : resultsA X fr H fn.results.toList with
  | none => rw [hr] at h; simp [asResult] at h
  | some vs =>
    rw [hr] at h
    obtain ⟨ys, hys, hrun⟩ := resultsA_ok ok hT hH _ rfl _ _ hr
    have hl := cvs_length hys
    have hmap : (fn.results.mapM (fun | .tmp t => pure (a.tmps.getD t Go.undef) | .cell p t => do loadVar t (← asAddr (a.tmps.getD p Go.undef)) : ResultVar → Sem Value)).run P w = .ok ys.toArray w := by
      rw [Array.mapM_eq_mapM_toList, Sem.run_map, hrun]; rfl
    have key : (results fn a.tmps).run P w = .ok (if h : ys.toArray.size = 1 then ys.toArray[0] else .tuple ys.toArray) w := by
      unfold results
      rw [Sem.run_bind]
      exact congrArg (fun r : Result (Array Value) => r.andThen fun a w' => Sem.run P (pure (if h : a.size = 1 then a[0] else Value.tuple a)) w') hmap
    unfold asResult at h
    split at h
    · rename_i v heq
      simp only [Option.some.injEq] at heq h; subst heq; subst h
      obtain ⟨y, z, hy, hz, rfl⟩ := cvs_cons hys
      simp only [cvs, Option.some.injEq] at hz; subst hz
      exact ⟨v, y, rfl, hy, by rw [key]; rfl⟩
    · rename_i vs' hne heq
      simp only [Option.some.injEq] at heq h; subst heq; subst h
      refine ⟨.tup vs, .tuple ys.toArray, rfl, by simp only [cv, hys], ?_⟩
      rw [key, dif_neg]
      intro h1
      simp only [List.size_toArray] at h1
      rw [hl] at h1
      cases vs with
      | nil => simp at h1
      | cons v vs =>
        cases vs with
        | nil => exact hne v rfl
        | cons v' vs => simp at h1
    · rename_i heq; cases heq
end
end
end Go.X
