/- The operations that leave memory alone. -/
import Derived.Test.YtdhcjepgihfplaaGreatDoorDxF
import Derived.Laws.BytesString
import Derived.Laws.BytesArg
namespace Go.X
noncomputable section

def EvOk (e : Env) (ev : Operand → Option AV) (ρ : Operand → Value) : Prop := ∀ x v, ev x = some v → cv e v = some (ρ x)

theorem evals_cvs {e : Env} {ev : Operand → Option AV} {ρ : Operand → Value} (hev : EvOk e ev ρ) : ∀ {l : List Operand} {vs : List AV}, evals ev l = some vs → cvs e vs = some (l.map ρ) := by
  intro l
  induction l with
  | nil => intro vs h; simp only [evals, Option.some.injEq] at h; subst h; rfl
  | cons x l ih =>
    intro vs h
    simp only [evals] at h
    cases hx : ev x with
    | none => rw [hx] at h; cases h
    | some v =>
      rw [hx] at h
      cases hl : evals ev l with
      | none => rw [hl] at h; cases h
      | some ws => rw [hl] at h; simp only [Option.some.injEq] at h; subst h; exact cvs_mk (hev x v hx) (ih hl)

theorem evalParts_cv {e : Env} {ev : Operand → Option AV} {ρ : Operand → Value} (hev : EvOk e ev ρ) : ∀ {l : List (Nat × Operand)} {ps : List (Nat × AV)}, evalParts ev l = some ps →
    ∃ qs : List (Nat × Value), qs = l.map (fun p => (p.1, ρ p.2)) ∧ ps.map (·.1) = qs.map (·.1) ∧ cvs e (ps.map (·.2)) = some (qs.map (·.2)) := by
  intro l
  induction l with
  | nil => intro vs h; simp only [evalParts, Option.some.injEq] at h; subst h; exact ⟨[], rfl, rfl, rfl⟩
  | cons x l ih =>
    obtain ⟨i, x⟩ := x
    intro vs h
    simp only [evalParts] at h
    cases hx : ev x with
    | none => rw [hx] at h; cases h
    | some v =>
      rw [hx] at h
      cases hl : evalParts ev l with
      | none => rw [hl] at h; cases h
      | some ws =>
        rw [hl] at h; simp only [Option.some.injEq] at h; subst h
        obtain ⟨qs, rfl, h1, h2⟩ := ih hl
        exact ⟨_, rfl, by simp at h1 ⊢; exact h1, by simpa using cvs_mk (hev x v hx) h2⟩

section
variable {P : Program} {X : XP} (ok : XPok P X) (w : World) {e : Env}

include ok in
theorem part_run {t off : Nat} {vs : List AV} {us : List Value} (hu : cvs e vs = some us) {v : AV} (h : partA vs off (X.tys.get t) = some v) :
    ∃ y, cv e v = some y ∧ (part t us.toArray off).run P w = .ok y w := by
  cases ht : X.tys.get t with
  | none => rw [ht] at h; cases h
  | some ti =>
    rw [ht] at h
    have hk := ok.tys t ti ht
    simp only [partA, brec] at h
    cases ha : ti.isAgg with
    | false =>
      rw [ha] at h; simp only [cond_false] at h
      obtain ⟨y, hy, hl⟩ := cvs_get hu _ _ h
      exact ⟨y, hy, by simp [part, run_isAgg' w hk, ha, hl]⟩
    | true =>
      rw [ha] at h; simp only [cond_true] at h
      cases hb : Nat.ble (off + ti.size) vs.length with
      | false => rw [hb] at h; cases h
      | true =>
        rw [hb] at h; simp only [cond_true, Option.some.injEq] at h; subst h
        have hsub : ∀ (n : Nat) (vs : List AV) (us : List Value), cvs e vs = some us → cvs e (vs.drop n) = some (us.drop n) := by
          intro n
          induction n with
          | zero => intro vs us h; simpa using h
          | succ n ih =>
            intro vs us h
            cases vs with
            | nil => simp only [cvs, Option.some.injEq] at h; subst h; rfl
            | cons a vs => obtain ⟨y, z, hy, hz, rfl⟩ := cvs_cons h; simpa using ih vs z hz
        have htk : ∀ (n : Nat) (vs : List AV) (us : List Value), cvs e vs = some us → cvs e (vs.take n) = some (us.take n) := by
          intro n
          induction n with
          | zero => intro vs us h; rfl
          | succ n ih =>
            intro vs us h
            cases vs with
            | nil => simp only [cvs, Option.some.injEq] at h; subst h; rfl
            | cons a vs => obtain ⟨y, z, hy, hz, rfl⟩ := cvs_cons h; exact cvs_mk hy (ih vs z hz)
        refine ⟨.agg ((us.drop off).take ti.size).toArray, by simp only [cv, htk _ _ _ (hsub off _ _ hu)], ?_⟩
        simp only [part, Sem.run_bind, run_isAgg' w hk, ha, Result.andThen_ok, if_true, run_sizeOf' w hk, Sem.run_pure]
        congr 2
        simp [List.extract_eq_take_drop]

/-- fill, over cells that are all known -/
theorem fill_run {place : Nat → Option (Nat × Nat)} {placeA : Nat → Option (Nat × Nat)} {n : Nat} (hpl : ∀ i off size, placeA i = some (off, size) → place i = some (off, size) ∧ off + size ≤ n) :
    ∀ (ps : List (Nat × AV)) (qs : List (Nat × Value)) (c c' : Tr AV) (cells : Array Value), ps.map (·.1) = qs.map (·.1) → cvs e (ps.map (·.2)) = some (qs.map (·.2)) →
      cells.size = n → (∀ i, i < n → ∃ a y, c.get i = some a ∧ cv e a = some y ∧ cells[i]? = some y) → (∀ i, n ≤ i → c.get i = none) → fillA placeA c ps = some c' →
      ∃ cells', Instr.fill place cells qs = some cells' ∧ cells'.size = n ∧ (∀ i, i < n → ∃ a y, c'.get i = some a ∧ cv e a = some y ∧ cells'[i]? = some y) ∧ ∀ i, n ≤ i → c'.get i = none := by
  intro ps
  induction ps with
  | nil =>
    intro qs c c' cells h1 _ hn hc hno h
    cases qs with
    | cons q qs => simp at h1
    | nil => simp only [fillA, Option.some.injEq] at h; subst h; exact ⟨cells, rfl, hn, hc, hno⟩
  | cons p ps ih =>
    intro qs c c' cells h1 h2 hn hc hno h
    cases qs with
    | nil => simp at h1
    | cons q qs =>
      obtain ⟨i, v⟩ := p
      obtain ⟨j, x⟩ := q
      simp only [List.map_cons, List.cons.injEq] at h1
      obtain ⟨rfl, h1⟩ := h1
      simp only [List.map_cons] at h2
      obtain ⟨y, z, hy, hz, he⟩ := cvs_cons h2
      simp only [List.cons.injEq] at he
      obtain ⟨rfl, rfl⟩ := he
      simp only [fillA] at h
      cases hp : placeA i with
      | none => rw [hp] at h; cases h
      | some r =>
        obtain ⟨off, size⟩ := r
        rw [hp] at h
        simp only [brec] at h
        cases hb : (Nat.beq v.cells.length size && v.noSym) with
        | false => rw [hb] at h; cases h
        | true =>
          rw [hb] at h; simp only [cond_true] at h
          simp only [Bool.and_eq_true] at hb
          have hlen := nbeq_of hb.1
          obtain ⟨g1, g2⟩ := hpl i off size hp
          have hcells := cv_cells hy (fun k hk => by rw [hk] at hb; cases hb.2)
          have hsz : x.cells.size = size := by
            have := cvs_length hcells
            simp only [Array.length_toList] at this
            omega
          have hfold : ∀ (l : List Value) (k : Nat) (cs : Array Value), (l.zipIdx k).foldl (fun cs (p : Value × Nat) => cs.setIfInBounds (off + p.2) p.1) cs = putArr cs (off + k) l := by
            intro l
            induction l with
            | nil => intro k cs; rfl
            | cons a l ihl => intro k cs; simp only [List.zipIdx_cons, List.foldl_cons, putArr]; rw [ihl]; rfl
          have hf : (x.cells.zipIdx.foldl (fun cs (p : Value × Nat) => cs.setIfInBounds (off + p.2) p.1) cells) = putArr cells off x.cells.toList := by
            rw [← Array.foldl_toList, Array.toList_zipIdx, hfold]; rfl
          have hin : off + x.cells.toList.length ≤ cells.size := by simp; omega
          obtain ⟨cells', k1, k2, k3⟩ := ih qs (c.put off v.cells) c' (putArr cells off x.cells.toList) h1 hz (by rw [size_putArr, hn])
            (fun m hm => by
              rw [Tr.get_put, get_putArr _ _ _ _ hin]
              by_cases hr : off ≤ m ∧ m < off + v.cells.length
              · rw [if_pos hr, if_pos (by simp; omega)]
                obtain ⟨a, ha⟩ : ∃ a, v.cells[m - off]? = some a := ⟨v.cells[m - off]'(by omega), List.getElem?_eq_getElem (by omega)⟩
                obtain ⟨y, hy', hl⟩ := cvs_get hcells _ _ ha
                exact ⟨a, y, ha, hy', hl⟩
              · rw [if_neg hr, if_neg (by simp; omega)]
                exact hc m hm) (fun m hm => by rw [Tr.get_put, if_neg (by omega)]; exact hno m hm) h
          refine ⟨cells', ?_, k2, k3⟩
          simp only [Instr.fill, g1]
          rw [if_neg (by simp; omega)]
          exact hf ▸ k1
end

end
end Go.X
