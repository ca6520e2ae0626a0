/- A region whose order is drawn: what the static look says; the frame behind a set of operations. -/
import Derived.Test.YtdhcjepgihfplaaGreatDoorDxV
namespace Go.X
noncomputable section
set_option linter.unusedSectionVars false

/-! ### what comes before -/
theorem befOf_bit (B : Tr Nat) : ∀ (es : List Edge) (m j : Nat), Nat.testBit (befOf B es m) j = true →
    Nat.testBit m j = true ∨ ∃ e ∈ es, Region.binds .any e = true ∧ (j = e.on ∨ Nat.testBit (bget (B.get e.on)) j = true) := by
  intro es
  induction es with
  | nil => intro m j h; exact .inl h
  | cons e es ih =>
    intro m j h
    simp only [befOf, brec] at h
    cases hb : Region.binds .any e with
    | false =>
      rw [hb] at h
      rcases ih m j h with h1 | ⟨e', h1, h2⟩
      · exact .inl h1
      · exact .inr ⟨e', List.mem_cons_of_mem _ h1, h2⟩
    | true =>
      rw [hb] at h
      rcases ih _ j h with h1 | ⟨e', h1, h2⟩
      · have h1' : Nat.testBit ((m ||| 2 ^ e.on) ||| bget (B.get e.on)) j = true := h1
        rw [Nat.testBit_or, Nat.testBit_or, Bool.or_eq_true, Bool.or_eq_true, Nat.testBit_two_pow] at h1'
        rcases h1' with (h3 | h3) | h3
        · exact .inl h3
        · exact .inr ⟨e, List.mem_cons_self .., hb, .inl (by simpa using h3 : e.on = j).symm⟩
        · exact .inr ⟨e, List.mem_cons_self .., hb, .inr h3⟩
      · exact .inr ⟨e', List.mem_cons_of_mem _ h1, h2⟩

theorem befs_spec : ∀ (os : List Oper) (k : Nat) (B : Tr Nat), (∀ x, k ≤ x → B.get x = none) →
    (∀ x, x < k → (befs k os B).get x = B.get x) ∧ (∀ x, k + os.length ≤ x → (befs k os B).get x = none) ∧
    ∀ (i : Nat) (o : Oper), os[i]? = some o → ∀ j, bit (befs k os B) (k + i) j = true → ∃ e ∈ o.after.toList, Region.binds .any e = true ∧ (j = e.on ∨ bit (befs k os B) e.on j = true) := by
  intro os
  induction os with
  | nil => intro k B hB; exact ⟨fun _ _ => rfl, fun x hx => hB x (by simpa using hx), fun i o h => by simp at h⟩
  | cons o os ih =>
    intro k B hB
    obtain ⟨h1, h2, h3⟩ := ih (k + 1) (B.set k (some (befOf B o.after.toList 0))) (fun x hx => by rw [Tr.get_set, if_neg (by omega)]; exact hB x (by omega))
    refine ⟨fun x hx => ?_, fun x hx => ?_, ?_⟩
    · show (befs (k + 1) os _).get x = _
      rw [h1 x (by omega), Tr.get_set, if_neg (by omega)]
    · exact h2 x (by simp only [List.length_cons] at hx; omega)
    · intro i p hp j hj
      cases i with
      | zero =>
        simp only [List.getElem?_cons_zero, Option.some.injEq] at hp; subst hp
        have hj' : Nat.testBit (bget ((befs (k + 1) os (B.set k (some (befOf B o.after.toList 0)))).get k)) j = true := hj
        rw [h1 k (by omega), Tr.get_set, if_pos rfl] at hj'
        rcases befOf_bit B _ _ _ hj' with h4 | ⟨e, he, hb, h5⟩
        · simp at h4
        · refine ⟨e, he, hb, h5.imp id fun h6 => ?_⟩
          have hlt : e.on < k := by
            rcases Nat.lt_or_ge e.on k with h7 | h7
            · exact h7
            · rw [hB _ h7] at h6; simp [bget] at h6
          show Nat.testBit (bget ((befs (k + 1) os _).get e.on)) j = true
          rw [h1 _ (by omega), Tr.get_set, if_neg (by omega)]
          exact h6
      | succ i =>
        have hj' : bit (befs (k + 1) os (B.set k (some (befOf B o.after.toList 0)))) (k + 1 + i) j = true := by
          have : k + 1 + i = k + (i + 1) := by omega
          rw [this]; exact hj
        exact h3 i p (by simpa using hp) j hj'

theorem okAllEdges_spec : ∀ (os : List Oper) (k : Nat), okAllEdges k os = true → ∀ (i : Nat) (o : Oper), os[i]? = some o → ∀ e ∈ o.after.toList, Region.binds .any e = true → e.on < k + i := by
  intro os
  induction os with
  | nil => intro k _ i o h; simp at h
  | cons o os ih =>
    intro k h i p hp e he hb
    simp only [okAllEdges, Bool.and_eq_true] at h
    cases i with
    | zero =>
      simp only [List.getElem?_cons_zero, Option.some.injEq] at hp; subst hp
      have := List.all_eq_true.1 h.1 e he
      rw [hb] at this
      have := nblt_of this
      omega
    | succ i =>
      have := ih (k + 1) h.2 i p (by simpa using hp) e he hb
      omega

theorem okRow_spec (B : Tr Nat) (i : Nat) (names : List Tmp) : ∀ (ps : List Oper) (k : Nat), okRow B i names k ps = true → ∀ (j : Nat) (p : Oper), ps[j]? = some p → okPair B i names (k + j) p.dst = true := by
  intro ps
  induction ps with
  | nil => intro k _ j p h; simp at h
  | cons q ps ih =>
    intro k h j p hp
    simp only [okRow, Bool.and_eq_true] at h
    cases j with
    | zero => simp only [List.getElem?_cons_zero, Option.some.injEq] at hp; subst hp; exact h.1
    | succ j =>
      have := ih (k + 1) h.2 j p (by simpa using hp)
      have e1 : k + 1 + j = k + (j + 1) := by omega
      rw [e1] at this; exact this

theorem okRows_spec (B : Tr Nat) (all : Array Oper) : ∀ (os : List Oper) (k : Nat), okRows B all k os = true → ∀ (i : Nat) (o : Oper), os[i]? = some o → okRow B (k + i) (o.looksAt all) 0 all.toList = true := by
  intro os
  induction os with
  | nil => intro k _ j p h; simp at h
  | cons q os ih =>
    intro k h i o ho
    simp only [okRows, Bool.and_eq_true] at h
    cases i with
    | zero => simp only [List.getElem?_cons_zero, Option.some.injEq] at ho; subst ho; exact h.1
    | succ i =>
      have := ih (k + 1) h.2 i o (by simpa using ho)
      have e1 : k + 1 + i = k + (i + 1) := by omega
      rw [e1] at this; exact this

theorem okDst_spec : ∀ (os : List Oper), okDst os = true → ∀ (i j : Nat) (o p : Oper) (t : Nat), os[i]? = some o → os[j]? = some p → o.dst = some t → p.dst = some t → i = j := by
  intro os
  induction os with
  | nil => intro _ i j o p t h; simp at h
  | cons q os ih =>
    intro h
    simp only [okDst, Bool.and_eq_true] at h
    have hne : ∀ (j : Nat) (p : Oper) (t : Nat), os[j]? = some p → q.dst = some t → p.dst = some t → False := by
      intro j p t hp hq hd
      have := List.all_eq_true.1 h.1 p (List.mem_of_getElem? hp)
      simp only [otherDst, hq, hd] at this
      rw [nbeq_t rfl] at this; cases this
    intro i j o p t hi hj ho hp
    cases i with
    | zero =>
      simp only [List.getElem?_cons_zero, Option.some.injEq] at hi; subst hi
      cases j with
      | zero => rfl
      | succ j => exact (hne j p t (by simpa using hj) ho hp).elim
    | succ i =>
      cases j with
      | zero =>
        simp only [List.getElem?_cons_zero, Option.some.injEq] at hj; subst hj
        exact (hne i o t (by simpa using hi) hp ho).elim
      | succ j => rw [ih h.2 i j o p t (by simpa using hi) (by simpa using hj) ho hp]

/-- what the static look says of a region -/
structure Stat (ops : Array Oper) (B : Tr Nat) : Prop where
  bef : ∀ (i : Nat) (o : Oper), ops[i]? = some o → ∀ j, bit B i j = true → ∃ e ∈ o.after, Region.binds .any e = true ∧ (j = e.on ∨ bit B e.on j = true)
  none : ∀ i, ops.size ≤ i → ∀ j, bit B i j = false
  edge : ∀ (i : Nat) (o : Oper), ops[i]? = some o → ∀ e ∈ o.after, Region.binds .any e = true → e.on < i
  row : ∀ (i : Nat) (o : Oper) (j : Nat) (p : Oper) (t : Nat), ops[i]? = some o → ops[j]? = some p → p.dst = some t → memN t (o.looksAt ops) = true → (j < i → bit B i j = true) ∧ (i < j → bit B j i = true)
  dst : ∀ (i j : Nat) (o p : Oper) (t : Nat), ops[i]? = some o → ops[j]? = some p → o.dst = some t → p.dst = some t → i = j

theorem okStatic_spec {ops : Array Oper} (h : okStatic ops = true) : Stat ops (befs 0 ops.toList .nil) := by
  simp only [okStatic, Bool.and_eq_true] at h
  obtain ⟨⟨h1, h2⟩, h3⟩ := h
  obtain ⟨_, b2, b3⟩ := befs_spec ops.toList 0 .nil (fun x _ => rfl)
  have hl : ∀ i : Nat, ops.toList[i]? = ops[i]? := fun i => by simp
  refine ⟨fun i o ho j hj => ?_, fun i hi j => ?_, fun i o ho e he hb => ?_, fun i o j p t ho hp hd hm => ?_, fun i j o p t hi hj => ?_⟩
  · obtain ⟨e, he, h4⟩ := b3 i o (by rw [hl]; exact ho) j (by rw [Nat.zero_add]; exact hj)
    exact ⟨e, by simpa using he, h4⟩
  · unfold bit; rw [b2 i (by simpa using hi)]; simp [bget]
  · have := okAllEdges_spec ops.toList 0 h3 i o (by rw [hl]; exact ho) e (by simpa using he) hb
    omega
  · have h4 := okRows_spec _ ops ops.toList 0 h1 i o (by rw [hl]; exact ho)
    have h5 := okRow_spec _ _ _ ops.toList 0 h4 j p (by rw [hl]; exact hp)
    simp only [Nat.zero_add, okPair, hd, dstIn, hm, brec, cond_true, nblt_eq] at h5
    refine ⟨fun hlt => ?_, fun hlt => ?_⟩
    · rw [decide_eq_true hlt] at h5; exact h5
    · rw [decide_eq_false (by omega : ¬ j < i), decide_eq_true hlt] at h5; exact h5
  · exact okDst_spec ops.toList h2 i j o p t (by rw [hl]; exact hi) (by rw [hl]; exact hj)

theorem Stat.lt {ops : Array Oper} {B : Tr Nat} (h : Stat ops B) : ∀ (i j : Nat), bit B i j = true → j < i := by
  intro i
  induction i using Nat.strongRecOn with
  | _ i ih =>
    intro j hj
    cases ho : ops[i]? with
    | none =>
      have : ops.size ≤ i := by simpa using ho
      rw [h.none i this j] at hj; cases hj
    | some o =>
      obtain ⟨e, he, hb, h1⟩ := h.bef i o ho j hj
      have h2 := h.edge i o ho e he hb
      rcases h1 with rfl | h1
      · exact h2
      · have := ih e.on h2 j h1; omega

/-! ### the frame behind operations -/
def putOne (ops : Array Oper) (recs : List RRec) (fr : Fr) (j : Nat) : Fr :=
  match ops[j]?, recs[j]? with
  | some o, some r => fr.put o.dst r.v
  | _, _ => fr

def putL (ops : Array Oper) (recs : List RRec) (fr : Fr) (l : List Nat) : Fr := l.foldl (putOne ops recs) fr

theorem Fr.put_n (fr : Fr) (d : Option Tmp) (v : AV) : (fr.put d v).n = fr.n := by
  obtain ⟨tm, n, ds⟩ := fr
  cases d with
  | none => rfl
  | some d => simp only [Fr.put, brec]; cases Nat.blt d n <;> rfl

theorem Fr.put_defs (fr : Fr) (d : Option Tmp) (v : AV) : (fr.put d v).defs = fr.defs := by
  obtain ⟨tm, n, ds⟩ := fr
  cases d with
  | none => rfl
  | some d => simp only [Fr.put, brec]; cases Nat.blt d n <;> rfl

theorem Fr.put_get (fr : Fr) (d : Option Tmp) (v : AV) (t : Nat) : (fr.put d v).tm.get t = if d = some t ∧ t < fr.n then some v else fr.tm.get t := by
  obtain ⟨tm, n, ds⟩ := fr
  cases d with
  | none => rw [if_neg (by simp)]; rfl
  | some d =>
    simp only [Fr.put, brec, nblt_eq]
    by_cases hd : d < n
    · rw [decide_eq_true hd]
      show (tm.set d (some v)).get t = _
      rw [Tr.get_set]
      by_cases ht : t = d
      · subst ht; rw [if_pos rfl, if_pos ⟨rfl, hd⟩]
      · rw [if_neg ht, if_neg (by rintro ⟨h1, _⟩; cases h1; exact ht rfl)]
    · rw [decide_eq_false hd]
      show tm.get t = _
      rw [if_neg (by rintro ⟨h1, h2⟩; cases h1; exact hd h2)]

section
variable {ops : Array Oper} {recs : List RRec}

theorem putOne_n (fr : Fr) (j : Nat) : (putOne ops recs fr j).n = fr.n := by
  unfold putOne; split
  · exact Fr.put_n ..
  · rfl

theorem putOne_defs (fr : Fr) (j : Nat) : (putOne ops recs fr j).defs = fr.defs := by
  unfold putOne; split
  · exact Fr.put_defs ..
  · rfl

theorem putL_n (fr : Fr) (l : List Nat) : (putL ops recs fr l).n = fr.n := by
  induction l generalizing fr with
  | nil => rfl
  | cons j l ih => exact (ih _).trans (putOne_n fr j)

theorem putL_defs (fr : Fr) (l : List Nat) : (putL ops recs fr l).defs = fr.defs := by
  induction l generalizing fr with
  | nil => rfl
  | cons j l ih => exact (ih _).trans (putOne_defs fr j)

theorem putL_get {t : Nat} {V : AV} (hV : ∀ (j : Nat) p, ops[j]? = some p → p.dst = some t → ∃ r, recs[j]? = some r ∧ r.v = V) (l : List Nat) (fr : Fr) :
    ((t < fr.n ∧ ∃ j ∈ l, ∃ p, ops[j]? = some p ∧ p.dst = some t) → (putL ops recs fr l).tm.get t = some V) ∧
    (¬ (t < fr.n ∧ ∃ j ∈ l, ∃ p, ops[j]? = some p ∧ p.dst = some t) → (putL ops recs fr l).tm.get t = fr.tm.get t) := by
  induction l generalizing fr with
  | nil => exact ⟨fun ⟨_, j, hj, _⟩ => by simp at hj, fun _ => rfl⟩
  | cons j l ih =>
    obtain ⟨h1, h2⟩ := ih (putOne ops recs fr j)
    rw [putOne_n] at h1 h2
    have hone : (t < fr.n ∧ ∃ p, ops[j]? = some p ∧ p.dst = some t) → (putOne ops recs fr j).tm.get t = some V := by
      rintro ⟨hlt, p, hp, hd⟩
      obtain ⟨r, hr, hv⟩ := hV j p hp hd
      unfold putOne; rw [hp, hr]
      simp only
      rw [Fr.put_get, if_pos ⟨hd, hlt⟩, hv]
    have hno : ¬ (t < fr.n ∧ ∃ p, ops[j]? = some p ∧ p.dst = some t) → (putOne ops recs fr j).tm.get t = fr.tm.get t := by
      intro hn
      unfold putOne
      split
      · rename_i o r ho hr
        rw [Fr.put_get, if_neg]
        rintro ⟨hd, hlt⟩
        exact hn ⟨hlt, o, ho, hd⟩
      · rfl
    show _ ∧ _
    by_cases hl : t < fr.n ∧ ∃ j ∈ l, ∃ p, ops[j]? = some p ∧ p.dst = some t
    · refine ⟨fun _ => h1 hl, fun hn => (hn ?_).elim⟩
      obtain ⟨hlt, i, hi, hp⟩ := hl
      exact ⟨hlt, i, List.mem_cons_of_mem _ hi, hp⟩
    · have h3 := h2 hl
      refine ⟨fun hh => ?_, fun hn => ?_⟩
      · obtain ⟨hlt, i, hi, hp⟩ := hh
        rcases List.mem_cons.1 hi with rfl | hi
        · exact h3.trans (hone ⟨hlt, hp⟩)
        · exact (hl ⟨hlt, i, hi, hp⟩).elim
      · refine h3.trans (hno ?_)
        rintro ⟨hlt, hp⟩
        exact hn ⟨hlt, j, List.mem_cons_self .., hp⟩

/-- two orders over the same writers -/
theorem putL_agree {B : Tr Nat} (hs : Stat ops B) (hlen : recs.length = ops.size) {t : Nat} {l l' : List Nat} (fr : Fr) (h : ∀ (j : Nat) p, ops[j]? = some p → p.dst = some t → (j ∈ l ↔ j ∈ l')) :
    (putL ops recs fr l).tm.get t = (putL ops recs fr l').tm.get t := by
  by_cases hex : ∃ (j : Nat) (p : Oper), ops[j]? = some p ∧ p.dst = some t
  · obtain ⟨j0, p0, hp0, hd0⟩ := hex
    have hj0 : j0 < recs.length := by
      rw [hlen]; exact (Array.getElem?_eq_some_iff.1 hp0).1
    have hV : ∀ (j : Nat) p, ops[j]? = some p → p.dst = some t → ∃ r, recs[j]? = some r ∧ r.v = (recs[j0]).v := by
      intro j p hp hd
      have := hs.dst j j0 p p0 t hp hp0 hd hd0
      subst this
      exact ⟨recs[j], by simp [hj0], rfl⟩
    obtain ⟨h1, h2⟩ := putL_get hV l fr
    obtain ⟨k1, k2⟩ := putL_get hV l' fr
    by_cases hc : t < fr.n ∧ ∃ j ∈ l, ∃ p, ops[j]? = some p ∧ p.dst = some t
    · have hc' : t < fr.n ∧ ∃ j ∈ l', ∃ p, ops[j]? = some p ∧ p.dst = some t := by
        obtain ⟨hlt, j, hj, p, hp, hd⟩ := hc
        exact ⟨hlt, j, (h j p hp hd).1 hj, p, hp, hd⟩
      rw [h1 hc, k1 hc']
    · have hc' : ¬ (t < fr.n ∧ ∃ j ∈ l', ∃ p, ops[j]? = some p ∧ p.dst = some t) := by
        rintro ⟨hlt, j, hj, p, hp, hd⟩
        exact hc ⟨hlt, j, (h j p hp hd).2 hj, p, hp, hd⟩
      rw [h2 hc, k2 hc']
  · have hV : ∀ (j : Nat) p, ops[j]? = some p → p.dst = some t → ∃ r, recs[j]? = some r ∧ r.v = AV.undef := fun j p hp hd => (hex ⟨j, p, hp, hd⟩).elim
    have hno : ∀ l : List Nat, ¬ (t < fr.n ∧ ∃ j ∈ l, ∃ p, ops[j]? = some p ∧ p.dst = some t) := by
      rintro l ⟨_, j, _, p, hp, hd⟩
      exact hex ⟨j, p, hp, hd⟩
    rw [(putL_get hV l fr).2 (hno l), (putL_get hV l' fr).2 (hno l')]
end

theorem FR.congr {e : Env} {fr fr' : Fr} {a : Act} (h : FR e fr a) (h1 : ∀ t, fr'.tm.get t = fr.tm.get t) (h2 : fr'.n = fr.n) (h3 : fr'.defs = fr.defs) : FR e fr' a := by
  refine ⟨⟨by rw [h2]; exact h.tm.1, fun i => ?_⟩, by rw [h3]; exact h.defs⟩
  have := h.tm.2 i
  unfold Tr.getU at *
  rw [h1 i]; exact this

/-! ### what is seen -/
theorem evalR_ok {X : XP} {e : Env} {tm tm' : Tr AV} {names : List Tmp} {ρ : Operand → Value} (h : EvOk e (evalA X tm) ρ) (hn : ∀ t, memN t names = true → tm.get t = tm'.get t) : EvOk e (evalR X tm' names) ρ := by
  intro x v hx
  cases x with
  | tmp t =>
    simp only [evalR, brec] at hx
    cases hm : memN t names with
    | false => rw [hm] at hx; cases hx
    | true =>
      rw [hm] at hx
      refine h (.tmp t) v ?_
      simp only [cond_true, evalA] at hx ⊢
      rw [hn t hm]; exact hx
  | const c => exact h _ _ hx
  | global g => exact h _ _ hx
  | func f => exact h _ _ hx

theorem wantedR_ok {names : List Tmp} {ops : List Oper} {tm tm' : Tr AV} {g : Option (Nat × Bool)} {b : Bool} (h : wantedR names ops tm' g = some b) (hn : ∀ t, memN t names = true → tm.get t = tm'.get t) : wantedA ops tm g = some b := by
  cases g with
  | none => exact h
  | some jw =>
    obtain ⟨j, want⟩ := jw
    simp only [wantedR, brec] at h
    simp only [wantedA]
    cases hg : guardSeen names ops[j]? with
    | false => rw [hg] at h; cases h
    | true =>
      rw [hg] at h
      simp only [cond_true] at h
      rw [← h]
      cases ho : ops[j]? with
      | none => rfl
      | some o =>
        rw [ho] at hg
        obtain ⟨dst, op, ty, pos, after, guard⟩ := o
        cases dst with
        | none => rfl
        | some d =>
          simp only [guardSeen] at hg
          simp only [guardAt]
          rw [hn d hg]
end
end Go.X
