/- A region whose order is drawn: what the run in the text's order recorded. -/
import Derived.Test.YtdhcjepgihfplaaGreatDoorDxW
namespace Go.X
noncomputable section
set_option linter.unusedSectionVars false

/-- heap, and blocks that are in it, behind the first m operations -/
def curAt (H : AHeap) (recs : List RRec) : Nat → AHeap × Nat
  | 0 => (H, 0)
  | m + 1 => match (recs[m]?).map RRec.k with
    | some (.act post ab) => (post, ab)
    | _ => curAt H recs m

def IsAct (recs : List RRec) (j : Nat) : Prop := ∃ r post ab, recs[j]? = some r ∧ r.k = .act post ab

theorem curAt_succ_no {H : AHeap} {recs : List RRec} {m : Nat} (h : ¬ IsAct recs m) : curAt H recs (m + 1) = curAt H recs m := by
  simp only [curAt]
  split
  · rename_i post ab heq
    cases hr : recs[m]? with
    | none => rw [hr] at heq; cases heq
    | some r => rw [hr] at heq; simp only [Option.map_some, Option.some.injEq] at heq; exact (h ⟨r, post, ab, hr, heq⟩).elim
  · rfl

theorem curAt_succ_act {H : AHeap} {recs : List RRec} {m : Nat} {r : RRec} {post : AHeap} {ab : Nat} (h : recs[m]? = some r) (hk : r.k = .act post ab) : curAt H recs (m + 1) = (post, ab) := by
  simp only [curAt, h, Option.map_some, hk]

theorem curAt_le {H : AHeap} {recs : List RRec} {m i : Nat} (hmi : m ≤ i) (h : ∀ j, IsAct recs j → m ≤ j → i ≤ j) : curAt H recs i = curAt H recs m := by
  induction i with
  | zero =>
    obtain rfl : m = 0 := by omega
    rfl
  | succ i ih =>
    by_cases he : m = i + 1
    · rw [he]
    · rw [curAt_succ_no (fun ha => by have := h i ha (by omega); omega)]
      exact ih (by omega) (fun j ha hj => by have := h j ha hj; omega)

theorem curAt_congr {H : AHeap} {recs : List RRec} {m i : Nat} (h : ∀ j, IsAct recs j → (j < m ↔ j < i)) : curAt H recs m = curAt H recs i := by
  rcases Nat.le_total m i with hmi | hmi
  · exact (curAt_le hmi fun j ha hj => by have := h j ha; omega).symm
  · exact curAt_le hmi fun j ha hj => by have := h j ha; omega

def PrOk (H : AHeap) (recs : List RRec) (i : Nat) (pr : List (Nat × AObj)) : Prop :=
  ∀ a ob, (a, ob) ∈ pr → (∃ r, recs[a]? = some r ∧ r.k = .alloc ob) ∧ Nat.testBit (curAt H recs i).2 a = false

/-- what the record of an operation says -/
structure Fact (X : XP) (R : Rec) (L : Loops) (ops : Array Oper) (B : Tr Nat) (base : Nat) (H : AHeap) (fr0 : Fr) (recs : List RRec) (i : Nat) (o : Oper) (r : RRec) : Prop where
  fr : r.fr = putL ops recs fr0 (List.range i)
  skip : r.k = .skip → wantedR (o.looksAt ops) ops.toList r.fr.tm o.guard = some false ∧ r.v = .undef
  want : r.k ≠ .skip → wantedR (o.looksAt ops) ops.toList r.fr.tm o.guard = some true
  pure : r.k = .pure → qop X (evalR X r.fr.tm (o.looksAt ops)) hEmpty o.op = some r.v
  rd : r.k = .rd → ∃ pr, PrOk H recs i pr ∧ qop X (evalR X r.fr.tm (o.looksAt ops)) (withNew base (bget (B.get i)) pr (curAt H recs i).1) o.op = some r.v
  alloc : ∀ ob, r.k = .alloc ob → allocOp X (evalR X r.fr.tm (o.looksAt ops)) (base + i) o.op = some (r.v, ob)
  act : ∀ post ab, r.k = .act post ab → ab = (curAt H recs i).2 ||| bget (B.get i) ∧ (∀ j, j < i → IsAct recs j → bit B i j = true) ∧
    (∀ u, r.v ≠ .pan u) ∧ ∃ pr, PrOk H recs i pr ∧ ∃ c, oneOp2 X R L (evalR X r.fr.tm (o.looksAt ops)) (withNew base (bget (B.get i)) pr (curAt H recs i).1) o.op c = some [(r.v, post)]

theorem consRec_ok {r : RRec} {z : RGo} {l : List RRec} {fr : Fr} {H : AHeap} (h : consRec r z = .ok l fr H) : ∃ l', z = .ok l' fr H ∧ l = r :: l' := by
  cases z with
  | bad => cases h
  | need b => cases h
  | ok l' fr' H' => simp only [consRec, RGo.ok.injEq] at h; obtain ⟨h1, h2, h3⟩ := h; subst h1 h2 h3; exact ⟨l', rfl, rfl⟩

theorem mem_leftOf {m : Nat} : ∀ {l : List (Nat × AObj)} {a : Nat} {ob : AObj}, (a, ob) ∈ leftOf m l → (a, ob) ∈ l ∧ Nat.testBit m a = false := by
  intro l
  induction l with
  | nil => intro a ob h; cases h
  | cons p l ih =>
    intro a ob h
    obtain ⟨i, ob'⟩ := p
    simp only [leftOf, brec] at h
    cases hb : Nat.testBit m i with
    | true => rw [hb] at h; obtain ⟨h1, h2⟩ := ih h; exact ⟨List.mem_cons_of_mem _ h1, h2⟩
    | false =>
      rw [hb] at h
      rcases List.mem_cons.1 h with h1 | h1
      · cases h1; exact ⟨List.mem_cons_self .., hb⟩
      · obtain ⟨h2, h3⟩ := ih h1; exact ⟨List.mem_cons_of_mem _ h2, h3⟩

section
variable {X : XP} {R : Rec} {L : Loops} {ops : Array Oper} {B : Tr Nat} (hs : Stat ops B) {base : Nat} {H0 : AHeap} {fr0 : Fr}

include hs in
theorem regGo_spec : ∀ (os : List Oper) (i : Nat) (fr : Fr) (H : AHeap) (pr : List (Nat × AObj)) (am ab : Nat) (l : List RRec) (fr' : Fr) (H' : AHeap) (recs : List RRec),
    regGo X R L ops B base os i fr H pr am ab = .ok l fr' H' → ops.toList.drop i = os → recs.drop i = l → i ≤ recs.length →
    fr = putL ops recs fr0 (List.range i) → (H, ab) = curAt H0 recs i → (∀ j, Nat.testBit am j = true ↔ (j < i ∧ IsAct recs j)) → (∀ j, Nat.testBit ab j = true → j < i) → PrOk H0 recs i pr →
    (∀ (j : Nat) (o : Oper) (r : RRec), i ≤ j → ops[j]? = some o → recs[j]? = some r → Fact X R L ops B base H0 fr0 recs j o r) ∧ l.length = os.length ∧
    fr' = putL ops recs fr0 (List.range (i + os.length)) ∧ ∃ prf, PrOk H0 recs (i + os.length) prf ∧ H' = ⟨(curAt H0 recs (i + os.length)).1.next, allNew base prf (curAt H0 recs (i + os.length)).1.objs⟩ := by
  intro os
  induction os with
  | nil =>
    intro i fr H pr am ab l fr' H' recs h hos hl hle hfr hcur ham hab hpr
    simp only [regGo] at h
    obtain ⟨n, t⟩ := H
    simp only [finRegion, RGo.ok.injEq] at h
    obtain ⟨h1, h2, h3⟩ := h
    subst h1 h2 h3
    refine ⟨fun j o r hj ho hr => ?_, rfl, hfr, pr, hpr, ?_⟩
    · have : recs.length ≤ i := by
        have := congrArg List.length hl
        simp at this; omega
      rw [List.getElem?_eq_none (by omega)] at hr; cases hr
    · simp only [List.length_nil, Nat.add_zero]
      rw [← hcur]
  | cons o os ih =>
    intro i fr H pr am ab l fr' H' recs h hos hl hle hfr hcur ham hab hpr
    have hoi : ops[i]? = some o := by
      have : (ops.toList.drop i)[0]? = some o := by rw [hos]; rfl
      simpa using this
    have hos' : ops.toList.drop (i + 1) = os := by
      have := congrArg List.tail hos
      simpa using this
    have hcur1 : H = (curAt H0 recs i).1 := congrArg Prod.fst hcur
    have hcur2 : ab = (curAt H0 recs i).2 := congrArg Prod.snd hcur
    have hlen : i + (o :: os).length = i + 1 + os.length := by simp only [List.length_cons]; omega
    rw [hlen]
    -- behind any record
    have key : ∀ (r : RRec) (z : RGo), r.fr = fr → consRec r z = .ok l fr' H' → ∃ l', z = .ok l' fr' H' ∧ l = r :: l' ∧ recs[i]? = some r ∧ recs.drop (i + 1) = l' ∧ i + 1 ≤ recs.length ∧ fr.put o.dst r.v = putL ops recs fr0 (List.range (i + 1)) := by
      intro r z hrf hz
      obtain ⟨l', hz', hl'⟩ := consRec_ok hz
      have hri : recs[i]? = some r := by
        have : (recs.drop i)[0]? = some r := by rw [hl, hl']; rfl
        simpa using this
      have hd : recs.drop (i + 1) = l' := by
        have := congrArg List.tail (hl.trans hl')
        simpa using this
      refine ⟨l', hz', hl', hri, hd, ?_, ?_⟩
      · exact (List.getElem?_eq_some_iff.1 hri).1
      · rw [List.range_succ, putL, List.foldl_append]
        show _ = putOne ops recs (putL ops recs fr0 (List.range i)) i
        rw [← hfr]
        unfold putOne
        rw [hoi, hri]
    have noAct : ∀ r : RRec, recs[i]? = some r → (∀ post ab, r.k ≠ .act post ab) → ¬ IsAct recs i := by
      rintro r hr hn ⟨r', post, ab', hr', hk⟩
      rw [hr] at hr'; cases hr'; exact hn _ _ hk
    -- the rest, behind an operation that neither wrote nor called
    have step : ∀ (r : RRec) (pr' : List (Nat × AObj)), r.fr = fr → (∀ post ab, r.k ≠ .act post ab) → (∀ l', recs.drop (i + 1) = l' → recs[i]? = some r → PrOk H0 recs i pr') →
        (recs[i]? = some r → Fact X R L ops B base H0 fr0 recs i o r) →
        consRec r (regGo X R L ops B base os (i + 1) (fr.put o.dst r.v) H pr' am ab) = .ok l fr' H' →
        (∀ (j : Nat) (o : Oper) (r : RRec), i ≤ j → ops[j]? = some o → recs[j]? = some r → Fact X R L ops B base H0 fr0 recs j o r) ∧ l.length = (o :: os).length ∧
        fr' = putL ops recs fr0 (List.range (i + 1 + os.length)) ∧ ∃ prf, PrOk H0 recs (i + 1 + os.length) prf ∧ H' = ⟨(curAt H0 recs (i + 1 + os.length)).1.next, allNew base prf (curAt H0 recs (i + 1 + os.length)).1.objs⟩ := by
      intro r pr' hrf hna hpr' hfact hz
      obtain ⟨l', hz', hl', hri, hd, hle', hput⟩ := key r _ hrf hz
      have hnact := noAct r hri hna
      have hc : curAt H0 recs (i + 1) = curAt H0 recs i := curAt_succ_no hnact
      obtain ⟨g1, g2, g3, g4⟩ := ih (i + 1) _ H pr' am ab l' fr' H' recs hz' hos' hd hle' hput (by rw [hc]; exact hcur)
        (fun j => by
          rw [ham j]
          constructor
          · rintro ⟨h1, h2⟩; exact ⟨by omega, h2⟩
          · rintro ⟨h1, h2⟩
            refine ⟨?_, h2⟩
            rcases Nat.lt_or_ge j i with h3 | h3
            · exact h3
            · obtain rfl : j = i := by omega
              exact (hnact h2).elim)
        (fun j hj => by have := hab j hj; omega)
        (by have := hpr' l' hd hri; unfold PrOk at *; rw [hc]; exact this)
      refine ⟨fun j p q hj hp hq => ?_, by rw [hl']; simp [g2], g3, g4⟩
      rcases Nat.lt_or_ge i j with h3 | h3
      · exact g1 j p q (by omega) hp hq
      · obtain rfl : i = j := by omega
        rw [hoi] at hp; cases hp
        rw [hri] at hq; cases hq
        exact hfact hri
    simp only [regGo] at h
    cases hw : wantedR (o.looksAt ops) ops.toList fr.tm o.guard with
    | none => rw [hw] at h; cases h
    | some t =>
      rw [hw] at h
      cases t with
      | false =>
        simp only at h
        refine step ⟨.skip, .undef, fr⟩ pr rfl (by intro _ _ h; cases h) (fun _ _ _ => hpr) (fun hri => ?_) h
        exact ⟨hfr, fun _ => ⟨hw, rfl⟩, fun h => (h rfl).elim, (fun h => by cases h), (fun h => by cases h), (by intro _ h; cases h), (by intro _ _ h; cases h)⟩
      | true =>
        simp only at h
        generalize opClass o.op = cl at h
        unfold regOp at h
        split at h
        · -- quiet
          unfold goQ at h
          split at h
          · rename_i v hq
            refine step ⟨.pure, v, fr⟩ pr rfl (by intro _ _ h; cases h) (fun _ _ _ => hpr) (fun hri => ?_) h
            exact ⟨hfr, (fun h => by cases h), fun _ => hw, fun _ => hq, (fun h => by cases h), (by intro _ h; cases h), (by intro _ _ h; cases h)⟩
          · split at h
            · rename_i v hq
              refine step ⟨.rd, v, fr⟩ pr rfl (by intro _ _ h; cases h) (fun _ _ _ => hpr) (fun hri => ?_) h
              exact ⟨hfr, (fun h => by cases h), fun _ => hw, (fun h => by cases h), fun _ => ⟨pr, hpr, by rw [← hcur1]; exact hq⟩, (by intro _ h; cases h), (by intro _ _ h; cases h)⟩
            · unfold fkNeed needOf at h
              split at h
              · split at h <;> cases h
              · cases h
        · -- a new block
          unfold goAl at h
          split at h
          · rename_i p hp
            obtain ⟨v, ob⟩ := p
            refine step ⟨.alloc ob, v, fr⟩ (pr ++ [(i, ob)]) rfl (by intro _ _ h; cases h) (fun _ _ hri => ?_) (fun hri => ?_) h
            · intro a ob' hm
              rcases List.mem_append.1 hm with h1 | h1
              · exact hpr a ob' h1
              · simp only [List.mem_singleton, Prod.mk.injEq] at h1
                obtain ⟨rfl, rfl⟩ := h1
                refine ⟨⟨_, hri, rfl⟩, ?_⟩
                cases hb : Nat.testBit (curAt H0 recs a).2 a with
                | false => rfl
                | true => rw [← hcur2] at hb; have := hab a hb; omega
            · exact ⟨hfr, (fun h => by cases h), fun _ => hw, (fun h => by cases h), (fun h => by cases h), (by intro ob' h; cases h; exact hp), (by intro _ _ h; cases h)⟩
          · cases h
        · -- a write, or a call
          rename_i c
          unfold goAct at h
          split at h
          · rename_i p hp
            obtain ⟨v, post⟩ := p
            have hnp : ∀ u, v ≠ .pan u := by
              intro u hu; subst hu; simp [goAct1] at h
            unfold goAct1 at h
            split at h
            · cases h
            simp only [brec] at h
            cases hb : Nat.beq (Nat.land am (bget (B.get i))) am with
            | false => rw [hb] at h; cases h
            | true =>
              rw [hb] at h
              simp only [cond_true] at h
              have hland : am &&& bget (B.get i) = am := nbeq_of hb
              have hchain : ∀ j, j < i → IsAct recs j → bit B i j = true := by
                intro j hj ha
                have h1 := (ham j).2 ⟨hj, ha⟩
                rw [← hland, Nat.testBit_and, Bool.and_eq_true] at h1
                exact h1.2
              obtain ⟨l', hz', hl', hri, hd, hle', hput⟩ := key ⟨.act post (Nat.lor ab (bget (B.get i))), v, fr⟩ _ rfl h
              have hact : IsAct recs i := ⟨_, _, _, hri, rfl⟩
              have hc : curAt H0 recs (i + 1) = (post, Nat.lor ab (bget (B.get i))) := curAt_succ_act hri rfl
              obtain ⟨g1, g2, g3, g4⟩ := ih (i + 1) _ post (leftOf (bget (B.get i)) pr) (Nat.lor am (Nat.pow 2 i)) (Nat.lor ab (bget (B.get i))) l' fr' H' recs hz' hos' hd hle' hput hc.symm
                (fun j => by
                  show Nat.testBit (am ||| 2 ^ i) j = true ↔ _
                  rw [Nat.testBit_or, Bool.or_eq_true, Nat.testBit_two_pow, ham j]
                  constructor
                  · rintro (⟨h1, h2⟩ | h1)
                    · exact ⟨by omega, h2⟩
                    · have : i = j := by simpa using h1
                      subst this; exact ⟨by omega, hact⟩
                  · rintro ⟨h1, h2⟩
                    rcases Nat.lt_or_ge j i with h3 | h3
                    · exact .inl ⟨h3, h2⟩
                    · right; simp; omega)
                (fun j hj => by
                  have hj' : Nat.testBit (ab ||| bget (B.get i)) j = true := hj
                  rw [Nat.testBit_or, Bool.or_eq_true] at hj'
                  rcases hj' with h1 | h1
                  · have := hab j h1; omega
                  · have := hs.lt i j h1; omega)
                (by
                  intro a ob hm
                  obtain ⟨h1, h2⟩ := mem_leftOf hm
                  obtain ⟨h3, h4⟩ := hpr a ob h1
                  refine ⟨h3, ?_⟩
                  rw [hc]
                  show Nat.testBit (ab ||| bget (B.get i)) a = false
                  rw [Nat.testBit_or, h2, hcur2, h4]; rfl)
              refine ⟨fun j p q hj hp' hq => ?_, by rw [hl']; simp [g2], g3, g4⟩
              rcases Nat.lt_or_ge i j with h3 | h3
              · exact g1 j p q (by omega) hp' hq
              · obtain rfl : i = j := by omega
                rw [hoi] at hp'; cases hp'
                rw [hri] at hq; cases hq
                refine ⟨hfr, (fun h => by cases h), fun _ => hw, (fun h => by cases h), (fun h => by cases h), (by intro _ h; cases h), ?_⟩
                intro post' ab' hk
                cases hk
                refine ⟨by rw [← hcur2]; rfl, hchain, hnp, pr, hpr, c + 2, ?_⟩
                rw [← hcur1]; exact hp
          · cases h
end
end
end Go.X
