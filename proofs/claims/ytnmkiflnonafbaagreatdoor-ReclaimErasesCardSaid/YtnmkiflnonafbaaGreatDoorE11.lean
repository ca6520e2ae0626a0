/- A region whose order is drawn: what the run in the text's order recorded. -/
import Derived.Test.YtnmkiflnonafbaaGreatDoorE10
set_option linter.unusedVariables false
set_option linter.unusedSimpArgs false
namespace Go.X
noncomputable section
set_option linter.unusedSectionVars false
def Zaj (H : AHeap) (recs : List RRec) : Nat → AHeap × Nat
 | 0 => (H, 0)
 | m + 1 => match (recs[m]?).map RRec.k with
  | some (.act post ab) => (post, ab)
  | _ => Zaj H recs m
def ZcU (recs : List RRec) (j : Nat) : Prop := ∃ r post ab, recs[j]? = some r ∧ r.k = .act post ab
theorem Zb8 {H : AHeap} {recs : List RRec} {m : Nat} (h : ¬ ZcU recs m) : Zaj H recs (m + 1) = Zaj H recs m := by
 simp only [Zaj]
 split
 ·rename_i post ab heq;cases hr : recs[m]? with
  | none => rw [hr] at heq; cases heq
  | some r => rw [hr] at heq; simp only [Option.map_some, Option.some.injEq] at heq; exact (h ⟨r, post, ab, hr, heq⟩).elim
 ·rfl
theorem ZbS {H : AHeap} {recs : List RRec} {m : Nat} {r : RRec} {post : AHeap} {ab : Nat} (h : recs[m]? = some r) (hk : r.k = .act post ab) : Zaj H recs (m + 1) = (post, ab) := by
 simp only [Zaj, h, Option.map_some, hk]
theorem Zi9 {H : AHeap} {recs : List RRec} {m i : Nat} (hmi : m ≤ i) (h : ∀ j, ZcU recs j → m ≤ j → i ≤ j) : Zaj H recs i = Zaj H recs m := by
 induction i with
 | zero =>
  obtain rfl : m = 0 := by omega
  rfl
 | succ i ih =>
  by_cases he : m = i + 1
  ·rw [he]
  ·rw [Zb8 (fun ha => by have := h i ha (by omega); omega)]
   exact ih (by omega) (fun j ha hj => by have := h j ha hj; omega)
theorem Zbv {H : AHeap} {recs : List RRec} {m i : Nat} (h : ∀ j, ZcU recs j → (j < m ↔ j < i)) : Zaj H recs m = Zaj H recs i := by
 rcases Nat.le_total m i with hmi | hmi
 ·exact (Zi9 hmi fun j ha hj => by have := h j ha; omega).symm
 ·exact Zi9 hmi fun j ha hj => by have := h j ha; omega
def ZoR (H : AHeap) (recs : List RRec) (i : Nat) (pr : List (Nat × AObj)) : Prop :=
 ∀ a ob, (a, ob) ∈ pr → (∃ r, recs[a]? = some r ∧ r.k = .alloc ob) ∧ Nat.testBit (Zaj H recs i).2 a = false
structure Fact (X : XP) (R : Rec) (L : Zag) (ops : Array Oper) (B : Tr Nat) (base : Nat) (H : AHeap) (fr0 : Fr) (recs : List RRec) (i : Nat) (o : Oper) (r : RRec) : Prop where
 fr : r.fr = Zf9 ops recs fr0 (List.range i)
 skip : r.k = .skip → ZcT (o.looksAt ops) ops.toList r.fr.tm o.guard = some false ∧ r.v = .undef
 want : r.k ≠ .skip → ZcT (o.looksAt ops) ops.toList r.fr.tm o.guard = some true
 pure : r.k = .pure → qop X (Zew X r.fr.tm (o.looksAt ops)) Zlk o.op = some r.v
 rd : r.k = .rd → ∃ pr, ZoR H recs i pr ∧ qop X (Zew X r.fr.tm (o.looksAt ops)) (ZaS base (Zch (B.get i)) pr (Zaj H recs i).1) o.op = some r.v
 alloc : ∀ ob, r.k = .alloc ob → ZcQ X (Zew X r.fr.tm (o.looksAt ops)) (base + i) o.op = some (r.v, ob)
 act : ∀ post ab, r.k = .act post ab → ab = (Zaj H recs i).2 ||| Zch (B.get i) ∧ (∀ j, j < i → ZcU recs j → bit B i j = true) ∧
  ∃ pr, ZoR H recs i pr ∧ ∃ c, ZgM X R L (Zew X r.fr.tm (o.looksAt ops)) (ZaS base (Zch (B.get i)) pr (Zaj H recs i).1) o.op c = some [(r.v, post)]
theorem ZjO {r : RRec} {z : RGo} {l : List RRec} {fr : Fr} {H : AHeap} (h : Zci r z = .ok l fr H) : ∃ l', z = .ok l' fr H ∧ l = r :: l' := by
 cases z with
 | bad => cases h
 | need b => cases h
 | ok l' fr' H' => simp only [Zci, RGo.ok.injEq] at h; obtain ⟨h1, h2, h3⟩ := h; subst h1 h2 h3; exact ⟨l', rfl, rfl⟩
theorem Zbq {m : Nat} : ∀ {l : List (Nat × AObj)} {a : Nat} {ob : AObj}, (a, ob) ∈ leftOf m l → (a, ob) ∈ l ∧ Nat.testBit m a = false := by
 intro l
 induction l with
 | nil => intro a ob h; cases h
 | cons p l ih =>
  intro a ob h;obtain ⟨i, ob'⟩ := p;simp only [leftOf, Zaw] at h;cases hb : Nat.testBit m i with
  | true => rw [hb] at h; obtain ⟨h1, h2⟩ := ih h; exact ⟨List.mem_cons_of_mem _ h1, h2⟩
  | false =>
   rw [hb] at h;rcases List.mem_cons.1 h with h1 | h1
   ·cases h1; exact ⟨List.mem_cons_self .., hb⟩
   ·obtain ⟨h2, h3⟩ := ih h1; exact ⟨List.mem_cons_of_mem _ h2, h3⟩
section
variable {X : XP} {R : Rec} {L : Zag} {ops : Array Oper} {B : Tr Nat} (hs : Stat ops B) {base : Nat} {H0 : AHeap} {fr0 : Fr}
include hs in
theorem ZjP : ∀ (os : List Oper) (i : Nat) (fr : Fr) (H : AHeap) (pr : List (Nat × AObj)) (am ab : Nat) (l : List RRec) (fr' : Fr) (H' : AHeap) (recs : List RRec),
 Zf6 X R L ops B base os i fr H pr am ab = .ok l fr' H' → ops.toList.drop i = os → recs.drop i = l → i ≤ recs.length →
 fr = Zf9 ops recs fr0 (List.range i) → (H, ab) = Zaj H0 recs i → (∀ j, Nat.testBit am j = true ↔ (j < i ∧ ZcU recs j)) → (∀ j, Nat.testBit ab j = true → j < i) → ZoR H0 recs i pr →
 (∀ (j : Nat) (o : Oper) (r : RRec), i ≤ j → ops[j]? = some o → recs[j]? = some r → Fact X R L ops B base H0 fr0 recs j o r) ∧ l.length = os.length ∧
 fr' = Zf9 ops recs fr0 (List.range (i + os.length)) ∧ ∃ prf, ZoR H0 recs (i + os.length) prf ∧ H' = ⟨(Zaj H0 recs (i + os.length)).1.next, Zfl base prf (Zaj H0 recs (i + os.length)).1.objs⟩ := by
 intro os
 induction os with
 | nil =>
  intro i fr H pr am ab l fr' H' recs h hos hl hle hfr hcur ham hab hpr;simp only [Zf6] at h;obtain ⟨n, t⟩ := H;simp only [ZgQ, RGo.ok.injEq] at h;obtain ⟨h1, h2, h3⟩ := h;subst h1 h2 h3;refine ⟨fun j o r hj ho hr => ?_, rfl, hfr, pr, hpr, ?_⟩
  ·have : recs.length ≤ i := by
    have := congrArg List.length hl;simp at this; omega
   rw [List.getElem?_eq_none (by omega)] at hr; cases hr
  ·simp only [List.length_nil, Nat.add_zero];rw [← hcur]
 | cons o os ih =>
  intro i fr H pr am ab l fr' H' recs h hos hl hle hfr hcur ham hab hpr;have hoi : ops[i]? = some o := by
   have : (ops.toList.drop i)[0]? = some o := by rw [hos]; rfl
   simpa using this
  have hos' : ops.toList.drop (i + 1) = os := by
   have := congrArg List.tail hos;simpa using this
  have hcur1 : H = (Zaj H0 recs i).1 := congrArg Prod.fst hcur;have hcur2 : ab = (Zaj H0 recs i).2 := congrArg Prod.snd hcur;have hlen : i + (o :: os).length = i + 1 + os.length := by simp only [List.length_cons]; omega
  rw [hlen];have key : ∀ (r : RRec) (z : RGo), r.fr = fr → Zci r z = .ok l fr' H' → ∃ l', z = .ok l' fr' H' ∧ l = r :: l' ∧ recs[i]? = some r ∧ recs.drop (i + 1) = l' ∧ i + 1 ≤ recs.length ∧ fr.put o.dst r.v = Zf9 ops recs fr0 (List.range (i + 1)) := by
   intro r z hrf hz;obtain ⟨l', hz', hl'⟩ := ZjO hz;have hri : recs[i]? = some r := by
    have : (recs.drop i)[0]? = some r := by rw [hl, hl']; rfl
    simpa using this
   have hd : recs.drop (i + 1) = l' := by
    have := congrArg List.tail (hl.trans hl');simpa using this
   refine ⟨l', hz', hl', hri, hd, ?_, ?_⟩
   ·exact (List.getElem?_eq_some_iff.1 hri).1
   ·rw [List.range_succ, Zf9, List.foldl_append];show _ = ZbJ ops recs (Zf9 ops recs fr0 (List.range i)) i;rw [← hfr];unfold ZbJ;rw [hoi, hri]
  have noAct : ∀ r : RRec, recs[i]? = some r → (∀ post ab, r.k ≠ .act post ab) → ¬ ZcU recs i := by
   rintro r hr hn ⟨r', post, ab', hr', hk⟩;rw [hr] at hr'; cases hr'; exact hn _ _ hk
  have step : ∀ (r : RRec) (pr' : List (Nat × AObj)), r.fr = fr → (∀ post ab, r.k ≠ .act post ab) → (∀ l', recs.drop (i + 1) = l' → recs[i]? = some r → ZoR H0 recs i pr') →
   (recs[i]? = some r → Fact X R L ops B base H0 fr0 recs i o r) →
   Zci r (Zf6 X R L ops B base os (i + 1) (fr.put o.dst r.v) H pr' am ab) = .ok l fr' H' →
   (∀ (j : Nat) (o : Oper) (r : RRec), i ≤ j → ops[j]? = some o → recs[j]? = some r → Fact X R L ops B base H0 fr0 recs j o r) ∧ l.length = (o :: os).length ∧
   fr' = Zf9 ops recs fr0 (List.range (i + 1 + os.length)) ∧ ∃ prf, ZoR H0 recs (i + 1 + os.length) prf ∧ H' = ⟨(Zaj H0 recs (i + 1 + os.length)).1.next, Zfl base prf (Zaj H0 recs (i + 1 + os.length)).1.objs⟩ := by
   intro r pr' hrf hna hpr' hfact hz;obtain ⟨l', hz', hl', hri, hd, hle', hput⟩ := key r _ hrf hz;have hnact := noAct r hri hna;have hc : Zaj H0 recs (i + 1) = Zaj H0 recs i := Zb8 hnact;obtain ⟨g1, g2, g3, g4⟩ := ih (i + 1) _ H pr' am ab l' fr' H' recs hz' hos' hd hle' hput (by rw [hc]; exact hcur)
    (fun j => by
      rw [ham j];constructor
      ·rintro ⟨h1, h2⟩; exact ⟨by omega, h2⟩
      ·rintro ⟨h1, h2⟩;refine ⟨?_, h2⟩;rcases Nat.lt_or_ge j i with h3 | h3
       ·exact h3
       ·obtain rfl : j = i := by omega
        exact (hnact h2).elim)
    (fun j hj => by have := hab j hj; omega)
    (by have := hpr' l' hd hri; unfold ZoR at *; rw [hc]; exact this)
   refine ⟨fun j p q hj hp hq => ?_, by rw [hl']; simp [g2], g3, g4⟩
   rcases Nat.lt_or_ge i j with h3 | h3
   ·exact g1 j p q (by omega) hp hq
   ·obtain rfl : i = j := by omega
    rw [hoi] at hp; cases hp;rw [hri] at hq; cases hq;exact hfact hri
  simp only [Zf6] at h;cases hw : ZcT (o.looksAt ops) ops.toList fr.tm o.guard with
  | none => rw [hw] at h; cases h
  | some t =>
   rw [hw] at h;cases t with
   | false =>
    simp only at h;refine step ⟨.skip, .undef, fr⟩ pr rfl (by intro _ _ h; cases h) (fun _ _ _ => hpr) (fun hri => ?_) h
    exact ⟨hfr, fun _ => ⟨hw, rfl⟩, fun h => (h rfl).elim, (fun h => by cases h), (fun h => by cases h), (by intro _ h; cases h), (by intro _ _ h; cases h)⟩
   | true =>
    simp only at h;generalize ZhV o.op = cl at h;unfold Zqj at h
    split at h
    ·
     unfold goQ at h
     split at h
     ·rename_i v hq;refine step ⟨.pure, v, fr⟩ pr rfl (by intro _ _ h; cases h) (fun _ _ _ => hpr) (fun hri => ?_) h
      exact ⟨hfr, (fun h => by cases h), fun _ => hw, fun _ => hq, (fun h => by cases h), (by intro _ h; cases h), (by intro _ _ h; cases h)⟩
     ·split at h
      ·rename_i v hq;refine step ⟨.rd, v, fr⟩ pr rfl (by intro _ _ h; cases h) (fun _ _ _ => hpr) (fun hri => ?_) h
       exact ⟨hfr, (fun h => by cases h), fun _ => hw, (fun h => by cases h), fun _ => ⟨pr, hpr, by rw [← hcur1]; exact hq⟩, (by intro _ h; cases h), (by intro _ _ h; cases h)⟩
      ·unfold Zoi Zoh at h
       split at h
       ·split at h <;> cases h
       ·cases h
    ·
     unfold ZrP at h
     split at h
     ·rename_i p hp;obtain ⟨v, ob⟩ := p;refine step ⟨.alloc ob, v, fr⟩ (pr ++ [(i, ob)]) rfl (by intro _ _ h; cases h) (fun _ _ hri => ?_) (fun hri => ?_) h
      ·intro a ob' hm;rcases List.mem_append.1 hm with h1 | h1
       ·exact hpr a ob' h1
       ·simp only [List.mem_singleton, Prod.mk.injEq] at h1;obtain ⟨rfl, rfl⟩ := h1;refine ⟨⟨_, hri, rfl⟩, ?_⟩;cases hb : Nat.testBit (Zaj H0 recs a).2 a with
        | false => rfl
        | true => rw [← hcur2] at hb; have := hab a hb; omega
      ·exact ⟨hfr, (fun h => by cases h), fun _ => hw, (fun h => by cases h), (fun h => by cases h), (by intro ob' h; cases h; exact hp), (by intro _ _ h; cases h)⟩
     ·cases h
    ·
     rename_i c;unfold Zqi at h
     split at h
     ·rename_i p hp;obtain ⟨v, post⟩ := p;simp only [Zaw] at h;cases hb : Nat.beq (Nat.land am (Zch (B.get i))) am with
      | false => rw [hb] at h; cases h
      | true =>
       rw [hb] at h;simp only [cond_true] at h;have hland : am &&& Zch (B.get i) = am := Zab hb;have hchain : ∀ j, j < i → ZcU recs j → bit B i j = true := by
        intro j hj ha;have h1 := (ham j).2 ⟨hj, ha⟩;rw [← hland, Nat.testBit_and, Bool.and_eq_true] at h1;exact h1.2
       obtain ⟨l', hz', hl', hri, hd, hle', hput⟩ := key ⟨.act post (Nat.lor ab (Zch (B.get i))), v, fr⟩ _ rfl h;have hact : ZcU recs i := ⟨_, _, _, hri, rfl⟩;have hc : Zaj H0 recs (i + 1) = (post, Nat.lor ab (Zch (B.get i))) := ZbS hri rfl;obtain ⟨g1, g2, g3, g4⟩ := ih (i + 1) _ post (leftOf (Zch (B.get i)) pr) (Nat.lor am (Nat.pow 2 i)) (Nat.lor ab (Zch (B.get i))) l' fr' H' recs hz' hos' hd hle' hput hc.symm
        (fun j => by
          show Nat.testBit (am ||| 2 ^ i) j = true ↔ _
          rw [Nat.testBit_or, Bool.or_eq_true, Nat.testBit_two_pow, ham j];constructor
          ·rintro (⟨h1, h2⟩ | h1)
           ·exact ⟨by omega, h2⟩
           ·have : i = j := by simpa using h1
            subst this; exact ⟨by omega, hact⟩
          ·rintro ⟨h1, h2⟩;rcases Nat.lt_or_ge j i with h3 | h3
           ·exact .inl ⟨h3, h2⟩
           ·right; simp; omega)
        (fun j hj => by
          have hj' : Nat.testBit (ab ||| Zch (B.get i)) j = true := hj
          rw [Nat.testBit_or, Bool.or_eq_true] at hj';rcases hj' with h1 | h1
          ·have := hab j h1; omega
          ·have := hs.lt i j h1; omega)
        (by
          intro a ob hm;obtain ⟨h1, h2⟩ := Zbq hm;obtain ⟨h3, h4⟩ := hpr a ob h1;refine ⟨h3, ?_⟩;rw [hc];show Nat.testBit (ab ||| Zch (B.get i)) a = false
          rw [Nat.testBit_or, h2, hcur2, h4]; rfl)
       refine ⟨fun j p q hj hp' hq => ?_, by rw [hl']; simp [g2], g3, g4⟩
       rcases Nat.lt_or_ge i j with h3 | h3
       ·exact g1 j p q (by omega) hp' hq
       ·obtain rfl : i = j := by omega
        rw [hoi] at hp'; cases hp';rw [hri] at hq; cases hq;refine ⟨hfr, (fun h => by cases h), fun _ => hw, (fun h => by cases h), (fun h => by cases h), (by intro _ h; cases h), ?_⟩
        intro post' ab' hk;cases hk;refine ⟨by rw [← hcur2]; rfl, hchain, pr, hpr, c + 2, ?_⟩
        rw [← hcur1]; exact hp
     ·cases h
end
end
end Go.X

/- A region whose order is drawn: every order leads to what was recorded. -/
namespace Go.X
noncomputable section
set_option linter.unusedSectionVars false
theorem Tran.trans' {e e1 e2 : Env} {G G1 G2 : Nat → Option AObj} {n n1 m n2 : Nat} {w w1 w2 : World} (h : Tran e G n w e1 G1 n1 w1) (k : Tran e1 G1 m w1 e2 G2 n2 w2) (hm : n ≤ m) (hn : n ≤ n2) :
 Tran e G n w e2 G2 n2 w2 where
 le := Env.le_trans h.le k.le
 old b hb := (k.old b (Nat.lt_of_lt_of_le hb hm)).trans (h.old b hb)
 nx := hn
 size := Nat.le_trans h.size k.size
 keep B hB hf := by
  rw [k.keep B (Nat.lt_of_lt_of_le hB h.size) (fun hf1 => hf (h.foot B hf1 hB)), h.keep B hB hf]
 foot B hB hs := h.foot B (k.foot B hB (Nat.lt_of_lt_of_le hs h.size)) hs
 ro b o hb hr := let ⟨o1, h1, h2⟩ := k.ro b o hb hr; h.ro b o1 h1 h2
 os := k.os.trans h.os
 tape := k.tape.trans h.tape
 output := k.output.trans h.output
def Zbw (G' G0 G : Nat → Option AObj) (b : Nat) : Option AObj :=
 match G' b with
 | some o => some o
 | none => match G0 b with
  | some _ => none
  | none => G b
theorem Zd0 {G' G0 G : Nat → Option AObj} {b : Nat} {o : AObj} (h : Zbw G' G0 G b = some o) : G' b = some o ∨ (G' b = none ∧ G0 b = none ∧ G b = some o) := by
 unfold Zbw at h;cases h1 : G' b with
 | some p => rw [h1] at h; left; exact h
 | none =>
  rw [h1] at h;cases h2 : G0 b with
  | some p => rw [h2] at h; cases h
  | none => rw [h2] at h; right; exact ⟨rfl, rfl, h⟩
theorem Zh3 {G' G0 G : Nat → Option AObj} : Sub G' (Zbw G' G0 G) := by
 intro b o h; unfold Zbw; rw [h]
theorem ZgV {G' G0 G : Nat → Option AObj} {b : Nat} (h1 : G' b = none) (h2 : G0 b = none) : Zbw G' G0 G b = G b := by
 unfold Zbw; rw [h1, h2]
theorem HR.framed {NG : Nat} {e e' : Env} {L : Zag} {G G0 G' : Nat → Option AObj} {n n' : Nat} {w w' : World} (h : HR NG e L G n w) (hs : Sub G0 G)
 (ht : Tran e G0 n w e' G' n' w') (h' : HR NG e' L G' n' w') : HR NG e' L (Zbw G' G0 G) n' w' := by
 have := HR.frame h hs ht h';have hf : Zbw G' G0 G = (fun b => match G' b with | some o => some o | none => (match G0 b with | some _ => none | none => G b)) := by
  funext b; unfold Zbw; cases G' b with
  | some o => rfl
  | none => cases G0 b <;> rfl
 rw [hf]; exact this
theorem Tran.framed {NG : Nat} {e e' : Env} {L : Zag} {G G0 G' : Nat → Option AObj} {n n' : Nat} {w w' : World} (h : HR NG e L G n w) (hs : Sub G0 G)
 (ht : Tran e G0 n w e' G' n' w') : Tran e G n w e' (Zbw G' G0 G) n' w' where
 le := ht.le
 old := ht.old
 nx := ht.nx
 size := ht.size
 keep B hB hf := ht.keep B hB (fun hf' => hf (hf'.mono hs))
 foot B hB hl := by
  obtain ⟨b, o, x, hb, hw, hx, he⟩ := hB;rcases Zd0 hb with h1 | ⟨_, _, h3⟩
  ·exact (ht.foot B ⟨b, o, x, h1, hw, hx, he⟩ hl).mono hs
  ·obtain ⟨y, hy, _⟩ := h.live b o h3;have := ht.le.1 _ _ hy;rw [hx] at this; cases this;exact ⟨b, o, x, h3, hw, hy, he⟩
 ro b o hb hr := by
  rcases Zd0 hb with h1 | ⟨_, _, h3⟩
  ·obtain ⟨o1, h2, h3⟩ := ht.ro b o h1 hr; exact ⟨o1, hs _ _ h2, h3⟩
  ·exact ⟨o, h3, hr⟩
 os := ht.os
 tape := ht.tape
 output := ht.output
theorem Tran.untold {NG : Nat} {e e' : Env} {L : Zag} {G G0 G' : Nat → Option AObj} {n n' : Nat} {w w' : World} (h : HR NG e L G n w) (hs : Sub G0 G)
 (ht : Tran e G0 n w e' G' n' w') (_ : HR NG e' L G' n' w') {b : Nat} {o : AObj} (hb : G b = some o) (h0 : G0 b = none) : G' b = none := by
 cases hg : G' b with
 | none => rfl
 | some p =>
  obtain ⟨x, hx, hO⟩ := h.live b o hb;cases hw : p.wr with
  | false => obtain ⟨o1, h1, _⟩ := ht.ro b p hg hw; rw [h0] at h1; cases h1
  | true =>
   obtain ⟨c, q, y, hc, _, hy, he⟩ := ht.foot x.1 ⟨b, p, x, hg, hw, ht.le.1 _ _ hx, rfl⟩ hO.lt;have := h.inj c b q o y x (hs _ _ hc) hb hy hx he;subst this;rw [h0] at hc; cases hc
theorem Zfs {base m : Nat} : ∀ {l : List (Nat × AObj)} {t : Tr AObj} {b : Nat} {o : AObj}, (Zfk base m l t).get b = some o → t.get b = some o ∨ ∃ a, b = base + a ∧ (a, o) ∈ l ∧ Nat.testBit m a = true := by
 intro l
 induction l with
 | nil => intro t b o h; exact .inl h
 | cons p l ih =>
  intro t b o h;obtain ⟨i, ob⟩ := p;simp only [Zfk, Zaw] at h;cases hb : Nat.testBit m i with
  | false =>
   rw [hb] at h;rcases ih h with h1 | ⟨a, h1, h2, h3⟩
   ·exact .inl h1
   ·exact .inr ⟨a, h1, List.mem_cons_of_mem _ h2, h3⟩
  | true =>
   rw [hb] at h;rcases ih h with h1 | ⟨a, h1, h2, h3⟩
   ·rw [Tr.get_set] at h1
    by_cases he : b = base + i
    ·rw [if_pos he] at h1; cases h1; exact .inr ⟨i, he, List.mem_cons_self .., hb⟩
    ·rw [if_neg he] at h1; exact .inl h1
   ·exact .inr ⟨a, h1, List.mem_cons_of_mem _ h2, h3⟩
theorem ZjQ {base : Nat} : ∀ {l : List (Nat × AObj)} {t : Tr AObj} {b : Nat} {o : AObj}, (Zfl base l t).get b = some o → t.get b = some o ∨ ∃ a, b = base + a ∧ (a, o) ∈ l := by
 intro l
 induction l with
 | nil => intro t b o h; exact .inl h
 | cons p l ih =>
  intro t b o h;obtain ⟨i, ob⟩ := p;simp only [Zfl] at h;rcases ih h with h1 | ⟨a, h1, h2⟩
  ·rw [Tr.get_set] at h1
   by_cases he : b = base + i
   ·rw [if_pos he] at h1; cases h1; exact .inr ⟨i, he, List.mem_cons_self ..⟩
   ·rw [if_neg he] at h1; exact .inl h1
  ·exact .inr ⟨a, h1, List.mem_cons_of_mem _ h2⟩
theorem Zd1 (base m : Nat) (pr : List (Nat × AObj)) (H : AHeap) : (ZaS base m pr H).objs = Zfk base m pr H.objs := by cases H; rfl
theorem Zd2 (base m : Nat) (pr : List (Nat × AObj)) (H : AHeap) : (ZaS base m pr H).next = H.next := by cases H; rfl
theorem ZjR : ∀ {l : List RRec} {k : Nat} {p : Nat × Nat × AHeap}, p ∈ ZbI k l → ∃ j r post ab, p.1 = k + j ∧ l[j]? = some r ∧ r.k = .act post ab := by
 intro l
 induction l with
 | nil => intro k p h; cases h
 | cons r l ih =>
  intro k p h;simp only [ZbI] at h;have key : p ∈ ZbI (k + 1) l → ∃ j r' post ab, p.1 = k + j ∧ (r :: l)[j]? = some r' ∧ r'.k = .act post ab := by
   intro hp;obtain ⟨j, r', post, ab, h1, h2, h3⟩ := ih hp;exact ⟨j + 1, r', post, ab, by omega, by simpa using h2, h3⟩
  split at h
  ·rename_i post ab hk;rcases List.mem_cons.1 h with h1 | h1
   ·subst h1; exact ⟨0, r, post, ab, rfl, rfl, hk⟩
   ·exact key h1
  ·exact key h
theorem ZjS : ∀ {l : List RRec} {k : Nat}, ZbI k l = [] → ∀ (j : Nat) (r : RRec) (post : AHeap) (ab : Nat), l[j]? = some r → r.k ≠ .act post ab := by
 intro l
 induction l with
 | nil => intro k _ j r post ab h; simp at h
 | cons q l ih =>
  intro k h j r post ab hj hk;simp only [ZbI] at h
  split at h
  ·cases h
  ·rename_i hn;cases j with
   | zero => simp only [List.getElem?_cons_zero, Option.some.injEq] at hj; subst hj; exact hn _ _ hk
   | succ j => exact ih h j r post ab (by simpa using hj) hk
theorem ZgW : ∀ {l : List RRec} {k a : Nat} {ob : AObj}, (a, ob) ∈ Zb6 k l → ∃ j r, a = k + j ∧ l[j]? = some r ∧ r.k = .alloc ob := by
 intro l
 induction l with
 | nil => intro k a ob h; cases h
 | cons r l ih =>
  intro k a ob h;simp only [Zb6] at h;have key : (a, ob) ∈ Zb6 (k + 1) l → ∃ j r', a = k + j ∧ (r :: l)[j]? = some r' ∧ r'.k = .alloc ob := by
   intro hp;obtain ⟨j, r', h1, h2, h3⟩ := ih hp;exact ⟨j + 1, r', by omega, by simpa using h2, h3⟩
  split at h
  ·rename_i ob' hk;rcases List.mem_cons.1 h with h1 | h1
   ·cases h1; exact ⟨0, r, rfl, rfl, hk⟩
   ·exact key h1
  ·exact key h
theorem Zls {X : XP} {all : Array Oper} {B : Tr Nat} {base : Nat} {als : List (Nat × AObj)} {acts : List (Nat × Nat × AHeap)} {H : AHeap} : ∀ (os : List Oper) (l : List RRec) (k : Nat), Zre X all B base als acts H k os l = true →
 ∀ (j : Nat) (o : Oper) (r : RRec), os[j]? = some o → l[j]? = some r → r.k = .rd → Zll X B base (k + j) (Zew X r.fr.tm (o.looksAt all)) o.op r.v als H 0 acts = true := by
 intro os
 induction os with
 | nil => intro l k _ j o r h; simp at h
 | cons p os ih =>
  intro l k h j o r ho hr hk;cases l with
  | nil => simp at hr
  | cons q l =>
   simp only [Zre, Bool.and_eq_true, Zaw] at h;cases j with
   | zero =>
    simp only [List.getElem?_cons_zero, Option.some.injEq] at ho hr; subst ho hr;have h1 := h.1;rw [hk] at h1;exact h1
   | succ j =>
    have := ih l (k + 1) h.2 j o r (by simpa using ho) (by simpa using hr) hk
    have e1 : k + 1 + j = k + (j + 1) := by omega
    rw [e1] at this; exact this
theorem ZjT {X : XP} {B : Tr Nat} {base i : Nat} {ev : Operand → Option AV} {op : Op} {v : AV} {als : List (Nat × AObj)} {H0 : AHeap} {recs : List RRec} {done : List Nat} {m : Nat}
 (hm : ∀ j, ZcU recs j → (j ∈ done ↔ j < m)) (hb : ∀ j, bit B i j = true → j ∈ done) (hc : ∀ j, j ∈ done → bit B j i = false) :
 ∀ (l : List RRec) (k : Nat), recs.drop k = l → (∀ j, ZcU recs j → j < k → j < m) → Zll X B base i ev op v als (Zaj H0 recs k).1 (Zaj H0 recs k).2 (ZbI k l) = true →
  Zi4 v (qop X ev (ZaS base (Zch (B.get i)) (leftOf (Zaj H0 recs m).2 als) (Zaj H0 recs m).1) op) = true := by
 intro l
 induction l with
 | nil =>
  intro k hl hk h;have hlen : recs.length ≤ k := by
   have := congrArg List.length hl;simp at this; omega
  have : Zaj H0 recs m = Zaj H0 recs k := Zbv fun j ha => by
   obtain ⟨r, _, _, hr, _⟩ := ha;have hj := (List.getElem?_eq_some_iff.1 hr).1;exact ⟨fun _ => by omega, fun _ => hk j ⟨r, _, _, hr, by assumption⟩ (by omega)⟩
  rw [this]; exact h
 | cons r l ih =>
  intro k hl hk h;have hri : recs[k]? = some r := by
   have : (recs.drop k)[0]? = some r := by rw [hl]; rfl
   simpa using this
  have hd : recs.drop (k + 1) = l := by
   have := congrArg List.tail hl;simpa using this
  simp only [ZbI] at h
  split at h
  ·rename_i post ab hkk;have hact : ZcU recs k := ⟨r, post, ab, hri, hkk⟩;simp only [Zll, Bool.and_eq_true, Bool.or_eq_true] at h;rcases Nat.lt_or_ge k m with hlt | hge
   ·have hin := (hm k hact).2 hlt;have hnb := hc k hin;rcases h.2 with h1 | h1
    ·rw [hnb] at h1; cases h1
    ·refine ih (k + 1) hd (fun j ha hj => ?_) ?_
     ·rcases Nat.lt_or_ge j k with h3 | h3
      ·exact hk j ha h3
      ·omega
     ·rw [ZbS hri hkk]; exact h1
   ·have heq : Zaj H0 recs m = Zaj H0 recs k := Zbv fun j ha => ⟨fun _ => by omega, fun hj => hk j ha hj⟩
    rcases h.1 with (h1 | h1) | h1
    ·have := (hm k hact).1 (hb k h1); omega
    ·obtain ⟨p, hp, hpb⟩ := List.any_eq_true.1 h1;obtain ⟨j, r', post', ab', hj, hr', hk'⟩ := ZjR hp;have hr2 : recs[k + 1 + j]? = some r' := by
      rw [← hd] at hr'; simpa using hr'
     have hin := hb _ hpb;rw [hj] at hin;have := (hm (k + 1 + j) ⟨r', post', ab', hr2, hk'⟩).1 hin;omega
    ·rw [heq]; exact h1
  ·rename_i hn;have hnact : ¬ ZcU recs k := by
    rintro ⟨r', post, ab, hr', hk'⟩;rw [hri] at hr'; cases hr'; exact hn _ _ hk'
   refine ih (k + 1) hd (fun j ha hj => ?_) ?_
   ·rcases Nat.lt_or_ge j k with h3 | h3
    ·exact hk j ha h3
    ·obtain rfl : j = k := by omega
     exact (hnact ha).elim
   ·rw [Zb8 hnact]; exact h
structure InvAt (NG : Nat) (L : Zag) (ops : Array Oper) (B : Tr Nat) (base : Nat) (H0 : AHeap) (fr0 : Fr) (recs : List RRec) (e0 : Env) (w0 : World) (done : List Nat) (m : Nat) (e : Env) (G : Nat → Option AObj) (a : Act) (w : World) : Prop where
 closed : ∀ i, i ∈ done → ∀ j, bit B i j = true → j ∈ done
 acts : ∀ j, ZcU recs j → (j ∈ done ↔ j < m)
 fr : FR e (Zf9 ops recs fr0 done) a
 hr : HR NG e L G (Zaj H0 recs m).1.next w
 tr : Tran e0 H0.objs.get base w0 e G (Zaj H0 recs m).1.next w
 sub : Sub (Zaj H0 recs m).1.objs.get G
 new : ∀ j r ob, j ∈ done → recs[j]? = some r → r.k = .alloc ob → Nat.testBit (Zaj H0 recs m).2 j = false → G (base + j) = some ob ∧ (Zaj H0 recs m).1.objs.get (base + j) = none
 free : ∀ j, j < ops.size → j ∉ done → e.f (base + j) = none
 nxt : base + ops.size ≤ (Zaj H0 recs m).1.next
section
variable {P : Program} {X : XP} (ok : XPok P X) {R : Rec} (hR : RecOk P P.globals.size R)
variable {L : Zag} {ops : Array Oper} {B : Tr Nat} (hs : Stat ops B) {base : Nat} {H0 : AHeap} {fr0 : Fr} {recs : List RRec} (hlen : recs.length = ops.size)
variable (hfact : ∀ (j : Nat) (o : Oper) (r : RRec), ops[j]? = some o → recs[j]? = some r → Fact X R L ops B base H0 fr0 recs j o r)
variable (hrd : ZmS X ops B base H0 recs (ZbI 0 recs) = true)
variable {e0 : Env} {w0 : World}
theorem ZeA {ops : Array Oper} {recs : List RRec} {fr0 : Fr} {done : List Nat} {i : Nat} {o : Oper} {r : RRec} (ho : ops[i]? = some o) (hr : recs[i]? = some r) :
 Zf9 ops recs fr0 (done ++ [i]) = (Zf9 ops recs fr0 done).put o.dst r.v := by
 rw [Zf9, List.foldl_append];show ZbJ ops recs (Zf9 ops recs fr0 done) i = _;unfold ZbJ; rw [ho, hr]
theorem InvAt.quiet {NG : Nat} {done : List Nat} {m : Nat} {e : Env} {G : Nat → Option AObj} {a : Act} {w : World} (hI : InvAt NG L ops B base H0 fr0 recs e0 w0 done m e G a w)
 {i : Nat} {o : Oper} {r : RRec} (ho : ops[i]? = some o) (hr : recs[i]? = some r) (hb : ∀ j, bit B i j = true → j ∈ done)
 (hk1 : ∀ post ab, r.k ≠ .act post ab) (hk2 : ∀ ob, r.k ≠ .alloc ob) {y : Value} (hy : cv e r.v = some y) :
 InvAt NG L ops B base H0 fr0 recs e0 w0 (done ++ [i]) m e G (a.put o.dst y) w where
 closed j hj k hk := by
  rcases List.mem_append.1 hj with h | h
  ·exact List.mem_append_left _ (hI.closed j h k hk)
  ·simp only [List.mem_singleton] at h; subst h; exact List.mem_append_left _ (hb k hk)
 acts j ha := by
  rw [← hI.acts j ha, List.mem_append, List.mem_singleton];constructor
  ·rintro (h | rfl)
   ·exact h
   ·obtain ⟨r', post, ab, hr', hk⟩ := ha;rw [hr] at hr'; cases hr'; exact (hk1 _ _ hk).elim
  ·exact .inl
 fr := by rw [ZeA ho hr]; exact hI.fr.put o.dst hy
 hr := hI.hr
 tr := hI.tr
 sub := hI.sub
 new j r' ob hj hr' hk hb' := by
  rcases List.mem_append.1 hj with h | h
  ·exact hI.new j r' ob h hr' hk hb'
  ·simp only [List.mem_singleton] at h; subst h;rw [hr] at hr'; cases hr'; exact (hk2 _ hk).elim
 free j hj hn := hI.free j hj (fun h => hn (List.mem_append_left _ h))
 nxt := hI.nxt
theorem InvAt.told {NG : Nat} {done : List Nat} {m : Nat} {e : Env} {G : Nat → Option AObj} {a : Act} {w : World} (hI : InvAt NG L ops B base H0 fr0 recs e0 w0 done m e G a w)
 {i : Nat} (hb : ∀ j, bit B i j = true → j ∈ done) {pr : List (Nat × AObj)}
 (hpr : ∀ c ob, (c, ob) ∈ pr → (∃ r, recs[c]? = some r ∧ r.k = .alloc ob) ∧ Nat.testBit (Zaj H0 recs m).2 c = false) :
 Sub (ZaS base (Zch (B.get i)) pr (Zaj H0 recs m).1).objs.get G := by
 intro b ob h;rw [Zd1] at h;rcases Zfs h with h1 | ⟨c, rfl, h2, h3⟩
 ·exact hI.sub _ _ h1
 ·obtain ⟨⟨r, hr, hk⟩, ht⟩ := hpr c ob h2;exact (hI.new c r ob (hb c h3) hr hk ht).1
include ok hR hs hlen hfact hrd in
theorem ZmW {done : List Nat} {m : Nat} {e : Env} {G : Nat → Option AObj} {a : Act} {w : World} (hI : InvAt P.globals.size L ops B base H0 fr0 recs e0 w0 done m e G a w)
 {i : Nat} {o : Oper} (ho : ops[i]? = some o) (hni : i ∉ done) (hb : ∀ j, bit B i j = true → j ∈ done) {b : Frame} {k : List Item} {cs : List Frame} {rest : List Nat} (hk : b.kind = .normal) :
 ∃ a' w' m' e' G', InvAt P.globals.size L ops B base H0 fr0 recs e0 w0 (done ++ [i]) m' e' G' a' w' ∧
  Steps P (lone (b.atR a (.inRegion ops (i :: rest) :: k)) cs w) (lone (b.atR a' (.inRegion ops rest :: k)) cs w') := by
 have hil : i < ops.size := (Array.getElem?_eq_some_iff.1 ho).1;obtain ⟨r, hr⟩ : ∃ r, recs[i]? = some r := ⟨recs[i], by simp [hlen, hil]⟩
 have hF := hfact i o r ho hr;have hc : ∀ j, j ∈ done → bit B j i = false := by
  intro j hj;cases hbj : bit B j i with
  | false => rfl
  | true => exact (hni (hI.closed j hj i hbj)).elim
 have hag : ∀ t, ZkO t (o.looksAt ops) = true → (Zf9 ops recs fr0 done).tm.get t = r.fr.tm.get t := by
  intro t ht;rw [hF.fr];refine Zfr hs hlen fr0 fun j p hp hd => ?_
  obtain ⟨h1, h2⟩ := hs.row i o j p t ho hp hd ht;rw [List.mem_range];constructor
  ·intro hj;rcases Nat.lt_or_ge j i with h3 | h3
   ·exact h3
   ·rcases Nat.lt_or_ge i j with h4 | h4
    ·have := h2 h4; rw [hc j hj] at this; cases this
    ·obtain rfl : j = i := by omega
     exact (hni hj).elim
  ·intro hj; exact hb j (h1 hj)
 have hev : Ze9 e (Zew X r.fr.tm (o.looksAt ops)) a.eval := ZmV (Zem ok hI.fr hI.hr.glob) hag;have hwant : ∀ t, ZcT (o.looksAt ops) ops.toList r.fr.tm o.guard = some t → Region.wanted o (yielded ops a.tmps) = t := fun t ht =>
  ZfA hI.fr.tm (ZjN ht hag)
 cases hkd : r.k with
 | skip =>
  obtain ⟨h1, h2⟩ := hF.skip hkd;have hw := hwant _ h1;refine ⟨a.put o.dst Go.undef, w, m, e, G, hI.quiet ho hr hb (by simp [hkd]) (by simp [hkd]) (by rw [h2]; rfl), .one ?_⟩
  have := stepR_op_skip (P := P) (b := b) (a := a) (k := k) (cs := cs) (w := w) (ops := ops) (i := i) (rest := rest) (by simp [ho, hw])
  rw [ho] at this;exact this
 | pure =>
  have hw := hwant _ (hF.want (by simp [hkd]))
  have hq := hF.pure hkd;have hH : HR P.globals.size e L Zlk.objs.get (Zaj H0 recs m).1.next w := hI.hr.weaken (fun b o h => by cases h)
  obtain ⟨y, hy, hrun⟩ := Zib ok w hH hev o hq;have hnd : ∀ c, o.op ≠ .defer c := by intro c hc'; rw [hc'] at hq; simp [qop] at hq
  exact ⟨a.put o.dst y, w, m, e, G, hI.quiet ho hr hb (by simp [hkd]) (by simp [hkd]) hy, .one (Zaz ho hw hnd hrun (.inl rfl))⟩
 | rd =>
  have hw := hwant _ (hF.want (by simp [hkd]))
  have hq : ∃ pr, Sub (ZaS base (Zch (B.get i)) pr (Zaj H0 recs m).1).objs.get G ∧ qop X (Zew X r.fr.tm (o.looksAt ops)) (ZaS base (Zch (B.get i)) pr (Zaj H0 recs m).1) o.op = some r.v := by
   cases hacts : ZbI 0 recs with
   | nil =>
    obtain ⟨pr, hpr, hq⟩ := hF.rd hkd;have heq : Zaj H0 recs m = Zaj H0 recs i := Zbv fun j ha => by
     obtain ⟨r', post, ab, hr', hk'⟩ := ha;exact (ZjS hacts j r' post ab hr' hk').elim
    rw [← heq] at hq;refine ⟨pr, hI.told hb (fun c ob hm => ?_), hq⟩
    have := hpr c ob hm;rw [heq]; exact this
   | cons p l =>
    rw [hacts] at hrd;have h1 := Zls ops.toList recs 0 hrd i o r (by simpa using ho) hr hkd
    rw [Nat.zero_add, ← hacts] at h1;have h2 := ZjT (H0 := H0) (done := done) (m := m) hI.acts hb hc recs 0 rfl (fun j _ hj => by omega) h1
    refine ⟨leftOf (Zaj H0 recs m).2 (Zb6 0 recs), hI.told hb (fun c ob hm => ?_), ?_⟩
    ·obtain ⟨h3, h4⟩ := Zbq hm;obtain ⟨j, r', rfl, hr', hk'⟩ := ZgW h3;rw [Nat.zero_add] at h4 ⊢;exact ⟨⟨r', hr', hk'⟩, h4⟩
    ·unfold Zi4 at h2
     split at h2
     ·rename_i u hu;rw [hu, AV.same_of _ _ h2]
     ·cases h2
  obtain ⟨pr, hsub, hq⟩ := hq;obtain ⟨y, hy, hrun⟩ := Zib ok w (hI.hr.weaken hsub) hev o hq;have hnd : ∀ c, o.op ≠ .defer c := by intro c hc'; rw [hc'] at hq; simp [qop] at hq
  exact ⟨a.put o.dst y, w, m, e, G, hI.quiet ho hr hb (by simp [hkd]) (by simp [hkd]) hy, .one (Zaz ho hw hnd hrun (.inl rfl))⟩
 | alloc ob =>
  have hw := hwant _ (hF.want (by simp [hkd]))
  have hp := hF.alloc ob hkd;have hfree := hI.free i hil hni;obtain ⟨y, w', obj, hrun, hheap, g1, g2, g3, hy, hO, hwr⟩ := ZeK ok w hev (L := L) o hp hfree;have hnd : ∀ c, o.op ≠ .defer c := by intro c hc'; rw [hc'] at hp; simp [ZcQ] at hp
  have hnx := hI.nxt;have hT : Tran e G base w (e.ext (base + i) (w.heap.size, 0)) (Go.X.upd G (base + i) (some ob)) (Zaj H0 recs m).1.next w' := Tran.alloc hfree (by omega) (by omega) hwr hheap g1 g2 g3
  have hGn : G (base + i) = none := by
   cases hg : G (base + i) with
   | none => rfl
   | some q => obtain ⟨x, hx, _⟩ := hI.hr.live _ _ hg; rw [hfree] at hx; cases hx
  have hcn : (Zaj H0 recs m).1.objs.get (base + i) = none := by
   cases hg : (Zaj H0 recs m).1.objs.get (base + i) with
   | none => rfl
   | some q => rw [hI.sub _ _ hg] at hGn; cases hGn
  refine ⟨a.put o.dst y, w', m, _, _, ⟨?_, ?_, ?_, HR.alloc hI.hr hfree (by omega) hheap hO, hI.tr.trans' hT (by omega) (by omega), ?_, ?_, ?_, hnx⟩, .one (Zaz ho hw hnd hrun (.inl rfl))⟩
  ·intro j hj c hc';rcases List.mem_append.1 hj with h | h
   ·exact List.mem_append_left _ (hI.closed j h c hc')
   ·simp only [List.mem_singleton] at h; subst h; exact List.mem_append_left _ (hb c hc')
  ·intro j ha;rw [← hI.acts j ha, List.mem_append, List.mem_singleton];constructor
   ·rintro (h | rfl)
    ·exact h
    ·obtain ⟨r', post, ab, hr', hk'⟩ := ha;rw [hr] at hr'; cases hr'; rw [hkd] at hk'; cases hk'
   ·exact .inl
  ·rw [ZeA ho hr]; exact (hI.fr.le hT.le).put o.dst hy
  ·intro c q hq
   by_cases he : c = base + i
   ·subst he; rw [hcn] at hq; cases hq
   ·rw [upd_ne _ _ he]; exact hI.sub _ _ hq
  ·intro j r' ob' hj hr' hk' hb';rcases List.mem_append.1 hj with h | h
   ·obtain ⟨h1, h2⟩ := hI.new j r' ob' h hr' hk' hb';refine ⟨?_, h2⟩
    rw [upd_ne _ _ (by rintro he; have : j = i := by omega
                       subst this; exact hni h)]
    exact h1
   ·simp only [List.mem_singleton] at h; subst h;rw [hr] at hr'; cases hr'; rw [hkd] at hk'; cases hk';exact ⟨upd_same _ _ _, hcn⟩
  ·intro j hj hn;have hji : j ≠ i := fun he => hn (by subst he; simp)
   rw [Env.ext_ne _ _ (by omega)]
   exact hI.free j hj (fun h => hn (List.mem_append_left _ h))
 | act post ab =>
  have hw := hwant _ (hF.want (by simp [hkd]))
  obtain ⟨hab, hch, pr, hpr, cl, hone⟩ := hF.act post ab hkd;have hact : ZcU recs i := ⟨r, post, ab, hr, hkd⟩;have hm : ∀ j, ZcU recs j → (j < m ↔ j < i) := by
   intro j ha;rw [← hI.acts j ha];constructor
   ·intro hj;rcases Nat.lt_or_ge j i with h3 | h3
    ·exact h3
    ·rcases Nat.lt_or_ge i j with h4 | h4
     ·obtain ⟨r', post', ab', hr', hk'⟩ := ha;have hjl : j < ops.size := by rw [← hlen]; exact (List.getElem?_eq_some_iff.1 hr').1
      have hF' := hfact j ops[j] r' (by simp [hjl]) hr'
      obtain ⟨_, hch', _⟩ := hF'.act post' ab' hk';have := hch' i h4 hact;rw [hc j hj] at this; cases this
     ·obtain rfl : j = i := by omega
      exact (hni hj).elim
   ·intro hj; exact hb j (hch j hj ha)
  have heq : Zaj H0 recs m = Zaj H0 recs i := Zbv hm;rw [← heq] at hone hab;have hsub : Sub (ZaS base (Zch (B.get i)) pr (Zaj H0 recs m).1).objs.get G := hI.told hb (fun c ob hmm => by have := hpr c ob hmm; rw [heq]; exact this)
  have hHp := hI.hr.weaken hsub;rw [← Zd2 base (Zch (B.get i)) pr (Zaj H0 recs m).1] at hHp;obtain ⟨y, w', ⟨v, H', hmem, e', hy, hH', hT⟩, hst⟩ := Zhc ok hR hone hev hHp ho hw (b := b) (k := k) (cs := cs) (rest := rest) hk;simp only [List.mem_singleton, Prod.mk.injEq] at hmem;obtain ⟨rfl, rfl⟩ := hmem;rw [Zd2] at hT;have hcs : Zaj H0 recs (i + 1) = (H', ab) := ZbS hr hkd;have hfree : ∀ j, j < ops.size → e'.f (base + j) = e.f (base + j) := fun j hj => hT.old _ (by have := hI.nxt; omega)
  refine ⟨a.put o.dst y, w', i + 1, e', Zbw H'.objs.get (ZaS base (Zch (B.get i)) pr (Zaj H0 recs m).1).objs.get G, ⟨?_, ?_, ?_, ?_, ?_, ?_, ?_, ?_, ?_⟩, hst⟩
  ·intro j hj c hc';rcases List.mem_append.1 hj with h | h
   ·exact List.mem_append_left _ (hI.closed j h c hc')
   ·simp only [List.mem_singleton] at h; subst h; exact List.mem_append_left _ (hb c hc')
  ·intro j ha;rw [List.mem_append, List.mem_singleton, hI.acts j ha, hm j ha];omega
  ·rw [ZeA ho hr]; exact (hI.fr.le hT.le).put o.dst hy
  ·rw [hcs]; exact HR.framed hI.hr hsub hT hH'
  ·rw [hcs]; exact hI.tr.trans (Tran.framed hI.hr hsub hT)
  ·rw [hcs]; exact Zh3
  ·intro j r' ob' hj hr' hk' hb';rw [hcs] at hb' ⊢;simp only at hb' ⊢;rw [hab, Nat.testBit_or, Bool.or_eq_false_iff] at hb';have hj' : j ∈ done := by
    rcases List.mem_append.1 hj with h | h
    ·exact h
    ·simp only [List.mem_singleton] at h; subst h;rw [hr] at hr'; cases hr'; rw [hkd] at hk'; cases hk'
   obtain ⟨h1, h2⟩ := hI.new j r' ob' hj' hr' hk' hb'.1;have hpre : (ZaS base (Zch (B.get i)) pr (Zaj H0 recs m).1).objs.get (base + j) = none := by
    cases hg : (ZaS base (Zch (B.get i)) pr (Zaj H0 recs m).1).objs.get (base + j) with
    | none => rfl
    | some q =>
     rw [Zd1] at hg;rcases Zfs hg with h3 | ⟨c, h3, _, h5⟩
     ·rw [h2] at h3; cases h3
     ·obtain rfl : j = c := by omega
      rw [hb'.2] at h5; cases h5
   have hpost := Tran.untold hI.hr hsub hT hH' h1 hpre;exact ⟨(ZgV hpost hpre).trans h1, hpost⟩
  ·intro j hj hn;rw [hfree j hj];exact hI.free j hj (fun h => hn (List.mem_append_left _ h))
  ·rw [hcs]; exact Nat.le_trans hI.nxt hT.nx
end
end
end Go.X
