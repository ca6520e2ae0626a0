/- A region whose order is drawn, whole; code, calls, and the run by depth. -/
import Derived.Test.YtnmkiflnonafbaaGreatDoorE11
set_option linter.unusedVariables false
namespace Go.X
noncomputable section
set_option linter.unusedSectionVars false
theorem filter_len_lt {p q : Nat → Bool} (h : ∀ x, p x = true → q x = true) : ∀ (l : List Nat) (i : Nat), i ∈ l → p i = false → q i = true → (l.filter p).length < (l.filter q).length := by
 have hle : ∀ l : List Nat, (l.filter p).length ≤ (l.filter q).length := by
  intro l
  induction l with
  | nil => exact Nat.le_refl _
  | cons x l ih =>
   simp only [List.filter_cons];cases hp : p x with
   | true => rw [h x hp]; simpa using ih
   | false => cases q x <;> simp <;> omega
 intro l
 induction l with
 | nil => intro i hi; cases hi
 | cons x l ih =>
  intro i hi hp hq;simp only [List.filter_cons];rcases List.mem_cons.1 hi with rfl | hi
  ·rw [hp, hq]; have := hle l; simp; omega
  ·have := ih i hi hp hq;cases hpx : p x with
   | true => rw [h x hpx]; simpa using this
   | false => cases q x <;> simp <;> omega
section
variable {P : Program} {X : XP} (ok : XPok P X) {R : Rec} (hR : RecOk P (gp P X) R)
section
variable {L : Loops} {ops : Array Oper} {B : Tr Nat} (hs : Stat ops B) {base : Nat} {H0 : AHeap} {fr0 : Fr} {recs : List RRec} (hlen : recs.length = ops.size)
variable {N : Nat} (hfact : ∀ (j : Nat) (o : Oper) (r : RRec), j < N → ops[j]? = some o → recs[j]? = some r → Fact X R L ops B base H0 fr0 recs j o r)
variable (hrd : rdChk X ops B base H0 recs (actsOf 0 recs) = true)
variable {e0 : Env} {w0 : World}
def left (ops : Array Oper) (done : List Nat) : Nat := ((List.range ops.size).filter fun j => decide (j ∉ done)).length
theorem left_zero {ops : Array Oper} {done : List Nat} (h : left ops done = 0) : ∀ j, j < ops.size → j ∈ done := by
 intro j hj;have h1 := List.eq_nil_of_length_eq_zero h;have h2 := List.filter_eq_nil_iff.1 h1 j (List.mem_range.2 hj);simpa using h2
theorem left_snoc {ops : Array Oper} {done : List Nat} {i : Nat} (hi : i < ops.size) (hn : i ∉ done) : left ops (done ++ [i]) < left ops done := by
 refine filter_len_lt (fun x hx => ?_) _ i (List.mem_range.2 hi) (by simp) (by simpa using hn)
 simp only [decide_eq_true_eq] at hx ⊢;exact fun h => hx (List.mem_append_left _ h)
include ok hR hs hlen hfact hrd in
theorem lin_steps (hN : ops.size ≤ N) {b : Frame} {k : List Item} {cs : List Frame} : ∀ (fuel t : Nat) (listed : Array Bool) (done : List Nat) (m : Nat) (e : Env) (G : Nat → Option AObj) (a : Act) (w : World),
 InvAt (gp P X) L ops B base H0 fr0 recs e0 w0 done m e G a w → (∀ j, j < ops.size → (listed.getD j true = true ↔ j ∈ done)) → (∀ j, listed.getD j false = true → j ∈ done) → listed.size = ops.size → left ops done ≤ fuel → (∀ j, j ∈ done → j < N) →
 ∃ a' w' done' m' e' G', InvAt (gp P X) L ops B base H0 fr0 recs e0 w0 done' m' e' G' a' w' ∧ (∀ j, j < ops.size → j ∈ done') ∧
  Steps P (lone (b.atR a (.inRegion ops (Region.linearise.go .any ops fuel t listed []) :: k)) cs w) (lone (b.atR a' k) cs w') := by
 intro fuel
 induction fuel with
 | zero =>
  intro t listed done m e G a w hI h1 h2 hsz hl hdN;refine ⟨a, w, done, m, e, G, hI, left_zero (by omega), ?_⟩
  exact .one stepR_region_end
 | succ fuel ih =>
  intro t listed done m e G a w hI h1 h2 hsz hl hdN;simp only [Region.linearise.go]
  change ∃ a' w' done' m' e' G', _ ∧ _ ∧ Steps P (lone (b.atR a (.inRegion ops (match (Region.ready .any ops listed)[t % (Region.ready .any ops listed).length]? with
   | some i => Region.linearise.go .any ops fuel (t / (Region.ready .any ops listed).length) (listed.setIfInBounds i true) [i]
   | none => [].reverse) :: k)) cs w) _
  cases hi : (Region.ready .any ops listed)[t % (Region.ready .any ops listed).length]? with
  | none =>
   have hnil : Region.ready .any ops listed = [] := by
    cases hr : Region.ready .any ops listed with
    | nil => rfl
    | cons x xs =>
     rw [hr] at hi;have hlt : t % (x :: xs).length < (x :: xs).length := Nat.mod_lt _ (by simp)
     simp at hi;simp at hlt;omega
   refine ⟨a, w, done, m, e, G, hI, ?_, .one stepR_region_end⟩;intro j
   induction j using Nat.strongRecOn with
   | _ j ihj =>
    intro hj;refine Classical.byContradiction fun hn => ?_
    have : j ∈ Region.ready .any ops listed := by
     rw [mem_ready];refine ⟨?_, ops[j], by simp [hj], fun ed hed hb => ?_⟩
     ·cases hg : listed.getD j true with
      | false => rfl
      | true => exact (hn ((h1 j hj).1 hg)).elim
     ·have hlt := hs.edge j ops[j] (by simp [hj]) ed hed hb
      have hin := ihj ed.on hlt (by omega)
      have hg := (h1 ed.on (by omega)).2 hin
      have hb' : ed.on < listed.size := by omega
      simp only [Array.getD_eq_getD_getElem?, hb', Array.getElem?_eq_getElem, Option.getD_some] at hg ⊢;exact hg
    rw [hnil] at this; cases this
  | some i =>
   have hmem := List.mem_of_getElem? hi;obtain ⟨hun, o, ho, hall⟩ := mem_ready.1 hmem;have hil : i < ops.size := (Array.getElem?_eq_some_iff.1 ho).1;have hni : i ∉ done := fun hin => by rw [(h1 i hil).2 hin] at hun; cases hun
   have hb : ∀ j, bit B i j = true → j ∈ done := by
    intro j hj;obtain ⟨ed, hed, hbd, h3⟩ := hs.bef i o ho j hj;have hin := h2 _ (hall ed hed hbd);rcases h3 with rfl | h3
    ·exact hin
    ·exact hI.closed _ hin j h3
   simp only [];rw [linearise_go_acc, List.reverse_singleton, List.singleton_append];obtain ⟨a1, w1, m1, e1, G1, hI1, hst⟩ := inv_step ok hR hs hlen hfact hrd hI (Nat.lt_of_lt_of_le hil hN) hdN ho hni hb (b := b) (k := k) (cs := cs)
    (rest := Region.linearise.go .any ops fuel (t / (Region.ready .any ops listed).length) (listed.setIfInBounds i true) [])
   obtain ⟨a', w', done', m', e', G', hI', hall', hst'⟩ := ih (t / (Region.ready .any ops listed).length) (listed.setIfInBounds i true) (done ++ [i]) m1 e1 G1 a1 w1 hI1
    (fun j hj => by
      by_cases hij : i = j
      ·subst hij;have hb' : i < listed.size := by omega
       simp [Array.getD_eq_getD_getElem?, hb']
      ·rw [getD_set_ne true hij, h1 j hj, List.mem_append, List.mem_singleton];constructor
       ·exact .inl
       ·rintro (h | h)
        ·exact h
        ·exact (hij h.symm).elim)
    (fun j hj => by
      by_cases hij : i = j
      ·subst hij; simp
      ·rw [getD_set_ne false hij] at hj; exact List.mem_append_left _ (h2 j hj))
    (by simpa using hsz) (by have := left_snoc hil hni; omega)
    (fun j hj => by
      rcases List.mem_append.1 hj with h | h
      ·exact hdN j h
      ·simp only [List.mem_singleton] at h; subst h; exact Nat.lt_of_lt_of_le hil hN)
   exact ⟨a', w', done', m', e', G', hI', hall', Steps.trans hst hst'⟩
include ok hR hs hlen hfact hrd in
theorem lin_pan (hN : N < ops.size) (haft : ∀ k, N < k → k < ops.size → bit B k N = true) {b : Frame} {k : List Item} {cs : List Frame} (hbef : ∀ j, j < N → bit B N j = true) : ∀ (fuel t : Nat) (listed : Array Bool) (done : List Nat) (m : Nat) (e : Env) (G : Nat → Option AObj) (a : Act) (w : World),
 InvAt (gp P X) L ops B base H0 fr0 recs e0 w0 done m e G a w → (∀ j, j < ops.size → (listed.getD j true = true ↔ j ∈ done)) → (∀ j, listed.getD j false = true → j ∈ done) → listed.size = ops.size → left ops done ≤ fuel → (∀ j, j ∈ done → j < N) →
 ∃ a' w' done' m' e' G' rest, InvAt (gp P X) L ops B base H0 fr0 recs e0 w0 done' m' e' G' a' w' ∧ (∀ j, j < N → j ∈ done') ∧ (∀ j, j ∈ done' → j < N) ∧
  Steps P (lone (b.atR a (.inRegion ops (Region.linearise.go .any ops fuel t listed []) :: k)) cs w) (lone (b.atR a' (.inRegion ops (N :: rest) :: k)) cs w') := by
 intro fuel
 induction fuel with
 | zero =>
  intro t listed done m e G a w hI h1 h2 hsz hl hdN;exact absurd (hdN N (left_zero (by omega) N hN)) (by omega)
 | succ fuel ih =>
  intro t listed done m e G a w hI h1 h2 hsz hl hdN;simp only [Region.linearise.go]
  change ∃ a' w' done' m' e' G' rest, _ ∧ _ ∧ _ ∧ Steps P (lone (b.atR a (.inRegion ops (match (Region.ready .any ops listed)[t % (Region.ready .any ops listed).length]? with
   | some i => Region.linearise.go .any ops fuel (t / (Region.ready .any ops listed).length) (listed.setIfInBounds i true) [i]
   | none => [].reverse) :: k)) cs w) _
  cases hi : (Region.ready .any ops listed)[t % (Region.ready .any ops listed).length]? with
  | none =>
   have hnil : Region.ready .any ops listed = [] := by
    cases hr : Region.ready .any ops listed with
    | nil => rfl
    | cons x xs =>
     rw [hr] at hi;have hlt : t % (x :: xs).length < (x :: xs).length := Nat.mod_lt _ (by simp)
     simp at hi;simp at hlt;omega
   have hall : ∀ j, j < ops.size → j ∈ done := by
    intro j
    induction j using Nat.strongRecOn with
    | _ j ihj =>
     intro hj;refine Classical.byContradiction fun hn => ?_
     have : j ∈ Region.ready .any ops listed := by
      rw [mem_ready];refine ⟨?_, ops[j], by simp [hj], fun ed hed hb => ?_⟩
      ·cases hg : listed.getD j true with
       | false => rfl
       | true => exact (hn ((h1 j hj).1 hg)).elim
      ·have hlt := hs.edge j ops[j] (by simp [hj]) ed hed hb
       have hin := ihj ed.on hlt (by omega)
       have hg := (h1 ed.on (by omega)).2 hin
       have hb' : ed.on < listed.size := by omega
       simp only [Array.getD_eq_getD_getElem?, hb', Array.getElem?_eq_getElem, Option.getD_some] at hg ⊢;exact hg
     rw [hnil] at this; cases this
   exact absurd (hdN N (hall N hN)) (by omega)
  | some i =>
   have hmem := List.mem_of_getElem? hi;obtain ⟨hun, o, ho, hall⟩ := mem_ready.1 hmem;have hil : i < ops.size := (Array.getElem?_eq_some_iff.1 ho).1;have hni : i ∉ done := fun hin => by rw [(h1 i hil).2 hin] at hun; cases hun
   have hb : ∀ j, bit B i j = true → j ∈ done := by
    intro j hj;obtain ⟨ed, hed, hbd, h3⟩ := hs.bef i o ho j hj;have hin := h2 _ (hall ed hed hbd);rcases h3 with rfl | h3
    ·exact hin
    ·exact hI.closed _ hin j h3
   simp only [];rw [linearise_go_acc, List.reverse_singleton, List.singleton_append];rcases Nat.lt_or_ge i N with hiN | hiN
   ·obtain ⟨a1, w1, m1, e1, G1, hI1, hst⟩ := inv_step ok hR hs hlen hfact hrd hI hiN hdN ho hni hb (b := b) (k := k) (cs := cs)
     (rest := Region.linearise.go .any ops fuel (t / (Region.ready .any ops listed).length) (listed.setIfInBounds i true) [])
    obtain ⟨a', w', done', m', e', G', rest, hI', hall', hd', hst'⟩ := ih (t / (Region.ready .any ops listed).length) (listed.setIfInBounds i true) (done ++ [i]) m1 e1 G1 a1 w1 hI1
     (fun j hj => by
       by_cases hij : i = j
       ·subst hij;have hb' : i < listed.size := by omega
        simp [Array.getD_eq_getD_getElem?, hb']
       ·rw [getD_set_ne true hij, h1 j hj, List.mem_append, List.mem_singleton];constructor
        ·exact .inl
        ·rintro (h | h)
         ·exact h
         ·exact (hij h.symm).elim)
     (fun j hj => by
       by_cases hij : i = j
       ·subst hij; simp
       ·rw [getD_set_ne false hij] at hj; exact List.mem_append_left _ (h2 j hj))
     (by simpa using hsz) (by have := left_snoc hil hni; omega)
     (fun j hj => by
       rcases List.mem_append.1 hj with h | h
       ·exact hdN j h
       ·simp only [List.mem_singleton] at h; subst h; exact hiN)
    exact ⟨a', w', done', m', e', G', rest, hI', hall', hd', Steps.trans hst hst'⟩
   ·have hiE : i = N := by
     rcases Nat.lt_or_ge N i with h3 | h3
     ·exact absurd (hdN N (hb N (haft i h3 hil))) (by omega)
     ·omega
    subst hiE;exact ⟨a, w, done, m, e, G, _, hI, fun j hj => hb j (hbef j hj), hdN, Steps.refl _ _⟩
include ok hR hs hlen in
theorem pan_step {done : List Nat} {m : Nat} {e : Env} {G : Nat → Option AObj} {a : Act} {w : World} (hI : InvAt (gp P X) L ops B base H0 fr0 recs e0 w0 done m e G a w) {u : AV} {fr' : Fr} {H' : AHeap}
 (hP : PanAt X R L ops B base H0 fr0 recs N u fr' H') (hall : ∀ j, j < N → j ∈ done) (hdn : ∀ j, j ∈ done → j < N) {b : Frame} {k : List Item} {cs : List Frame} {rest : List Nat} :
 ∃ e' w', FR e' fr' a ∧ HR (gp P X) e' L H'.objs.get H'.next w' ∧ Tran e0 H0.objs.get base w0 e' H'.objs.get H'.next w' ∧ Arr P (lone (b.atR a (.inRegion ops (N :: rest) :: k)) cs w) b k cs (.pan u) a w' := by
 obtain ⟨o, ho, hwr, pr, c, hpr, hone⟩ := hP.op;have hset : ∀ j, j ∈ done ↔ j ∈ List.range N := fun j => by rw [List.mem_range]; exact ⟨hdn j, hall j⟩
 have hag : ∀ t, (putL ops recs fr0 done).tm.get t = fr'.tm.get t := by
  intro t;rw [hP.fr];exact putL_agree hs hlen fr0 fun j p _ _ => hset j
 have hFR : FR e fr' a := hI.fr.congr (fun t => (hag t).symm) (by rw [hP.fr, putL_n, putL_n]) (by rw [hP.fr, putL_defs, putL_defs])
 have hev : EvOk e (evalR X fr'.tm (o.looksAt ops)) a.eval := evalR_ok (evalA_ok ok hI.fr hI.hr.glob) (fun t _ => hag t)
 have hw := wantedA_ok hI.fr.tm (wantedR_ok hwr (fun t _ => hag t))
 have heq : curAt H0 recs m = curAt H0 recs N := curAt_congr fun j ha => (hI.acts j ha).symm.trans ⟨hdn j, hall j⟩
 rw [← heq] at hone;have hsub : Sub (withNew base (bget (B.get N)) pr (curAt H0 recs m).1).objs.get G := hI.told (fun j hj => hall j (hs.lt N j hj)) (fun cc ob hmm => by have := hpr cc ob hmm; rw [heq]; exact this)
 have hHp := hI.hr.weaken hsub;rw [← withNew_next base (bget (B.get N)) pr (curAt H0 recs m).1] at hHp
 obtain ⟨en, w', ⟨v, H1, hmem, e', hen, hH', hT⟩, _, hst⟩ := oneOp2_ok ok hR hone hev hHp ho hw (b := b) (k := k) (cs := cs) (rest := rest);simp only [List.mem_singleton, Prod.mk.injEq] at hmem;obtain ⟨rfl, rfl⟩ := hmem;obtain ⟨y, hc, hy, rfl⟩ := hen;rw [withNew_next] at hT;exact ⟨e', w', hFR.le hT.le, hH', hI.tr.trans (hT.from_sub hsub), y, _, hc, by rw [closed_cv eNil e' u hc]; exact hy, hst⟩
end
def padR (fr : Fr) : RRec := ⟨.skip, .undef, fr⟩
theorem actsOf_pad {fr : Fr} {n : Nat} : ∀ (l : List RRec) (k : Nat), actsOf k (l ++ List.replicate n (padR fr)) = actsOf k l
 | [], k => by
  induction n generalizing k with
  | zero => rfl
  | succ n ih =>
   rw [List.nil_append, List.replicate_succ];simp only [actsOf, padR];have := ih (k + 1);rw [List.nil_append] at this;exact this
 | r :: l, k => by
  simp only [List.cons_append, actsOf, actsOf_pad l (k + 1)]
theorem allocsOf_pad {fr : Fr} {n : Nat} : ∀ (l : List RRec) (k : Nat), allocsOf k (l ++ List.replicate n (padR fr)) = allocsOf k l
 | [], k => by
  induction n generalizing k with
  | zero => rfl
  | succ n ih =>
   rw [List.nil_append, List.replicate_succ];simp only [allocsOf, padR];have := ih (k + 1);rw [List.nil_append] at this;exact this
 | r :: l, k => by
  simp only [List.cons_append, allocsOf, allocsOf_pad l (k + 1)]
theorem rdOk_pad {X : XP} {all : Array Oper} {B : Tr Nat} {base : Nat} {als : List (Nat × AObj)} {acts : List (Nat × Nat × AHeap)} {H : AHeap} {fr : Fr} {n : Nat} : ∀ (os : List Oper) (l : List RRec) (k : Nat),
 rdOk X all B base als acts H k os l = true → rdOk X all B base als acts H k os (l ++ List.replicate n (padR fr)) = true
 | [], l, k, _ => by simp [rdOk]
 | o :: os, [], k, _ => by
  induction n generalizing k o os with
  | zero => rfl
  | succ n ih =>
   rw [List.nil_append, List.replicate_succ];simp only [rdOk, padR, isRd, Bool.true_and];cases os with
   | nil => rfl
   | cons p os =>
    have := ih p os (k + 1) rfl;rw [List.nil_append] at this;exact this
 | o :: os, r :: l, k, h => by
  simp only [List.cons_append, rdOk, Bool.and_eq_true] at h ⊢;exact ⟨h.1, rdOk_pad os l (k + 1) h.2⟩
theorem rdChk_pad {X : XP} {all : Array Oper} {B : Tr Nat} {base : Nat} {H : AHeap} {fr : Fr} {n : Nat} {l : List RRec} (h : rdChk X all B base H l (actsOf 0 l) = true) :
 rdChk X all B base H (l ++ List.replicate n (padR fr)) (actsOf 0 (l ++ List.replicate n (padR fr))) = true := by
 rw [actsOf_pad];cases ha : actsOf 0 l with
 | nil => rfl
 | cons p r =>
  rw [ha] at h;simp only [rdChk] at h ⊢;rw [allocsOf_pad];exact rdOk_pad _ _ _ h
include ok hR in
theorem regionFork_ok {L : Loops} {ops : Array Oper} (hst : okStatic ops = true) {fr : Fr} : ∀ (n : Nat) (H : AHeap) (outs : List (XE × Fr × AHeap)), regionFork X R L ops fr n H = some outs →
 ∀ (e : Env) (a : Act) (w : World), FR e fr a → HR (gp P X) e L H.objs.get H.next w → ∀ (b : Frame) (k : List Item) (cs : List Frame), ∀ t,
  ∃ x a' w', CodeOut (gp P X) L e H w outs x a' w' ∧ Arr P (lone (b.atR a (.inRegion ops (Region.linearise .any ops t) :: k)) cs w) b k cs x a' w' := by
 intro n;have hs := okStatic_spec hst
 induction n with
 | zero => intro H outs h; simp [regionFork] at h
 | succ n ih =>
  intro H outs h e a w hF hH b k cs t;simp only [regionFork] at h;unfold regionDone at h
  split at h
  ·cases h
  ·rename_i bb hgo;unfold forkAt at h
   split at h
   ·rename_i el low hi es cells hob;unfold appL at h
    split at h
    ·rename_i o1 o2 h1 h2;simp only [Option.some.injEq] at h; subst h;obtain ⟨x, hx, c, fz, b1, b2, ⟨b3, b4, b5⟩, b6⟩ := hH.live bb _ hob;have fin : ∀ (lo' : Nat) (hi' : Option Nat) (o : List (XE × Fr × AHeap)), lo' ≤ x.2 → (∀ h, hi' = some h → x.2 < h) → regionFork X R L ops fr n (H.set bb (some (.blk el false (.opn lo' hi' es) cells))) = some o → (∀ y ∈ o, y ∈ o1 ++ o2) →
      ∃ x a' w', CodeOut (gp P X) L e H w (o1 ++ o2) x a' w' ∧ Arr P (lone (b.atR a (.inRegion ops (Region.linearise .any ops t) :: k)) cs w) b k cs x a' w' := by
      intro lo' hi' o g1 g2 g3 g4;obtain ⟨s1, s2⟩ := sharpen w hH hob hx (lo' := lo') (hi' := hi') g1 g2;obtain ⟨x', a', w', hout, hsteps⟩ := ih _ _ g3 e a w hF s1 b k cs t;exact ⟨x', a', w', hout.trans s2 g4, hsteps⟩
     by_cases hlt : low + 1 ≤ x.2
     ·exact fin (low + 1) hi o1 hlt b5 h1 (fun y hy => List.mem_append_left _ hy)
     ·exact fin low (some (low + 1)) o2 b4 (fun h hh => by cases hh; omega) h2 (fun y hy => List.mem_append_right _ hy)
    ·cases h
   ·cases h
  ·rename_i l u fr' H' hgo;simp only [brec] at h;cases hrd : rdChk X ops (befs 0 ops.toList .nil) H.next (reserve ops.size H) l (actsOf 0 l) with
   | false => rw [hrd] at h; cases h
   | true =>
    rw [hrd] at h;simp only [cond_true, Option.some.injEq] at h; subst h;have hres1 : (reserve ops.size H).next = H.next + ops.size := by cases H; rfl
    have hres2 : (reserve ops.size H).objs = H.objs := by cases H; rfl
    obtain ⟨hfact, hlt, hP⟩ := regGo_spec hs (H0 := reserve ops.size H) (fr0 := fr) ops.toList 0 fr (reserve ops.size H) [] 0 0 l _ (l ++ List.replicate (ops.size - l.length) (padR fr)) _ hgo rfl rfl rfl (Nat.zero_le _) rfl rfl
     (fun j => by simp) (fun j hj => by simp at hj) (fun a ob hm => by cases hm)
    have hN : l.length < ops.size := by simpa using hlt
    rw [Nat.zero_add] at hP;have hlen : (l ++ List.replicate (ops.size - l.length) (padR fr)).length = ops.size := by simp; omega
    have hrd' := rdChk_pad (fr := fr) (n := ops.size - l.length) hrd;have hfree : ∀ j, e.f (H.next + j) = none := fun j => by
     cases hf : e.f (H.next + j) with
     | none => rfl
     | some x => exact absurd (hH.dom _ _ hf) (by omega)
    have hI : InvAt (gp P X) L ops (befs 0 ops.toList .nil) H.next (reserve ops.size H) fr (l ++ List.replicate (ops.size - l.length) (padR fr)) e w [] 0 e H.objs.get a w := by
     refine ⟨(fun i hi => by cases hi), (fun j _ => ⟨(fun h => by cases h), (fun h => by omega)⟩), hF, ?_, ?_, ?_, (fun j r ob hj => by cases hj), (fun j _ _ => hfree j), ?_⟩
     ·show HR _ e L H.objs.get (reserve ops.size H).next w;rw [hres1]; exact hH.bump (by omega)
     ·show Tran e (reserve ops.size H).objs.get H.next w e H.objs.get (reserve ops.size H).next w;rw [hres1, hres2]; exact (Tran.refl _ _ _ _).bump (by omega)
     ·show Sub (reserve ops.size H).objs.get H.objs.get;rw [hres2]; exact Sub.refl _
     ·show _ ≤ (reserve ops.size H).next;rw [hres1]; exact Nat.le_refl _
    obtain ⟨a', w', done', m', e', G', rest, hI', hall, hdn, hsteps⟩ := lin_pan ok hR hs hlen (N := l.length) (fun j o r hj => hfact j o r (Nat.zero_le _) (by omega)) hrd' hN hP.aft (b := b) (k := k) (cs := cs) hP.bef ops.size t (Array.replicate ops.size false) [] 0 e H.objs.get a w hI
     (fun j hj => by simp [Array.getD_eq_getD_getElem?, hj])
     (fun j hj => by
       rcases Nat.lt_or_ge j ops.size with h1 | h1
       ·simp [Array.getD_eq_getD_getElem?, h1] at hj
       ·simp [Array.getD_eq_getD_getElem?, h1] at hj)
     (by simp) (by
       have := List.length_filter_le (fun j => decide (j ∉ ([] : List Nat))) (List.range ops.size)
       simpa [left] using this) (fun j hj => by cases hj)
    obtain ⟨e2, w2, q1, q2, q3, q4⟩ := pan_step ok hR hs hlen hI' hP hall hdn (b := b) (k := k) (cs := cs) (rest := rest);rw [hres2] at q3;exact ⟨.pan u, a', w2, ⟨fr', H', e2, by simp, q1, q2, q3⟩, .of_steps hsteps q4⟩
  ·rename_i recs fr' H' hgo;simp only [brec] at h;cases hrd : rdChk X ops (befs 0 ops.toList .nil) H.next (reserve ops.size H) recs (actsOf 0 recs) with
   | false => rw [hrd] at h; cases h
   | true =>
    rw [hrd] at h;simp only [cond_true, Option.some.injEq] at h; subst h;have hres1 : (reserve ops.size H).next = H.next + ops.size := by cases H; rfl
    have hres2 : (reserve ops.size H).objs = H.objs := by cases H; rfl
    obtain ⟨hfact, hl, hfr', prf, hprf, hH'⟩ := regGo_spec hs (H0 := reserve ops.size H) (fr0 := fr) ops.toList 0 fr (reserve ops.size H) [] 0 0 recs _ recs [] hgo rfl rfl (by simp) (Nat.zero_le _) rfl rfl
     (fun j => by simp) (fun j hj => by simp at hj) (fun a ob hm => by cases hm)
    have hlen : recs.length = ops.size := by rw [hl]; simp
    have hszl : 0 + ops.toList.length = ops.size := by simp
    rw [hszl] at hfr' hprf hH';have hfree : ∀ j, e.f (H.next + j) = none := fun j => by
     cases hf : e.f (H.next + j) with
     | none => rfl
     | some x => exact absurd (hH.dom _ _ hf) (by omega)
    have hI : InvAt (gp P X) L ops (befs 0 ops.toList .nil) H.next (reserve ops.size H) fr recs e w [] 0 e H.objs.get a w := by
     refine ⟨(fun i hi => by cases hi), (fun j _ => ⟨(fun h => by cases h), (fun h => by omega)⟩), hF, ?_, ?_, ?_, (fun j r ob hj => by cases hj), (fun j _ _ => hfree j), ?_⟩
     ·show HR _ e L H.objs.get (reserve ops.size H).next w;rw [hres1]; exact hH.bump (by omega)
     ·show Tran e (reserve ops.size H).objs.get H.next w e H.objs.get (reserve ops.size H).next w;rw [hres1, hres2]; exact (Tran.refl _ _ _ _).bump (by omega)
     ·show Sub (reserve ops.size H).objs.get H.objs.get;rw [hres2]; exact Sub.refl _
     ·show _ ≤ (reserve ops.size H).next;rw [hres1]; exact Nat.le_refl _
    obtain ⟨a', w', done', m', e', G', hI', hall, hsteps⟩ := lin_steps ok hR hs hlen (N := ops.size) (fun j o r hj => hfact j o r (Nat.zero_le _) (by omega)) hrd (Nat.le_refl _) (b := b) (k := k) (cs := cs) ops.size t (Array.replicate ops.size false) [] 0 e H.objs.get a w hI
     (fun j hj => by simp [Array.getD_eq_getD_getElem?, hj])
     (fun j hj => by
       rcases Nat.lt_or_ge j ops.size with h1 | h1
       ·simp [Array.getD_eq_getD_getElem?, h1] at hj
       ·simp [Array.getD_eq_getD_getElem?, h1] at hj)
     (by simp) (by
       have := List.length_filter_le (fun j => decide (j ∉ ([] : List Nat))) (List.range ops.size)
       simpa [left] using this) (fun j hj => by cases hj)
    have hcur : curAt (reserve ops.size H) recs m' = curAt (reserve ops.size H) recs ops.size := curAt_congr fun j ha => by
     have hj : j < ops.size := by
      obtain ⟨r, _, _, hr, _⟩ := ha;have := (List.getElem?_eq_some_iff.1 hr).1;omega
     exact ⟨fun _ => hj, fun _ => (hI'.acts j ha).1 (hall j hj)⟩
    have hsub : Sub H'.objs.get G' := by
     intro bb ob hb;rw [hH'] at hb;rcases allNew_get hb with h1 | ⟨c, rfl, h2⟩
     ·exact hI'.sub bb ob (by rw [hcur]; exact h1)
     ·obtain ⟨⟨r, hr, hk'⟩, ht⟩ := hprf c ob h2;have hc : c < ops.size := by
       have := (List.getElem?_eq_some_iff.1 hr).1;omega
      exact (hI'.new c r ob (hall c hc) hr hk' (by rw [hcur]; exact ht)).1
    have hnx : H'.next = (curAt (reserve ops.size H) recs m').1.next := by rw [hH', hcur]
    refine ⟨.normal, a', w', ⟨fr', H', e', by simp, ?_, ?_, ?_⟩, hsteps⟩
    ·refine hI'.fr.congr (fun t => ?_) (by rw [hfr', putL_n, putL_n]) (by rw [hfr', putL_defs, putL_defs])
     rw [hfr'];refine putL_agree hs hlen fr fun j p hp _ => ?_
     have hj : j < ops.size := (Array.getElem?_eq_some_iff.1 hp).1;exact ⟨fun _ => hall j hj, fun _ => List.mem_range.2 hj⟩
    ·rw [hnx]; exact hI'.hr.weaken hsub
    ·have := hI'.tr.weaken hsub;rw [hres2] at this;rw [hnx]; exact this
variable (hmix : P.follows .mixedOrders = true)
include ok hR hmix in
theorem region_ok {rd ro : Option Nat} {fid : FuncId} {L : Loops} {fr : Fr} {H : AHeap} {id : Nat} {ops : Array Oper} {d : Bool} {outs : List (XE × Fr × AHeap)}
 (h : codeStep X R rd fid L fr H (.region id ops d) = some outs) {e : Env} {a : Act} {w : World} (hF : FR e fr a) (hH : HR (gp P X) e L H.objs.get H.next w) (hro : RdOk e rd ro) :
 CodeWP P fid ro (.region id ops d) (CodeOut (gp P X) L e H w outs) a w := by
 simp only [codeStep, brec] at h;intro b k cs _ hb;cases d with
 | false =>
  simp only [cond_false] at h;obtain ⟨x, a', w', hout, hst⟩ := runOps_ok ok hR (rd := rd) (ro := ro) ops.toList 0 (by simp) fr H outs h e a w hF hH hro b k cs hb
  refine ⟨x, a', w', hout, .of_steps (.one stepR_region) ?_⟩;rw [List.range_eq_range'];simpa using hst
 | true =>
  simp only [cond_true, regionDraw, brec] at h;cases hst : okStatic ops with
  | false => rw [hst] at h; cases h
  | true =>
   rw [hst] at h;simp only [cond_true] at h;have hT : Tran e H.objs.get H.next w e H.objs.get H.next { w with drawn := w.drawn + 1 } := Tran.same rfl rfl rfl rfl
   obtain ⟨x, a', w', hout, hsteps⟩ := regionFork_ok ok hR hst 3 H outs h e a { w with drawn := w.drawn + 1 } hF (hH.same rfl) b k cs (w.tape w.drawn (.order b.fn id))
   refine ⟨x, a', w', hout.trans hT (fun _ h => h), .of_steps (.one stepR_region_draw) ?_⟩
   simp only [Region.schedule, hmix, Bool.true_or, if_true];exact hsteps
variable (okf : FnOk P X) (hB : BodyCalls P X R)
include ok hR hmix hB in
theorem codeStep_ok {rd ro : Option Nat} {fid : FuncId} {L : Loops} {fr : Fr} {H : AHeap} {c : Code} {outs : List (XE × Fr × AHeap)}
 (h : codeStep X R rd fid L fr H c = some outs) {e : Env} {a : Act} {w : World} (hF : FR e fr a) (hH : HR (gp P X) e L H.objs.get H.next w) (hro : RdOk e rd ro) :
 CodeWP P fid ro c (CodeOut (gp P X) L e H w outs) a w := by
 have here : ∀ x, some [(x, fr, H)] = some outs → CodeOut (gp P X) L e H w outs x a w := by
  intro x hx;simp only [Option.some.injEq] at hx; subst hx;exact ⟨fr, H, e, by simp, hF, hH, Tran.refl _ _ _ _⟩
 cases c with
 | skip => exact fun b k cs _ _ => ⟨.normal, a, w, here _ h, .one stepR_skip⟩
 | label l => exact fun b k cs _ _ => ⟨.normal, a, w, here _ h, .one stepR_label⟩
 | ret => exact fun b k cs _ _ => ⟨.ret, a, w, here _ h, k, Steps.refl _ _⟩
 | exit id => exact fun b k cs _ _ => ⟨.exit id, a, w, here _ h, k, rfl, Steps.refl _ _⟩
 | region id ops d => exact region_ok ok hR hmix h hF hH hro
 | seq x y => exact seq_ok hR h hF hH hro
 | cond x c1 c2 => exact cond_ok ok hR h hF hH hro
 | block id c => exact block_ok hR h hF hH hro
 | loop c => exact loop_ok hR h hF hH hro
 | rangeFunc g ps asg body => exact range_ok ok hB h hF hH hro
 | scope c => exact scope_ok hR h hF hH hro
 | goto l => simp [codeStep] at h
 | refuse r => simp [codeStep] at h
end
end
end Go.X

/- What is known of a call, with other names of the blocks. -/
namespace Go.X
noncomputable section
set_option linter.unusedSectionVars false
theorem okTab_spec {ρ : RN} {inv : Tr Nat} : ∀ {t : Tr Nat} {p q : Nat}, okTab ρ inv t p q = true → ∀ k c, t.get k = some c → ρ.g ≤ c ∧ c < ρ.m ∧ inv.get c = some (p * k + q) := by
 intro t
 induction t with
 | nil => intro p q _ k c h; cases h
 | node v l r ihl ihr =>
  intro p q h k c hk;simp only [okTab, Bool.and_eq_true] at h;obtain ⟨⟨h1, h2⟩, h3⟩ := h;rw [Tr.get_node] at hk
  by_cases h0 : k = 0
  ·rw [if_pos h0] at hk;subst h0; subst hk;simp only [Bool.and_eq_true] at h1;refine ⟨nble_of h1.1.1, nblt_of h1.1.2, ?_⟩;have h4 := h1.2;cases hi : inv.get c with
   | none => rw [hi] at h4; cases h4
   | some b => rw [hi] at h4; rw [nbeq_of h4]; simp
  ·rw [if_neg h0] at hk
   by_cases ho : k % 2 = 1
   ·rw [if_pos ho] at hk;obtain ⟨g1, g2, g3⟩ := ihl h2 _ _ hk;refine ⟨g1, g2, ?_⟩;rw [g3]; congr 1;have hk2 : k = 2 * (k / 2) + 1 := by omega
    generalize k / 2 = j at hk2;subst hk2;rw [Nat.mul_add, ← Nat.mul_assoc, Nat.mul_comm p 2]; omega
   ·rw [if_neg ho] at hk;obtain ⟨g1, g2, g3⟩ := ihr h3 _ _ hk;refine ⟨g1, g2, ?_⟩;rw [g3]; congr 1;have hk2 : k = 2 * (k / 2 - 1) + 2 := by omega
    generalize k / 2 - 1 = j at hk2;subst hk2;rw [Nat.mul_add, ← Nat.mul_assoc, Nat.mul_comm p 2]; omega
structure RnOk (ρ : RN) : Prop where
 gn : ρ.g ≤ ρ.n
 gm : ρ.g ≤ ρ.m
 tab : ∀ b c, ρ.t.get b = some c → ρ.g ≤ c ∧ c < ρ.m
 inj : ∀ b b' c, ρ.t.get b = some c → ρ.t.get b' = some c → b = b'
theorem rnOk_of {ρ : RN} {inv : Tr Nat} (h1 : ρ.g ≤ ρ.n) (h2 : ρ.g ≤ ρ.m) (h : okTab ρ inv ρ.t 1 0 = true) : RnOk ρ where
 gn := h1
 gm := h2
 tab b c hb := let ⟨g1, g2, _⟩ := okTab_spec h b c hb; ⟨g1, g2⟩
 inj b b' c hb hb' := by
  have e1 := (okTab_spec h b c hb).2.2;have e2 := (okTab_spec h b' c hb').2.2;rw [e1] at e2;simpa using e2
theorem renB_cases {ρ : RN} {b c : Nat} (h : renB ρ b = some c) : (b < ρ.g ∧ c = b) ∨ (ρ.g ≤ b ∧ b < ρ.n ∧ ρ.t.get b = some c) ∨ (ρ.g ≤ b ∧ ρ.n ≤ b ∧ c = ρ.m + (b - ρ.n)) := by
 simp only [renB, brec] at h;cases h1 : Nat.blt b ρ.g with
 | true => rw [h1] at h; simp only [cond_true, Option.some.injEq] at h; exact .inl ⟨nblt_of h1, h.symm⟩
 | false =>
  rw [h1] at h; simp only [cond_false] at h;have hg : ρ.g ≤ b := by
   rcases Nat.lt_or_ge b ρ.g with h2 | h2
   ·rw [nblt_eq] at h1; simp at h1; omega
   ·exact h2
  cases h3 : Nat.blt b ρ.n with
  | true => rw [h3] at h; simp only [cond_true] at h; exact .inr (.inl ⟨hg, nblt_of h3, h⟩)
  | false =>
   rw [h3] at h; simp only [cond_false, Option.some.injEq] at h;have hn : ρ.n ≤ b := by
    rcases Nat.lt_or_ge b ρ.n with h2 | h2
    ·rw [nblt_eq] at h3; simp at h3; omega
    ·exact h2
   exact .inr (.inr ⟨hg, hn, h.symm⟩)
theorem RnOk.injB {ρ : RN} (ok : RnOk ρ) {b b' c : Nat} (h : renB ρ b = some c) (h' : renB ρ b' = some c) : b = b' := by
 have hgn := ok.gn;have hgm := ok.gm;rcases renB_cases h with ⟨h1, h2⟩ | ⟨h1, h2, h3⟩ | ⟨h1, h2, h3⟩ <;> rcases renB_cases h' with ⟨k1, k2⟩ | ⟨k1, k2, k3⟩ | ⟨k1, k2, k3⟩
 ·omega
 ·have := ok.tab _ _ k3; omega
 ·omega
 ·have := ok.tab _ _ h3; omega
 ·exact ok.inj _ _ _ h3 k3
 ·have := ok.tab _ _ h3; omega
 ·omega
 ·have := ok.tab _ _ k3; omega
 ·omega
theorem RnOk.old {ρ : RN} (ok : RnOk ρ) {b c : Nat} (h : renB ρ b = some c) : b < ρ.n ↔ c < ρ.m := by
 have hgn := ok.gn;have hgm := ok.gm;rcases renB_cases h with ⟨h1, h2⟩ | ⟨h1, h2, h3⟩ | ⟨h1, h2, h3⟩
 ·omega
 ·have := ok.tab _ _ h3; omega
 ·omega
def EnvR (ρ : RN) (e1 e2 : Env) : Prop := e1.sy = e2.sy ∧ ∀ b c, renB ρ b = some c → e1.f b = e2.f c
mutual
theorem cv_ren {ρ : RN} {e1 e2 : Env} (hE : EnvR ρ e1 e2) : ∀ (v v' : AV), renV ρ v = some v' → cv e1 v = cv e2 v'
 | .undef, _, h => by simp only [renV, Option.some.injEq] at h; subst h; rfl
 | .bool _, _, h => by simp only [renV, Option.some.injEq] at h; subst h; rfl
 | .int _ _, _, h => by simp only [renV, Option.some.injEq] at h; subst h; rfl
 | .str _, _, h => by simp only [renV, Option.some.injEq] at h; subst h; rfl
 | .nilp, _, h => by simp only [renV, Option.some.injEq] at h; subst h; rfl
 | .nils, _, h => by simp only [renV, Option.some.injEq] at h; subst h; rfl
 | .nilm, _, h => by simp only [renV, Option.some.injEq] at h; subst h; rfl
 | .nilf, _, h => by simp only [renV, Option.some.injEq] at h; subst h; rfl
 | .nili, _, h => by simp only [renV, Option.some.injEq] at h; subst h; rfl
 | .sym i, _, h => by simp only [renV, Option.some.injEq] at h; subst h; simp only [cv, hE.1]
 | .res i c, _, h => by simp only [renV, Option.some.injEq] at h; subst h; simp only [cv, hE.1]
 | .yld _, _, h => by simp [renV] at h
 | .pan v, _, h => by
  simp only [renV, brec] at h;cases hc : v.closed with
  | false => rw [hc] at h; cases h
  | true => rw [hc] at h; simp only [cond_true, Option.some.injEq] at h; subst h; rfl
 | .ptr b o, _, h => by
  simp only [renV] at h;cases hb : renB ρ b with
  | none => rw [hb] at h; cases h
  | some c => rw [hb] at h; simp only [rPtr, Option.some.injEq] at h; subst h; simp only [cv, hE.2 b c hb]
 | .sl b o n k, _, h => by
  simp only [renV] at h;cases hb : renB ρ b with
  | none => rw [hb] at h; cases h
  | some c => rw [hb] at h; simp only [rSl, Option.some.injEq] at h; subst h; simp only [cv, hE.2 b c hb]
 | .mpr b, _, h => by
  simp only [renV] at h;cases hb : renB ρ b with
  | none => rw [hb] at h; cases h
  | some c => rw [hb] at h; simp only [rMpr, Option.some.injEq] at h; subst h; simp only [cv, hE.2 b c hb]
 | .capOf b k, _, h => by
  simp only [renV] at h;cases hb : renB ρ b with
  | none => rw [hb] at h; cases h
  | some c => rw [hb] at h; simp only [rCapOf, Option.some.injEq] at h; subst h; simp only [cv, hE.2 b c hb]
 | .asl b i lo hi, _, h => by
  simp only [renV] at h;cases hb : renB ρ b with
  | none => rw [hb] at h; cases h
  | some c => rw [hb] at h; simp only [rAsl, Option.some.injEq] at h; subst h; simp only [cv, hE.2 b c hb, hE.1]
 | .eptr b k, _, h => by
  simp only [renV] at h;cases hb : renB ρ b with
  | none => rw [hb] at h; cases h
  | some c => rw [hb] at h; simp only [rEptr, Option.some.injEq] at h; subst h; simp only [cv, hE.2 b c hb]
 | .fn f a b, _, h => by
  simp only [renV] at h;cases ha : renVs ρ a with
  | none => rw [ha] at h; cases h
  | some x =>
   cases hb : renVs ρ b with
   | none => rw [ha, hb] at h; cases h
   | some y => rw [ha, hb] at h; simp only [rFn, Option.some.injEq] at h; subst h; simp only [cv, cvs_ren hE a x ha, cvs_ren hE b y hb]
 | .ifc t v, _, h => by
  simp only [renV] at h;cases hv : renV ρ v with
  | none => rw [hv] at h; cases h
  | some x => rw [hv] at h; simp only [rIfc, Option.some.injEq] at h; subst h; simp only [cv, cv_ren hE v x hv]
 | .agg l, _, h => by
  simp only [renV] at h;cases hv : renVs ρ l with
  | none => rw [hv] at h; cases h
  | some x => rw [hv] at h; simp only [rAgg, Option.some.injEq] at h; subst h; simp only [cv, cvs_ren hE l x hv]
 | .tup l, _, h => by
  simp only [renV] at h;cases hv : renVs ρ l with
  | none => rw [hv] at h; cases h
  | some x => rw [hv] at h; simp only [rTup, Option.some.injEq] at h; subst h; simp only [cv, cvs_ren hE l x hv]
theorem cvs_ren {ρ : RN} {e1 e2 : Env} (hE : EnvR ρ e1 e2) : ∀ (l l' : List AV), renVs ρ l = some l' → cvs e1 l = cvs e2 l'
 | [], _, h => by simp only [renVs, Option.some.injEq] at h; subst h; rfl
 | v :: vs, _, h => by
  simp only [renVs] at h;cases hv : renV ρ v with
  | none => rw [hv] at h; cases h
  | some x =>
   cases hs : renVs ρ vs with
   | none => rw [hv, hs] at h; cases h
   | some y => rw [hv, hs] at h; simp only [rCons, Option.some.injEq] at h; subst h; simp only [cvs, cv_ren hE v x hv, cvs_ren hE vs y hs]
end
theorem renO_some {ρ : RN} {o o' : Option AV} (h : renO ρ o = some o') : (o = none ∧ o' = none) ∨ ∃ v v', o = some v ∧ o' = some v' ∧ renV ρ v = some v' := by
 cases o with
 | none => simp only [renO, Option.some.injEq] at h; exact .inl ⟨rfl, h.symm⟩
 | some v =>
  simp only [renO] at h;cases hv : renV ρ v with
  | none => rw [hv] at h; cases h
  | some x => rw [hv] at h; simp only [rSome, Option.some.injEq] at h; exact .inr ⟨v, x, rfl, h.symm, hv⟩
theorem renT_get {ρ : RN} : ∀ {t t' : Tr AV}, renT ρ t = some t' → ∀ i, (t.get i = none ∧ t'.get i = none) ∨ ∃ v v', t.get i = some v ∧ t'.get i = some v' ∧ renV ρ v = some v' := by
 intro t
 induction t with
 | nil => intro t' h i; simp only [renT, Option.some.injEq] at h; subst h; exact .inl ⟨rfl, rfl⟩
 | node v l r ihl ihr =>
  intro t' h i;simp only [renT] at h;cases hv : renO ρ v with
  | none => rw [hv] at h; simp [rNode] at h
  | some v' =>
   cases hl : renT ρ l with
   | none => rw [hv, hl] at h; simp [rNode] at h
   | some l' =>
    cases hr : renT ρ r with
    | none => rw [hv, hl, hr] at h; simp [rNode] at h
    | some r' =>
     rw [hv, hl, hr] at h;simp only [rNode, Option.some.injEq] at h; subst h;rw [Tr.get_node, Tr.get_node]
     by_cases h0 : i = 0
     ·rw [if_pos h0, if_pos h0];rcases renO_some hv with ⟨h1, h2⟩ | ⟨a, b, h1, h2, h3⟩
      ·exact .inl ⟨h1, h2⟩
      ·exact .inr ⟨a, b, h1, h2, h3⟩
     ·rw [if_neg h0, if_neg h0]
      by_cases ho : i % 2 = 1
      ·rw [if_pos ho, if_pos ho]; exact ihl hl _
      ·rw [if_neg ho, if_neg ho]; exact ihr hr _
theorem renMEs_ok {ρ : RN} {e1 e2 : Env} (hE : EnvR ρ e1 e2) : ∀ {ms ms' : List ME}, renMEs ρ ms = some ms' → ∀ {xs : List MapEntry}, MEsOk e1 ms xs ↔ MEsOk e2 ms' xs
 | [], ms', h, xs => by simp only [renMEs, Option.some.injEq] at h; subst h; cases xs <;> exact Iff.rfl
 | m :: ms, ms', h, xs => by
  simp only [renMEs] at h;cases hk : renV ρ m.key with
  | none => rw [hk] at h; simp [rME] at h
  | some k =>
   cases hv : renV ρ m.val with
   | none => rw [hk, hv] at h; simp [rME] at h
   | some v =>
    cases hm : renMEs ρ ms with
    | none => rw [hk, hv, hm] at h; simp [rME] at h
    | some l =>
     rw [hk, hv, hm] at h;simp only [rME, Option.some.injEq] at h; subst h;cases xs with
     | nil => exact Iff.rfl
     | cons x xs =>
      show ((cv e1 m.key = some x.key ∧ cv e1 m.val = some x.val ∧ x.born = m.born) ∧ MEsOk e1 ms xs) ↔ ((cv e2 k = some x.key ∧ cv e2 v = some x.val ∧ x.born = m.born) ∧ MEsOk e2 l xs);rw [cv_ren hE _ _ hk, cv_ren hE _ _ hv, renMEs_ok hE hm]
theorem renObj_wr {ρ : RN} {o o' : AObj} (h : renObj ρ o = some o') : o'.wr = o.wr := by
 cases o with
 | blk el ro sz c => simp only [renObj] at h; cases hc : renT ρ c <;> rw [hc] at h <;> simp [rBlk] at h; subst h; rfl
 | loop => simp [renObj] at h
 | defr b => simp only [renObj, Option.some.injEq] at h; subst h; rfl
 | siter s p => simp only [renObj, Option.some.injEq] at h; subst h; rfl
 | mobj es c => simp only [renObj] at h; cases hc : renMEs ρ es <;> rw [hc] at h <;> simp [rMobj] at h; subst h; rfl
 | miter m a l p =>
  cases m with
  | none => simp only [renObj, Option.some.injEq] at h; subst h; rfl
  | some b => simp only [renObj] at h; cases hc : renB ρ b <;> rw [hc] at h <;> simp [rMiter] at h; subst h; rfl
 | arg c => simp only [renObj] at h; cases hc : renT ρ c <;> rw [hc] at h <;> simp [rArg] at h; subst h; rfl
theorem renObj_ok {ρ : RN} {e1 e2 : Env} (hE : EnvR ρ e1 e2) {o o' : AObj} (h : renObj ρ o = some o') {L : Loops} {b c : Nat} {x : Nat × Nat} {w : World} : ObjR e1 L b x w o ↔ ObjR e2 L c x w o' := by
 cases o with
 | blk el ro sz cs =>
  simp only [renObj] at h;cases hc : renT ρ cs with
  | none => rw [hc] at h; simp [rBlk] at h
  | some cs' =>
   rw [hc] at h;simp only [rBlk, Option.some.injEq] at h; subst h;have hel : e1.elR x.1 ro el = e2.elR x.1 ro el := by cases ro <;> simp only [Env.elR, Env.ty, hE.1]
   have hg := renT_get hc;constructor
   ·rintro ⟨a, fz, g1, g2, g3, g4⟩;refine ⟨a, fz, hel ▸ g1, g2, g3, fun i v hv => ?_⟩
    rcases hg i with ⟨_, h2⟩ | ⟨u, u', h1, h2, h3⟩
    ·rw [h2] at hv; cases hv
    ·rw [h2] at hv; cases hv;rw [← cv_ren hE _ _ h3]; exact g4 i u h1
   ·rintro ⟨a, fz, g1, g2, g3, g4⟩;refine ⟨a, fz, hel ▸ g1, g2, g3, fun i v hv => ?_⟩
    rcases hg i with ⟨h1, _⟩ | ⟨u, u', h1, h2, h3⟩
    ·rw [h1] at hv; cases hv
    ·rw [h1] at hv; cases hv;rw [cv_ren hE _ _ h3]; exact g4 i u' h2
 | loop => simp [renObj] at h
 | defr b => simp only [renObj, Option.some.injEq] at h; subst h; exact Iff.rfl
 | siter s p => simp only [renObj, Option.some.injEq] at h; subst h; exact Iff.rfl
 | mobj es cl =>
  simp only [renObj] at h;cases hc : renMEs ρ es with
  | none => rw [hc] at h; simp [rMobj] at h
  | some es' =>
   rw [hc] at h;simp only [rMobj, Option.some.injEq] at h; subst h;constructor
   ·rintro ⟨xs, g1, g2⟩; exact ⟨xs, g1, (renMEs_ok hE hc).1 g2⟩
   ·rintro ⟨xs, g1, g2⟩; exact ⟨xs, g1, (renMEs_ok hE hc).2 g2⟩
 | miter m a l p =>
  cases m with
  | none => simp only [renObj, Option.some.injEq] at h; subst h; exact Iff.rfl
  | some b =>
   simp only [renObj] at h;cases hc : renB ρ b with
   | none => rw [hc] at h; simp [rMiter] at h
   | some d =>
    rw [hc] at h;simp only [rMiter, Option.some.injEq] at h; subst h;constructor
    ·rintro ⟨r, g1, y, g2, g3⟩; exact ⟨r, g1, y, by rw [← hE.2 b d hc]; exact g2, g3⟩
    ·rintro ⟨r, g1, y, g2, g3⟩; exact ⟨r, g1, y, by rw [hE.2 b d hc]; exact g2, g3⟩
 | arg cs =>
  simp only [renObj] at h;cases hc : renT ρ cs with
  | none => rw [hc] at h; simp [rArg] at h
  | some cs' =>
   rw [hc] at h;simp only [rArg, Option.some.injEq] at h; subst h;have hg := renT_get hc;constructor
   ·rintro ⟨a, el, fz, g1, g2⟩;refine ⟨a, el, fz, g1, fun i v hv => ?_⟩
    rcases hg i with ⟨_, h2⟩ | ⟨u, u', h1, h2, h3⟩
    ·rw [h2] at hv; cases hv
    ·rw [h2] at hv; cases hv;rw [← cv_ren hE _ _ h3]; exact g2 i u h1
   ·rintro ⟨a, el, fz, g1, g2⟩;refine ⟨a, el, fz, g1, fun i v hv => ?_⟩
    rcases hg i with ⟨h1, _⟩ | ⟨u, u', h1, h2, h3⟩
    ·rw [h1] at hv; cases hv
    ·rw [h1] at hv; cases hv;rw [cv_ren hE _ _ h3]; exact g2 i u' h2
theorem renOne_some {ρ : RN} {q : Nat} {acc res : Tr AObj} {o : Option AObj} (h : renOne ρ q acc o = some res) :
 (o = none ∧ res = acc) ∨ ∃ a c a', o = some a ∧ renB ρ q = some c ∧ renObj ρ a = some a' ∧ res = acc.set c (some a') := by
 cases o with
 | none => simp only [renOne, Option.some.injEq] at h; exact .inl ⟨rfl, h.symm⟩
 | some a =>
  simp only [renOne] at h;cases hb : renB ρ q with
  | none => rw [hb] at h; simp [rPut] at h
  | some c =>
   cases ha : renObj ρ a with
   | none => rw [hb, ha] at h; simp [rPut] at h
   | some a' => rw [hb, ha] at h; simp only [rPut, Option.some.injEq] at h; exact .inr ⟨a, c, a', rfl, rfl, ha, h.symm⟩
theorem renH_node {ρ : RN} {v : Option AObj} {l r : Tr AObj} {p q : Nat} {acc res : Tr AObj} (h : renH ρ (.node v l r) p q acc = some res) :
 ∃ a1 a2, renOne ρ q acc v = some a1 ∧ renH ρ l (2 * p) (p + q) a1 = some a2 ∧ renH ρ r (2 * p) (2 * p + q) a2 = some res := by
 simp only [renH] at h;cases h1 : renOne ρ q acc v with
 | none => rw [h1] at h; simp [thenT] at h
 | some a1 =>
  rw [h1] at h;simp only [thenT] at h;cases h2 : renH ρ l (2 * p) (p + q) a1 with
  | none => rw [h2] at h; simp at h
  | some a2 => rw [h2] at h; exact ⟨a1, a2, rfl, h2, h⟩
theorem get_left {v : Option AObj} {l r : Tr AObj} (k : Nat) : (Tr.node v l r).get (2 * k + 1) = l.get k := by
 rw [Tr.get_node, if_neg (by omega), if_pos (by omega)]; congr 1; omega
theorem get_right {v : Option AObj} {l r : Tr AObj} (k : Nat) : (Tr.node v l r).get (2 * k + 2) = r.get k := by
 rw [Tr.get_node, if_neg (by omega), if_neg (by omega)]; congr 1; omega
theorem ix_left (p q k : Nat) : 2 * p * k + (p + q) = p * (2 * k + 1) + q := by rw [Nat.mul_add, ← Nat.mul_assoc, Nat.mul_comm p 2]; omega
theorem ix_right (p q k : Nat) : 2 * p * k + (2 * p + q) = p * (2 * k + 2) + q := by rw [Nat.mul_add, ← Nat.mul_assoc, Nat.mul_comm p 2]; omega
theorem renH_frame {ρ : RN} : ∀ {t : Tr AObj} {p q : Nat} {acc res : Tr AObj}, renH ρ t p q acc = some res → ∀ c, (∀ k o, t.get k = some o → renB ρ (p * k + q) ≠ some c) → res.get c = acc.get c := by
 intro t
 induction t with
 | nil => intro p q acc res h c _; simp only [renH, Option.some.injEq] at h; rw [h]
 | node v l r ihl ihr =>
  intro p q acc res h c hc;obtain ⟨a1, a2, h1, h2, h3⟩ := renH_node h;rw [ihr h3 c (fun k o hk => by rw [ix_right]; exact hc (2 * k + 2) o (by rw [get_right]; exact hk)), ihl h2 c (fun k o hk => by rw [ix_left]; exact hc (2 * k + 1) o (by rw [get_left]; exact hk))]
  rcases renOne_some h1 with ⟨_, rfl⟩ | ⟨a, d, a', rfl, hd, _, rfl⟩
  ·rfl
  ·rw [Tr.get_set]
   by_cases e : c = d
   ·subst e;exact absurd (by simpa using hd) (hc 0 a rfl)
   ·rw [if_neg e]
theorem renH_fwd {ρ : RN} (ok : RnOk ρ) : ∀ {t : Tr AObj} {p q : Nat} {acc res : Tr AObj}, 0 < p → renH ρ t p q acc = some res → ∀ k o, t.get k = some o → ∃ c o', renB ρ (p * k + q) = some c ∧ renObj ρ o = some o' ∧ res.get c = some o' := by
 intro t
 induction t with
 | nil => intro p q acc res _ _ k o hk; cases hk
 | node v l r ihl ihr =>
  intro p q acc res hp h k o hk;obtain ⟨a1, a2, h1, h2, h3⟩ := renH_node h;have hinj : ∀ k1 k2 c, renB ρ (p * k1 + q) = some c → renB ρ (p * k2 + q) = some c → k1 = k2 := fun k1 k2 c e1 e2 => by
   have := ok.injB e1 e2;exact Nat.eq_of_mul_eq_mul_left hp (by omega)
  by_cases h0 : k = 0
  ·subst h0;have hv : v = some o := hk;rcases renOne_some h1 with ⟨e1, _⟩ | ⟨a, d, a', e1, hd, ha, rfl⟩
   ·rw [hv] at e1; cases e1
   ·rw [hv] at e1; cases e1;refine ⟨d, a', by simpa using hd, ha, ?_⟩
    rw [renH_frame h3 d (fun j o' hj hx => by rw [ix_right] at hx; have := hinj 0 _ d (by simpa using hd) hx; omega),
     renH_frame h2 d (fun j o' hj hx => by rw [ix_left] at hx; have := hinj 0 _ d (by simpa using hd) hx; omega), Tr.get_set, if_pos rfl]
  ·by_cases ho : k % 2 = 1
   ·obtain ⟨j, rfl⟩ : ∃ j, k = 2 * j + 1 := ⟨k / 2, by omega⟩
    rw [get_left] at hk;obtain ⟨c, o', g1, g2, g3⟩ := ihl (by omega) h2 j o hk
    rw [ix_left] at g1;refine ⟨c, o', g1, g2, ?_⟩;rw [renH_frame h3 c (fun i o'' hi hx => by rw [ix_right] at hx; have := hinj _ _ c g1 hx; omega)]
    exact g3
   ·obtain ⟨j, rfl⟩ : ∃ j, k = 2 * j + 2 := ⟨k / 2 - 1, by omega⟩
    rw [get_right] at hk;obtain ⟨c, o', g1, g2, g3⟩ := ihr (by omega) h3 j o hk
    rw [ix_right] at g1;exact ⟨c, o', g1, g2, g3⟩
theorem renH_back {ρ : RN} : ∀ {t : Tr AObj} {p q : Nat} {acc res : Tr AObj}, renH ρ t p q acc = some res → ∀ c o', res.get c = some o' → acc.get c = some o' ∨ ∃ k o, t.get k = some o ∧ renB ρ (p * k + q) = some c ∧ renObj ρ o = some o' := by
 intro t
 induction t with
 | nil => intro p q acc res h c o' hc; simp only [renH, Option.some.injEq] at h; rw [← h] at hc; exact .inl hc
 | node v l r ihl ihr =>
  intro p q acc res h c o' hc;obtain ⟨a1, a2, h1, h2, h3⟩ := renH_node h;rcases ihr h3 c o' hc with g | ⟨k, o, g1, g2, g3⟩
  ·rcases ihl h2 c o' g with g | ⟨k, o, g1, g2, g3⟩
   ·rcases renOne_some h1 with ⟨_, rfl⟩ | ⟨a, d, a', rfl, hd, ha, rfl⟩
    ·exact .inl g
    ·rw [Tr.get_set] at g
     by_cases e : c = d
     ·rw [if_pos e] at g; cases g;subst e;exact .inr ⟨0, a, rfl, by simpa using hd, ha⟩
     ·rw [if_neg e] at g; exact .inl g
   ·exact .inr ⟨2 * k + 1, o, by rw [get_left]; exact g1, by rw [← ix_left]; exact g2, g3⟩
  ·exact .inr ⟨2 * k + 2, o, by rw [get_right]; exact g1, by rw [← ix_right]; exact g2, g3⟩
theorem renOuts_mem {ρ : RN} : ∀ {outs outs' : List (AV × AHeap)}, renOuts ρ outs = some outs' → ∀ v H, (v, H) ∈ outs → ∃ v' t, renV ρ v = some v' ∧ renH ρ H.objs 1 0 .nil = some t ∧ (v', (⟨ρ.m + (H.next - ρ.n), t⟩ : AHeap)) ∈ outs'
 | [], _, _, v, H, hm => by cases hm
 | o :: r, outs', h, v, H, hm => by
  simp only [renOuts] at h;cases hv : renV ρ o.1 with
  | none => rw [hv] at h; simp [rOut] at h
  | some v' =>
   cases ht : renH ρ o.2.objs 1 0 .nil with
   | none => rw [hv, ht] at h; simp [rOut] at h
   | some t =>
    rw [hv, ht] at h;simp only [rOut] at h;cases hr : renOuts ρ r with
    | none => rw [hr] at h; cases h
    | some l =>
     rw [hr] at h;simp only [Option.some.injEq] at h; subst h;rcases List.mem_cons.1 hm with e | e
     ·subst e; exact ⟨v', t, hv, ht, List.mem_cons_self ..⟩
     ·obtain ⟨a, b, g1, g2, g3⟩ := renOuts_mem hr v H e;exact ⟨a, b, g1, g2, List.mem_cons_of_mem _ g3⟩
def LocOk (P : Program) (O : List OraE) (f : FuncId) (as : List AV) (pre : AHeap) (outs : List (AV × AHeap)) : Prop :=
 ∀ (L : Loops) (e : Env) (w : World) (vs : List Value), cvs e as = some vs → HR (gpO P O) e L pre.objs.get pre.next w →
     Calls P f vs.toArray w (fun en w' => en ≠ .outgrown ∧ ValOut (gpO P O) L e pre w outs en w')
theorem LocOk.ren {P : Program} {O : List OraE} {f : FuncId} {as as' : List AV} {pre : AHeap} {outs outs' : List (AV × AHeap)} (hloc : LocOk P O f as pre outs) {ρ : RN} (ok : RnOk ρ) (hn : ρ.n = pre.next) (hg : ρ.g = P.globals.size)
 (has : renVs ρ as = some as') {pt : Tr AObj} (hpre : renH ρ pre.objs 1 0 .nil = some pt) (houts : renOuts ρ outs = some outs') : LocOk P O f as' ⟨ρ.m, pt⟩ outs' := by
 intro L e w vs hvs hH;have hgn := ok.gn;have hgm := ok.gm
 let e1 : Env := { f := fun b => if b < ρ.n then (match renB ρ b with | some c => e.f c | none => none) else none, sy := e.sy }
 have he1 : ∀ b c, b < ρ.n → renB ρ b = some c → e1.f b = e.f c := by
  intro b c hb hr;show (if b < ρ.n then (match renB ρ b with | some c => e.f c | none => none) else none) = _
  rw [if_pos hb, hr]
 have hdom1 : ∀ b x, e1.f b = some x → b < ρ.n ∧ ∃ c, renB ρ b = some c ∧ e.f c = some x := by
  intro b x hb;have hb' : (if b < ρ.n then (match renB ρ b with | some c => e.f c | none => none) else none) = some x := hb
  by_cases hlt : b < ρ.n
  ·rw [if_pos hlt] at hb';cases hr : renB ρ b with
   | none => rw [hr] at hb'; cases hb'
   | some c => rw [hr] at hb'; exact ⟨hlt, c, rfl, hb'⟩
  ·rw [if_neg hlt] at hb'; cases hb'
 have hge : ∀ c, ρ.m ≤ c → e.f c = none := fun c hc => by
  cases hf : e.f c with
  | none => rfl
  | some x => exact absurd (hH.dom c x hf) (by show ¬ c < ρ.m; omega)
 have hE1 : EnvR ρ e1 e := by
  refine ⟨rfl, fun b c hb => ?_⟩
  by_cases hlt : b < ρ.n
  ·exact he1 b c hlt hb
  ·show (if b < ρ.n then (match renB ρ b with | some c => e.f c | none => none) else none) = _
   rw [if_neg hlt, hge c (by have := ok.old hb; omega)]
 have hpf : ∀ b o, pre.objs.get b = some o → ∃ c o', renB ρ b = some c ∧ renObj ρ o = some o' ∧ pt.get c = some o' := by
  intro b o hb;obtain ⟨c, o', g1, g2, g3⟩ := renH_fwd ok Nat.one_pos hpre b o hb;exact ⟨c, o', by simpa using g1, g2, g3⟩
 have hlive1 : ∀ b o, pre.objs.get b = some o → ∃ x, e1.f b = some x ∧ ObjR e1 L b x w o := by
  intro b o hb;obtain ⟨c, o', g1, g2, g3⟩ := hpf b o hb;obtain ⟨x, hx, hO⟩ := hH.live c o' g3;have hcm := hH.dom c x hx;have hbn : b < ρ.n := (ok.old g1).2 hcm;exact ⟨x, (he1 b c hbn g1).trans hx, (renObj_ok hE1 g2).2 hO⟩
 have hH1 : HR (gpO P O) e1 L pre.objs.get pre.next w := by
  refine ⟨fun b x hb => hn ▸ (hdom1 b x hb).1, hlive1, ?_, ?_, hH.ora⟩
  ·intro b c o p x y hb hc hw hx hy hxy;obtain ⟨b', o', g1, g2, g3⟩ := hpf b o hb;obtain ⟨c', p', k1, k2, k3⟩ := hpf c p hc;obtain ⟨hbn, b2, r1, r2⟩ := hdom1 b x hx;obtain ⟨hcn, c2, s1, s2⟩ := hdom1 c y hy;rw [g1] at r1; cases r1;rw [k1] at s1; cases s1;have := hH.inj b' c' o' p' x y g3 k3 (by rw [renObj_wr g2, renObj_wr k2]; exact hw) r2 s2 hxy
   subst this;exact ok.injB g1 k1
  ·intro g hgl;have hgl' : g < ρ.g := by rw [hg]; exact hgl
   have hr : renB ρ g = some g := by
    simp only [renB, brec];have : Nat.blt g ρ.g = true := by rw [nblt_eq]; simpa using hgl'
    rw [this]; rfl
   rw [he1 g g (by omega) hr]
   exact hH.glob g hgl
 have hvs1 : cvs e1 as = some vs := (cvs_ren hE1 _ _ has).trans hvs;refine (hloc L e1 w vs hvs1 hH1).mono fun en w' ⟨hne, v, H', hm, e2, hen, hH2, hT⟩ => ⟨hne, ?_⟩
 obtain ⟨v', t, hv', ht, hm'⟩ := renOuts_mem houts v H' hm;have hnx : ρ.n ≤ H'.next := by rw [hn]; exact hT.nx
 let e3 : Env := { f := fun c => if c < ρ.m then e.f c else e2.f (ρ.n + (c - ρ.m)), sy := e.sy }
 have hsy2 : e2.sy = e.sy := hT.le.2;have he3lt : ∀ c, c < ρ.m → e3.f c = e.f c := fun c hc => by
  show (if c < ρ.m then e.f c else e2.f (ρ.n + (c - ρ.m))) = _
  rw [if_pos hc]
 have he3ge : ∀ c, ρ.m ≤ c → e3.f c = e2.f (ρ.n + (c - ρ.m)) := fun c hc => by
  show (if c < ρ.m then e.f c else e2.f (ρ.n + (c - ρ.m))) = _
  rw [if_neg (by omega)]
 have hE2 : EnvR ρ e2 e3 := by
  refine ⟨hsy2, fun b c hb => ?_⟩
  by_cases hlt : b < ρ.n
  ·have hc : c < ρ.m := (ok.old hb).1 hlt;rw [he3lt c hc, ← he1 b c hlt hb];exact hT.old b (by rw [← hn]; exact hlt)
  ·have hc : ρ.m ≤ c := by have := ok.old hb; omega
   rw [he3ge c hc];rcases renB_cases hb with ⟨h1, h2⟩ | ⟨h1, h2, h3⟩ | ⟨h1, h2, h3⟩
   ·omega
   ·omega
   ·congr 1; omega
 have hle : e.le e3 := by
  refine ⟨fun c x hc => ?_, rfl⟩
  rw [he3lt c (hH.dom c x hc)]; exact hc
 have hback : ∀ c o', t.get c = some o' → ∃ b o, H'.objs.get b = some o ∧ renB ρ b = some c ∧ renObj ρ o = some o' := by
  intro c o' hc;rcases renH_back ht c o' hc with g | ⟨k, o, g1, g2, g3⟩
  ·cases g
  ·exact ⟨k, o, g1, by simpa using g2, g3⟩
 have hpback : ∀ b o, pre.objs.get b = some o → ∀ c, renB ρ b = some c → ∃ o', pt.get c = some o' ∧ renObj ρ o = some o' := by
  intro b o hb c hc;obtain ⟨c', o', g1, g2, g3⟩ := hpf b o hb;rw [hc] at g1; cases g1;exact ⟨o', g3, g2⟩
 have hfootP : ∀ B, Foot e1 pre.objs.get B → Foot e pt.get B := by
  rintro B ⟨b, o, x, h1, h2, h3, h4⟩;obtain ⟨c, o', g1, g2, g3⟩ := hpf b o h1;obtain ⟨hbn, c2, r1, r2⟩ := hdom1 b x h3;rw [g1] at r1; cases r1;exact ⟨c, o', x, g3, by rw [renObj_wr g2]; exact h2, r2, h4⟩
 have hfootO : ∀ B, Foot e3 t.get B → Foot e2 H'.objs.get B := by
  rintro B ⟨c, o', x, h1, h2, h3, h4⟩;obtain ⟨b, o, g1, g2, g3⟩ := hback c o' h1;exact ⟨b, o, x, g1, by rw [← renObj_wr g3]; exact h2, by rw [hE2.2 b c g2]; exact h3, h4⟩
 refine ⟨v', ⟨ρ.m + (H'.next - ρ.n), t⟩, hm', e3, ?_, ?_, ?_⟩
 ·
  by_cases hp : ∃ u, v = .pan u
  ·obtain ⟨u, rfl⟩ := hp;simp only [renV, brec] at hv';cases hc : u.closed with
   | false => rw [hc] at hv'; cases hv'
   | true =>
    rw [hc] at hv'; simp only [cond_true, Option.some.injEq] at hv'; subst hv';obtain ⟨y, h1, h2, h3⟩ := hen;exact ⟨y, h1, by rw [← closed_cv e2 e3 u hc]; exact h2, h3⟩
  ·obtain ⟨y, hy, rfl⟩ := endR_not hen (fun u hu => hp ⟨u, hu⟩)
   exact endR_ret ((cv_ren hE2 _ _ hv').symm.trans hy)
 ·refine ⟨?_, ?_, ?_, ?_, ?_⟩
  ·intro c x hc;show c < ρ.m + (H'.next - ρ.n);rcases Nat.lt_or_ge c ρ.m with h | h
   ·omega
   ·rw [he3ge c h] at hc;have := hH2.dom _ _ hc;omega
  ·intro c o' hc;obtain ⟨b, o, g1, g2, g3⟩ := hback c o' hc;obtain ⟨x, hx, hO⟩ := hH2.live b o g1;exact ⟨x, by rw [← hE2.2 b c g2]; exact hx, (renObj_ok hE2 g3).1 hO⟩
  ·intro c d o' p' x y hc hd hw hx hy hxy;obtain ⟨b, o, g1, g2, g3⟩ := hback c o' hc;obtain ⟨b', p, k1, k2, k3⟩ := hback d p' hd;have := hH2.inj b b' o p x y g1 k1 (by rw [← renObj_wr g3, ← renObj_wr k3]; exact hw) (by rw [hE2.2 b c g2]; exact hx) (by rw [hE2.2 b' d k2]; exact hy) hxy
   subst this;rw [g2] at k2; exact Option.some.inj k2
  ·intro g hgl;have hgl' : g < ρ.g := by rw [hg]; exact hgl
   rw [he3lt g (by omega)]
   exact hH.glob g hgl
  ·show OraOk O e3.sy;exact hH.ora
 ·refine ⟨hle, fun c hc => he3lt c hc, by show ρ.m ≤ ρ.m + (H'.next - ρ.n); omega, hT.size, fun B hB hf => hT.keep B hB (fun hf1 => hf (hfootP B hf1)), fun B hf hB => hfootP B (hT.foot B (hfootO B hf) hB), ?_, hT.os, hT.tape, hT.output⟩
  intro c o' hc hr;obtain ⟨b, o, g1, g2, g3⟩ := hback c o' hc;obtain ⟨o0, k1, k2⟩ := hT.ro b o g1 (by rw [← renObj_wr g3]; exact hr)
  obtain ⟨o0', q1, q2⟩ := hpback b o0 k1 c g2;exact ⟨o0', q1, by rw [renObj_wr q2]; exact k2⟩
end
end Go.X

/- The run by depth; what is known of calls. -/
namespace Go.X
noncomputable section
set_option linter.unusedSectionVars false
section
variable {P : Program} {X : XP} (ok : XPok P X) (okf : FnOk P X) (hmix : P.follows .mixedOrders = true) (hMe : MemoFits P X)
include ok okf hmix hMe in
theorem run_ok : ∀ n, RecOk P (gp P X) (run X n) ∧ BodyCalls P X (run X n) := by
 intro n
 induction n with
 | zero =>
  refine ⟨⟨fun rd fid L fr H c outs h => ?_, fun L fv args H outs h => ?_⟩, fun L f first captured args H outs h => ?_⟩
  ·exact absurd (show none = some outs from h) (by simp)
  ·exact absurd (show none = some outs from h) (by simp)
  ·exact absurd (show none = some outs from h) (by simp)
 | succ n ih =>
  obtain ⟨hR, hB⟩ := ih;refine ⟨⟨fun rd fid L fr H c outs h e a w ro hF hH hro => ?_, fun L fv args H outs h e w vf vs hf hvs hH => ?_⟩, fun L f first captured args H outs h hb e w v1 v2 v3 h1 h2 h3 hH => ?_⟩
  ·exact codeStep_ok ok hR hmix hB (show codeStep X (run X n) rd fid L fr H c = some outs from h) hF hH hro
  ·exact callStep_ok ok okf hR mergeOuts_ok hMe (show callStep X (run X n) L fv args H = some outs from h) hf hvs hH
  ·have h' : callFn X (run X n) L f (first ++ args ++ captured) H (X.fns.get f) = some outs := h
   obtain ⟨nx, w1, hr, _, hc⟩ := callFn_ok ok okf hR mergeOuts_ok hMe h' h1 h2 h3 hH;rw [ofValue_fn] at hr;obtain ⟨as, hn, hcalls⟩ := hc hb;cases hfn : X.fns.get f with
   | none => rw [hfn] at hb; cases hb
   | some fn =>
    rw [hfn] at hb;obtain ⟨hf, hname⟩ := okf.fns f fn hfn;obtain ⟨c, hbc⟩ := Option.isSome_iff_exists.1 (show fn.body.isSome = true from hb)
    have he := callFunc_enter (P := P) hf hname hbc (args := v1.toArray ++ v2.toArray ++ v3.toArray) (w := w);rw [he] at hr;rw [hn] at hr;cases hr;exact ⟨he, hcalls⟩
end
mutual
theorem free_cv {e e' : Env} (h : e'.sy = e.sy) : ∀ v : AV, v.free = true → cv e' v = cv e v
 | .undef, _ => rfl
 | .bool _, _ => rfl
 | .int _ _, _ => rfl
 | .str _, _ => rfl
 | .nilp, _ => rfl
 | .nils, _ => rfl
 | .nilm, _ => rfl
 | .nilf, _ => rfl
 | .nili, _ => rfl
 | .ptr _ _, hv => by simp [AV.free] at hv
 | .sl _ _ _ _, hv => by simp [AV.free] at hv
 | .yld _, hv => by simp [AV.free] at hv
 | .mpr _, hv => by simp [AV.free] at hv
 | .capOf _ _, hv => by simp [AV.free] at hv
 | .asl _ _ _ _, hv => by simp [AV.free] at hv
 | .eptr _ _, hv => by simp [AV.free] at hv
 | .pan _, hv => by simp [AV.free] at hv
 | .fn f a b, hv => by
  simp only [AV.free, Bool.and_eq_true] at hv;simp only [cv, frees_cv h a hv.1, frees_cv h b hv.2]
 | .ifc t v, hv => by
  simp only [AV.free] at hv;simp only [cv, free_cv h v hv]
 | .agg l, hv => by
  simp only [AV.free] at hv;simp only [cv, frees_cv h l hv]
 | .tup l, hv => by
  simp only [AV.free] at hv;simp only [cv, frees_cv h l hv]
 | .sym i, _ => by simp only [cv, h]
 | .res i c, _ => by simp only [cv, h]
theorem frees_cv {e e' : Env} (h : e'.sy = e.sy) : ∀ l : List AV, AV.frees l = true → cvs e' l = cvs e l
 | [], _ => rfl
 | v :: vs, hv => by
  simp only [AV.frees, Bool.and_eq_true] at hv;simp only [cvs, free_cv h v hv.1, frees_cv h vs hv.2]
end
theorem Tr.plus_get {α : Type} : ∀ (p h : Tr α) (n : Nat), (p.plus h).get n = (match p.get n with | some x => some x | none => h.get n) := by
 intro p
 induction p with
 | nil => intro h n; rfl
 | node v l r ihl ihr =>
  intro h n;cases h with
  | nil =>
   show (Tr.node v l r).get n = _;cases (Tr.node v l r).get n <;> rfl
  | node v' l' r' =>
   show (Tr.node _ (l.plus l') (r.plus r')).get n = _;rw [Tr.get_node, Tr.get_node, Tr.get_node]
   by_cases h0 : n = 0
   ·rw [if_pos h0, if_pos h0, if_pos h0];cases v <;> rfl
   ·rw [if_neg h0, if_neg h0, if_neg h0]
    by_cases h1 : n % 2 = 1
    ·rw [if_pos h1, if_pos h1, if_pos h1]; exact ihl l' _
    ·rw [if_neg h1, if_neg h1, if_neg h1]; exact ihr r' _
theorem Tr.minus_get {α : Type} : ∀ (p h : Tr α) (n : Nat), (p.minus h).get n = (match p.get n with | some _ => none | none => h.get n) := by
 intro p
 induction p with
 | nil => intro h n; rfl
 | node v l r ihl ihr =>
  intro h n;cases h with
  | nil =>
   show (Tr.nil : Tr α).get n = _;cases (Tr.node v l r).get n <;> rfl
  | node v' l' r' =>
   show (Tr.node _ (l.minus l') (r.minus r')).get n = _;rw [Tr.get_node, Tr.get_node, Tr.get_node]
   by_cases h0 : n = 0
   ·rw [if_pos h0, if_pos h0, if_pos h0];cases v <;> rfl
   ·rw [if_neg h0, if_neg h0, if_neg h0]
    by_cases h1 : n % 2 = 1
    ·rw [if_pos h1, if_pos h1, if_pos h1]; exact ihl l' _
    ·rw [if_neg h1, if_neg h1, if_neg h1]; exact ihr r' _
theorem Tr.noLoop_get : ∀ (t : Tr AObj), t.noLoop = true → ∀ n o, t.get n = some o → o.noLoop = true := by
 intro t
 induction t with
 | nil => intro _ n o h; cases h
 | node v l r ihl ihr =>
  intro h n o hn;simp only [Tr.noLoop, Bool.and_eq_true] at h;rw [Tr.get_node] at hn
  by_cases h0 : n = 0
  ·rw [if_pos h0] at hn; subst hn; exact h.1.1
  ·rw [if_neg h0] at hn
   by_cases h1 : n % 2 = 1
   ·rw [if_pos h1] at hn; exact ihl h.1.2 _ o hn
   ·rw [if_neg h1] at hn; exact ihr h.2 _ o hn
theorem ObjR.otherL {e : Env} {L L' : Loops} {b : Nat} {x : Nat × Nat} {w : World} {o : AObj} (hn : o.noLoop = true) (h : ObjR e L b x w o) : ObjR e L' b x w o := by
 cases o with
 | loop => cases hn
 | blk => exact h
 | defr => exact h
 | siter => exact h
 | mobj => exact h
 | miter => exact h
 | arg => exact h
theorem HR.otherL {NG : GP} {e : Env} {L : Loops} (L' : Loops) {G : Nat → Option AObj} {nx : Nat} {w : World} (hn : ∀ b o, G b = some o → o.noLoop = true) (h : HR NG e L G nx w) : HR NG e L' G nx w :=
 { h with live := fun b o hb => let ⟨x, hx, hO⟩ := h.live b o hb; ⟨x, hx, hO.otherL (hn b o hb)⟩ }
def EntOk (P : Program) (O : List OraE) (f : FuncId) : Ent → Prop
 | .pure as v => AV.frees as = true ∧ v.free = true ∧ ∀ (e : Env) (w : World) (vs : List Value), cvs e as = some vs → HR (gpO P O) e [] (Tr.nil : Tr AObj).get P.globals.size w →
  Calls P f vs.toArray w (fun en w' => en ≠ .outgrown ∧ ∃ H', HOut (gpO P O) [] e ⟨P.globals.size, .nil⟩ w v H' en w')
 | .loc as pre outs => ∀ (L : Loops) (e : Env) (w : World) (vs : List Value), cvs e as = some vs → HR (gpO P O) e L pre.objs.get pre.next w →
  Calls P f vs.toArray w (fun en w' => en ≠ .outgrown ∧ ValOut (gpO P O) L e pre w outs en w')
def MemoOk (P : Program) (O : List OraE) (M : Tr (List Ent)) : Prop := ∀ f es, M.get f = some es → ∀ en ∈ es, EntOk P O f en
theorem HR.noOra {P : Program} {O : List OraE} {e : Env} {L : Loops} {G : Nat → Option AObj} {n : Nat} {w : World} (h : HR (gpO P O) e L G n w) : HR (gpO P []) e L G n w :=
 ⟨h.dom, h.live, h.inj, h.glob, fun o ho => by cases ho⟩
theorem HR.withOra {P : Program} {O : List OraE} {e : Env} {L : Loops} {G : Nat → Option AObj} {n : Nat} {w : World} (h : HR (gpO P []) e L G n w) (ho : OraOk O e.sy) : HR (gpO P O) e L G n w :=
 ⟨h.dom, h.live, h.inj, h.glob, ho⟩
theorem HOut.withOra {P : Program} {O : List OraE} {L : Loops} {e : Env} {H : AHeap} {w : World} {v : AV} {H' : AHeap} {en : Ending} {w' : World} (h : HOut (gpO P []) L e H w v H' en w') (ho : OraOk O e.sy) : HOut (gpO P O) L e H w v H' en w' := by
 obtain ⟨e', h1, h2, h3⟩ := h;exact ⟨e', h1, h2.withOra (by rw [h3.le.2]; exact ho), h3⟩
theorem EntOk.ora {P : Program} {O : List OraE} {f : FuncId} {en : Ent} (h : EntOk P [] f en) : EntOk P O f en := by
 cases en with
 | pure as v =>
  obtain ⟨h1, h2, h3⟩ := h;exact ⟨h1, h2, fun e w vs hvs hH => (h3 e w vs hvs hH.noOra).mono fun en w' ⟨hne, H', hh⟩ => ⟨hne, H', hh.withOra hH.ora⟩⟩
 | loc as pre outs =>
  exact fun L e w vs hvs hH => (h L e w vs hvs hH.noOra).mono fun en w' ⟨hne, v, H', hm, hh⟩ => ⟨hne, v, H', hm, hh.withOra hH.ora⟩
theorem EntOk.app {P : Program} {O K : List OraE} {f : FuncId} {en : Ent} (h : EntOk P O f en) : EntOk P (O ++ K) f en := by
 have sub : ∀ {e : Env} {L : Loops} {G : Nat → Option AObj} {n : Nat} {w : World}, HR (gpO P (O ++ K)) e L G n w → HR (gpO P O) e L G n w :=
  fun h => ⟨h.dom, h.live, h.inj, h.glob, fun o ho => h.ora o (List.mem_append_left _ ho)⟩
 have up : ∀ {L : Loops} {e : Env} {H : AHeap} {w : World} {v : AV} {H' : AHeap} {en : Ending} {w' : World}, HOut (gpO P O) L e H w v H' en w' → OraOk (O ++ K) e.sy → HOut (gpO P (O ++ K)) L e H w v H' en w' := by
  intro L e H w v H' en w' h ho;obtain ⟨e', h1, h2, h3⟩ := h;exact ⟨e', h1, ⟨h2.dom, h2.live, h2.inj, h2.glob, by rw [h3.le.2]; exact ho⟩, h3⟩
 cases en with
 | pure as v =>
  obtain ⟨h1, h2, h3⟩ := h;exact ⟨h1, h2, fun e w vs hvs hH => (h3 e w vs hvs (sub hH)).mono fun en w' ⟨hne, H', hh⟩ => ⟨hne, H', up hh hH.ora⟩⟩
 | loc as pre outs =>
  exact fun L e w vs hvs hH => (h L e w vs hvs (sub hH)).mono fun en w' ⟨hne, v, H', hm, hh⟩ => ⟨hne, v, H', hm, up hh hH.ora⟩
theorem MemoOk.add {P : Program} {O : List OraE} {M : Tr (List Ent)} (h : MemoOk P O M) {f : FuncId} {es : List Ent} (hes : ∀ en ∈ es, EntOk P O f en) : MemoOk P O (M.set f (some es)) := by
 intro g es' hg en hen;rw [Tr.get_set] at hg
 by_cases hgf : g = f
 ·rw [if_pos hgf] at hg; cases hg; subst hgf; exact hes en hen
 ·rw [if_neg hgf] at hg; exact h g es' hg en hen
theorem LocOk.use {P : Program} {X : XP} {f : FuncId} {as : List AV} {pre : AHeap} {outs0 : List (AV × AHeap)} (hrun : LocOk P X.ora f as pre outs0) {H : AHeap} (hnx : H.next ≤ pre.next) (hsb : pre.objs.sub AObj.sub H.objs = true)
 (L : Loops) (e : Env) (w : World) (vs : List Value) (hvs : cvs e as = some vs) (hH : HR (gp P X) e L H.objs.get H.next w) :
 Calls P f vs.toArray w (fun en w' => en ≠ .outgrown ∧ ValOut (gp P X) L e H w (outs0.map (overOut pre.objs H.objs)) en w') := by
 have hLe : LeG pre.objs.get H.objs.get := fun b o1 hb => Tr.sub_get _ _ hsb b o1 hb
 let H2 : Nat → Option AObj := fun b => match pre.objs.get b with | some o => some o | none => H.objs.get b
 have hsub : Sub pre.objs.get H2 := by
  intro b o hb;show (match pre.objs.get b with | some o => some o | none => H.objs.get b) = some o
  rw [hb]
 have hLe2 : LeW H2 H.objs.get := by
  intro b o hb;have hb' : (match pre.objs.get b with | some o => some o | none => H.objs.get b) = some o := hb
  cases hp : pre.objs.get b with
  | some q =>
   rw [hp] at hb';have hqo : q = o := Option.some.inj hb';subst hqo;obtain ⟨o2, h2, h3⟩ := hLe b q hp;exact ⟨o2, h2, (AObj.sub_ok h3).1, fun e L b x w => (AObj.sub_ok h3).2⟩
  | none => rw [hp] at hb'; exact ⟨o, hb', rfl, fun _ _ _ _ _ h => h⟩
 have hH2 : HR (gp P X) e L H2 pre.next w := (hH.leW hLe2).bump hnx;refine (hrun L e w vs hvs (hH2.weaken hsub)).mono fun en w' ⟨hne, v, H', hm', e', hv, hH', hT⟩ => ⟨hne, v, (overOut pre.objs H.objs (v, H')).2, List.mem_map.2 ⟨(v, H'), hm', rfl⟩, e', hv, ?_, ?_⟩
 ·have h1 := HR.framed hH2 hsub hT hH';have hG : (overOut pre.objs H.objs (v, H')).2.objs.get = frameG H'.objs.get pre.objs.get H2 := by
   funext b;show (H'.objs.plus (pre.objs.minus H.objs)).get b = _;rw [Tr.plus_get, Tr.minus_get];unfold frameG;cases H'.objs.get b with
   | some o => rfl
   | none =>
    cases hp : pre.objs.get b with
    | some o => rfl
    | none =>
     show H.objs.get b = (match pre.objs.get b with | some o => some o | none => H.objs.get b)
     rw [hp]
  rw [hG]; exact h1
 ·have h1 := Tran.framed hH2 hsub hT;have hG : (overOut pre.objs H.objs (v, H')).2.objs.get = frameG H'.objs.get pre.objs.get H2 := by
   funext b;show (H'.objs.plus (pre.objs.minus H.objs)).get b = _;rw [Tr.plus_get, Tr.minus_get];unfold frameG;cases H'.objs.get b with
   | some o => rfl
   | none =>
    cases hp : pre.objs.get b with
    | some o => rfl
    | none =>
     show H.objs.get b = (match pre.objs.get b with | some o => some o | none => H.objs.get b)
     rw [hp]
  rw [hG];have h0 : Tran e H.objs.get H.next w e H2 pre.next w := ((Tran.refl e H.objs.get H.next w).leW hLe2).bump hnx;exact h0.trans h1
theorem lookRen_ok {P : Program} {X : XP} (hg : X.glob = P.globals.size) {f : FuncId} {as args : List AV} {pre H : AHeap} {outs0 outs : List (AV × AHeap)} (hloc : LocOk P X.ora f as pre outs0) (h : lookRen X.glob args H as pre outs0 = some outs)
 (L : Loops) (e : Env) (w : World) (vs : List Value) (hvs : cvs e args = some vs) (hH : HR (gp P X) e L H.objs.get H.next w) :
 Calls P f vs.toArray w (fun en w' => en ≠ .outgrown ∧ ValOut (gp P X) L e H w outs en w') := by
 unfold lookRen lookRen2 at h
 split at h
 ·rename_i s hs;unfold renEnt at h
  split at h
  ·rename_i as' pt outs' h1 h2 h3;simp only [brec] at h;cases hc : (Nat.ble X.glob pre.next && Nat.ble X.glob H.next && okTab ⟨X.glob, pre.next, H.next, s.t⟩ s.inv s.t 1 0 && AV.sames as' args && pt.sub AObj.sub H.objs) with
   | false => rw [hc] at h; cases h
   | true =>
    rw [hc] at h; simp only [cond_true, Option.some.injEq] at h; subst h;simp only [Bool.and_eq_true] at hc;obtain ⟨⟨⟨⟨c1, c2⟩, c3⟩, c4⟩, c5⟩ := hc;have := AV.sames_of _ _ c4;subst this;have hr := hloc.ren (ρ := ⟨X.glob, pre.next, H.next, s.t⟩) (rnOk_of (nble_of c1) (nble_of c2) c3) rfl hg h1 h2 h3;exact hr.use (pre := ⟨H.next, pt⟩) (H := H) (Nat.le_refl _) c5 L e w vs hvs hH
  ·cases h
 ·cases h
def SumsOk1 (P : Program) (X : XP) : Prop := ∀ f ∈ X.sums, ∀ (w : World) (B o n c : Nat) (bs : List Nat), bs.length = n → n ≤ 65536 → (∀ b ∈ bs, b < 256) → (∀ (j : Nat) (b : Nat), bs[j]? = some b → w.cell? ⟨B, o + j, none⟩ = some (.int .u8 (Int.ofNat b))) →
 Calls P f #[.slice (some ⟨B, o, none⟩) n c] w fun en w' => en = .returned (.int .u32 (Int.ofNat (crcG bs))) ∧ w.heap.size ≤ w'.heap.size ∧ (∀ C, C < w.heap.size → w'.heap[C]? = w.heap[C]?) ∧ w'.os = w.os ∧ w'.tape = w.tape ∧ w'.output = w.output
def HandOk1 (P : Program) (f : FuncId) (g : List AV → AHeap → Option AV) : Prop := ∀ (N : GP) (as : List AV) (H : AHeap) (v : AV), g as H = some v → ∀ (L : Loops) (e : Env) (w : World) (vs : List Value), cvs e as = some vs → HR N e L H.objs.get H.next w →
 Calls P f vs.toArray w fun en w' => (∃ y, cv e v = some y ∧ en = .returned y) ∧ w.heap.size ≤ w'.heap.size ∧ (∀ C, C < w.heap.size → w'.heap[C]? = w.heap[C]?) ∧ w'.os = w.os ∧ w'.tape = w.tape ∧ w'.output = w.output
def SumsOk (P : Program) (X : XP) : Prop := SumsOk1 P X ∧ ∀ p ∈ X.hand, HandOk1 P p.1 p.2
theorem sums_nil {P : Program} {X : XP} (h : X.sums = []) (h2 : X.hand = []) : SumsOk P X := ⟨fun f hf => (by rw [h] at hf; cases hf), fun p hp => (by rw [h2] at hp; cases hp)⟩
theorem handLook_mem {f : FuncId} {as : List AV} {H : AHeap} {v : AV} : ∀ {l : List (Nat × (List AV → AHeap → Option AV))}, handLook f as H l = some v → ∃ p ∈ l, p.1 = f ∧ p.2 as H = some v
 | p :: r, h => by
  simp only [handLook, brec] at h;cases hb : Nat.beq p.1 f with
  | false => rw [hb] at h; obtain ⟨q, hq, hh⟩ := handLook_mem (l := r) h; exact ⟨q, List.mem_cons_of_mem _ hq, hh⟩
  | true =>
   rw [hb] at h; simp only [cond_true] at h;cases hp : p.2 as H with
   | some u => rw [hp] at h; simp only [handOr, Option.some.injEq] at h; subst h; exact ⟨p, List.mem_cons_self .., nbeq_of hb, hp⟩
   | none => rw [hp] at h; simp only [handOr] at h; obtain ⟨q, hq, hh⟩ := handLook_mem (l := r) h; exact ⟨q, List.mem_cons_of_mem _ hq, hh⟩
theorem hand_ok {P : Program} {X : XP} (hS : SumsOk P X) {f : FuncId} {as : List AV} {H : AHeap} {v : AV} (h : handLook f as H X.hand = some v) {L : Loops} {e : Env} {w : World} {vs : List Value} (hvs : cvs e as = some vs) (hH : HR (gp P X) e L H.objs.get H.next w) :
 Calls P f vs.toArray w (fun en w' => en ≠ .outgrown ∧ ValOut (gp P X) L e H w [(v, H)] en w') := by
 obtain ⟨p, hp, rfl, hg⟩ := handLook_mem h;refine (hS.2 p hp _ as H v hg L e w vs hvs hH).mono fun en w' ⟨⟨y, hy, hen⟩, hsz, hk, h1, h2, h3⟩ => ?_
 subst hen;refine ⟨by simp, v, H, by simp, e, endR_ret hy, ?_, ?_⟩
 ·exact ⟨hH.dom, fun b ob hb => let ⟨y, hy, hO⟩ := hH.live b ob hb; ⟨y, hy, hO.keep (Env.le_refl e) (hk _ hO.lt) rfl⟩, hH.inj, hH.glob, hH.ora⟩
 ·exact ⟨Env.le_refl e, fun _ _ => rfl, Nat.le_refl _, hsz, fun B hB _ => hk B hB, fun _ h _ => h, fun _ o h hr => ⟨o, h, hr⟩, h1, h2, h3⟩
theorem memN_mem {t : Nat} : ∀ {l : List Nat}, memN t l = true → t ∈ l
 | u :: l, h => by
  simp only [memN, brec] at h;cases hb : Nat.beq t u with
  | true => rw [nbeq_of hb]; exact List.mem_cons_self ..
  | false => rw [hb] at h; exact List.mem_cons_of_mem _ (memN_mem h)
theorem byteAV_cv {e : Env} {v : AV} {y : Value} (h : byteAV v = true) (hv : cv e v = some y) : ∃ b, b < 256 ∧ y = .int .u8 (Int.ofNat b) := by
 unfold byteAV at h
 split at h
 ·rename_i n;exact ⟨n, nblt_of h, cv_int hv⟩
 ·rename_i i j lo hi;obtain ⟨_, N, _, _, rfl⟩ := val_nat (show (RC.nat .u8 (.byt j) lo hi).val (e.sy i) = some y from hv)
  exact ⟨_, Nat.mod_lt _ (by decide), rfl⟩
 ·cases h
theorem bytes_cvs {e : Env} : ∀ {cs : List AV} {xs : List Value}, cs.all byteAV = true → cvs e cs = some xs → ∃ bs : List Nat, (∀ b ∈ bs, b < 256) ∧ xs = bs.map fun b => .int .u8 (Int.ofNat b)
 | [], xs, _, h => by simp only [cvs, Option.some.injEq] at h; subst h; exact ⟨[], (fun b hb => by cases hb), rfl⟩
 | c :: cs, xs, ha, h => by
  simp only [List.all_cons, Bool.and_eq_true] at ha;obtain ⟨y, z, hy, hz, rfl⟩ := cvs_cons h;obtain ⟨b, hb, rfl⟩ := byteAV_cv ha.1 hy;obtain ⟨bs, hbs, rfl⟩ := bytes_cvs ha.2 hz;exact ⟨b :: bs, (fun x hx => by rcases List.mem_cons.1 hx with rfl | hx; exact hb; exact hbs x hx), rfl⟩
theorem sumLook_mem {cs : List AV} {v : AV} : ∀ {l : List OraE}, sumLook cs l = some v → ∃ o ∈ l, o.cells = some cs ∧ o.r = v
 | o :: l, h => by
  simp only [sumLook] at h
  split at h
  ·rename_i ds hd;simp only [brec] at h;cases hb : AV.sames ds cs with
   | true =>
    rw [hb] at h; simp only [cond_true, Option.some.injEq] at h;exact ⟨o, List.mem_cons_self .., by rw [hd, AV.sames_of _ _ hb], h⟩
   | false =>
    rw [hb] at h;obtain ⟨p, hp, hh⟩ := sumLook_mem (l := l) h;exact ⟨p, List.mem_cons_of_mem _ hp, hh⟩
  ·obtain ⟨p, hp, hh⟩ := sumLook_mem (l := l) h;exact ⟨p, List.mem_cons_of_mem _ hp, hh⟩
theorem sumA_ok {P : Program} {X : XP} (hS : SumsOk P X) {f : FuncId} {as : List AV} {H : AHeap} {v : AV} (h : sumA X H f as = some v) {L : Loops} {e : Env} {w : World} {vs : List Value} (hvs : cvs e as = some vs) (hH : HR (gp P X) e L H.objs.get H.next w) :
 Calls P f vs.toArray w (fun en w' => en ≠ .outgrown ∧ ValOut (gp P X) L e H w [(v, H)] en w') := by
 unfold sumA at h
 split at h
 ·rename_i b off n cap;simp only [brec] at h;cases hm : memN f X.sums with
  | false => rw [hm] at h; cases h
  | true =>
   rw [hm] at h; simp only [cond_true] at h;cases hn0 : Nat.ble n 65536 with
   | false => rw [hn0] at h; cases h
   | true =>
   rw [hn0] at h; simp only [cond_true] at h;unfold sumAt at h
   split at h
   ·rename_i cs hg;simp only [brec] at h;cases ha : cs.all byteAV with
    | false => rw [ha] at h; cases h
    | true =>
     rw [ha] at h; simp only [cond_true] at h;obtain ⟨o, ho, hoc, rfl⟩ := sumLook_mem h;obtain ⟨x, xs, hx, hxs, hn, hc⟩ := getCells_cv hH hg;obtain ⟨bs, hbs, rfl⟩ := bytes_cvs ha hxs;obtain ⟨y, z, hy, hz, rfl⟩ := cvs_cons hvs;simp only [cvs, Option.some.injEq] at hz; subst hz;obtain ⟨x', hx', rfl⟩ := cv_sl hy;rw [hx] at hx'; cases hx';have hr := ((hH.ora o ho e rfl).2 cs hoc) bs hbs hxs;refine (hS.1 f (memN_mem hm) w x.1 off n (cap.val x.2) bs (by simpa using hn) (Nat.le_of_ble_eq_true hn0) hbs (fun j b hj => hc j _ (by simp [hj]))).mono fun en w' ⟨hen, hsz, hk, h1, h2, h3⟩ => ?_
     subst hen;refine ⟨by simp, o.r, H, by simp, e, endR_ret hr, ?_, ?_⟩
     ·exact ⟨hH.dom, fun b ob hb => let ⟨y, hy, hO⟩ := hH.live b ob hb; ⟨y, hy, hO.keep (Env.le_refl e) (hk _ hO.lt) rfl⟩, hH.inj, hH.glob, hH.ora⟩
     ·exact ⟨Env.le_refl e, fun _ _ => rfl, Nat.le_refl _, hsz, fun B hB _ => hk B hB, fun _ h _ => h, fun _ o h hr => ⟨o, h, hr⟩, h1, h2, h3⟩
   ·cases h
 ·cases h
def MemoFits0 (P : Program) (X : XP) : Prop := ∀ f as H outs, lookM X.glob as H (X.memo.get f) = some outs → ∀ (L : Loops) (e : Env) (w : World) (vs : List Value), cvs e as = some vs → HR (gp P X) e L H.objs.get H.next w →
 Calls P f vs.toArray w (fun en w' => en ≠ .outgrown ∧ ValOut (gp P X) L e H w outs en w')
theorem memoFits0 {P : Program} {X : XP} (hg : X.glob = P.globals.size) (h : MemoOk P X.ora X.memo) : MemoFits0 P X := by
 intro f as H outs hl L e w vs hvs hH;cases hm : X.memo.get f with
 | none => rw [hm] at hl; cases hl
 | some es =>
  rw [hm] at hl;have hes := h f es hm;clear hm;have hl' : lookE X.glob as H es = some outs := hl;clear hl
  induction es with
  | nil => cases hl'
  | cons en es ih =>
   cases en with
   | pure as' v =>
    simp only [lookE, brec] at hl';cases hs : AV.sames as' as with
    | false => rw [hs] at hl'; exact ih (fun en hen => hes en (List.mem_cons_of_mem _ hen)) hl'
    | true =>
     rw [hs] at hl';simp only [cond_true, Option.some.injEq] at hl'; subst hl';have := AV.sames_of _ _ hs;subst this;obtain ⟨hfa, hfv, hrun⟩ := hes _ (List.mem_cons_self ..)
     let e0 : Env := { f := fun b => if b < P.globals.size then e.f b else none, sy := e.sy }
     have hle0 : ∀ b x, e0.f b = some x → e.f b = some x := by
      intro b x hb;simp only [e0] at hb
      by_cases hlt : b < P.globals.size
      ·rw [if_pos hlt] at hb; exact hb
      ·rw [if_neg hlt] at hb; cases hb
     have hH0 : HR (gp P X) e0 [] (Tr.nil : Tr AObj).get P.globals.size w := by
      refine ⟨fun b x hb => ?_, (fun b o hb => by cases hb), (fun b c o p x y hb => by cases hb), fun g hg => ?_, hH.ora⟩
      ·simp only [e0] at hb
       by_cases hlt : b < P.globals.size
       ·exact hlt
       ·rw [if_neg hlt] at hb; cases hb
      ·simp only [e0]; rw [if_pos (show g < P.globals.size from hg)]; exact hH.glob g hg
     refine (hrun e0 w vs ((frees_cv (e := e) (e' := e0) rfl as' hfa).trans hvs) hH0).mono fun en w' ⟨hne, H', e', hen, hH', hT⟩ => ⟨hne, v, H, by simp, e, ?_, ?_, ?_⟩
     ·obtain ⟨y, hv, rfl⟩ := endR_not hen (by intro u hu; subst hu; cases hfv)
      exact endR_ret (by rw [← hv]; exact free_cv (e := e') (e' := e) hT.le.2.symm v hfv)
     ·have hkeep : ∀ B, B < w.heap.size → w'.heap[B]? = w.heap[B]? := fun B hB => hT.keep B hB (by rintro ⟨b, o, x, hb, _⟩; cases hb)
      exact ⟨hH.dom, fun b o hb => let ⟨x, hx, hO⟩ := hH.live b o hb; ⟨x, hx, hO.keep (Env.le_refl e) (hkeep _ hO.lt) rfl⟩, hH.inj, hH.glob, hH.ora⟩
     ·have hkeep : ∀ B, B < w.heap.size → w'.heap[B]? = w.heap[B]? := fun B hB => hT.keep B hB (by rintro ⟨b, o, x, hb, _⟩; cases hb)
      exact ⟨Env.le_refl e, fun _ _ => rfl, Nat.le_refl _, hT.size, fun B hB _ => hkeep B hB, fun _ h _ => h, fun _ o h hr => ⟨o, h, hr⟩, hT.os, hT.tape, hT.output⟩
   | loc as' pre outs0 =>
    simp only [lookE, brec] at hl';cases hs : (AV.sames as' as && Nat.ble H.next pre.next && pre.objs.sub AObj.sub H.objs) with
    | false =>
     rw [hs] at hl';simp only [cond_false] at hl';cases hq : lookRen X.glob as H as' pre outs0 with
     | none => rw [hq] at hl'; exact ih (fun en hen => hes en (List.mem_cons_of_mem _ hen)) hl'
     | some o =>
      rw [hq] at hl';simp only [elseE, Option.some.injEq] at hl'; subst hl';exact lookRen_ok hg (show LocOk P X.ora f as' pre outs0 from hes _ (List.mem_cons_self ..)) hq L e w vs hvs hH
    | true =>
     rw [hs] at hl';simp only [cond_true, Option.some.injEq] at hl'; subst hl';simp only [Bool.and_eq_true] at hs;have := AV.sames_of _ _ hs.1.1;subst this;have hnx := nble_of hs.1.2;exact LocOk.use (show LocOk P X.ora f as' pre outs0 from hes _ (List.mem_cons_self ..)) hnx hs.2 L e w vs hvs hH
theorem memoFits {P : Program} {X : XP} (hg : X.glob = P.globals.size) (h : MemoOk P X.ora X.memo) (hS : SumsOk P X) : MemoFits P X := by
 intro f as H outs hl L e w vs hvs hH;unfold knowA at hl;cases hm : lookM X.glob as H (X.memo.get f) with
 | some o => rw [hm] at hl; simp only [elseE, Option.some.injEq] at hl; subst hl; exact memoFits0 hg h f as H o hm L e w vs hvs hH
 | none =>
  rw [hm] at hl;simp only [elseE] at hl;cases hd : handLook f as H X.hand with
  | some v =>
   rw [hd] at hl;simp only [handOr, sumOuts, Option.some.injEq] at hl; subst hl;exact hand_ok hS hd hvs hH
  | none =>
   rw [hd] at hl;simp only [handOr] at hl;unfold sumOuts at hl
   split at hl
   ·rename_i v hv;simp only [Option.some.injEq] at hl; subst hl;exact sumA_ok hS hv hvs hH
   ·cases hl
section
variable {P : Program} {X : XP} (ok : XPok P X) (okf : FnOk P X) (hmix : P.follows .mixedOrders = true) (hMe : MemoOk P X.ora X.memo) (hS : SumsOk P X)
theorem covers_of {NG : GP} {L : Loops} {e : Env} {H : AHeap} {w w' : World} {outs outs0 : List (AV × AHeap)} {en : Ending} (hc : covers outs outs0 = true) (h : ValOut NG L e H w outs0 en w') : ValOut NG L e H w outs en w' := by
 obtain ⟨v, H', hm, e', hv, hH, hT⟩ := h;have hone : coverOne (v, H') outs = true := by
  clear hv hH hT
  induction outs0 with
  | nil => cases hm
  | cons o r ih =>
   simp only [covers, Bool.and_eq_true] at hc;rcases List.mem_cons.1 hm with rfl | hm
   ·exact hc.1
   ·exact ih hc.2 hm
 clear hc hm
 induction outs with
 | nil => simp [coverOne] at hone
 | cons p r ih =>
  simp only [coverOne, brec] at hone;cases hb : (p.1.same v && Nat.ble H'.next p.2.next && p.2.objs.sub AObj.sub H'.objs) with
  | true =>
   simp only [Bool.and_eq_true] at hb;have h1 := AV.same_of _ _ hb.1.1;have h2 := nble_of hb.1.2;have hle : LeG p.2.objs.get H'.objs.get := fun b o1 hb' => Tr.sub_get _ _ hb.2 b o1 hb'
   exact ⟨p.1, p.2, List.mem_cons_self .., e', by rw [h1]; exact hv, (hH.leG hle).bump h2, (hT.leG hle).bump h2⟩
  | false =>
   rw [hb] at hone;obtain ⟨v', H'', hm, hh⟩ := ih hone;exact ⟨v', H'', List.mem_cons_of_mem _ hm, hh⟩
theorem noLoops_mem : ∀ {outs : List (AV × AHeap)}, noLoops outs = true → ∀ p ∈ outs, p.2.objs.noLoop = true := by
 intro outs
 induction outs with
 | nil => intro _ p hp; cases hp
 | cons o r ih =>
  intro h p hp;simp only [noLoops, Bool.and_eq_true] at h;rcases List.mem_cons.1 hp with rfl | hp
  ·exact h.1
  ·exact ih h.2 p hp
include ok okf hmix hMe hS in
theorem ent_loc {n f : Nat} {as : List AV} {pre : AHeap} {outs : List (AV × AHeap)} (h : chkLoc X n f as pre outs = true) : EntOk P X.ora f (.loc as pre outs) := by
 simp only [chkLoc, Bool.and_eq_true] at h;obtain ⟨⟨⟨hb, hn1⟩, hn2⟩, hc⟩ := h;intro L e w vs hvs hH;unfold chkOuts at hc
 split at hc
 ·rename_i o ho;have hB := (run_ok ok okf hmix (memoFits ok.glob hMe hS) n).2;obtain ⟨_, hcalls⟩ := hB [] f [] [] as pre o ho hb e w [] vs [] rfl hvs rfl (hH.otherL [] (fun b ob hob => Tr.noLoop_get _ hn1 b ob hob))
  have hcalls' : Calls P f vs.toArray w (fun en w' => en ≠ .outgrown ∧ ValOut (gp P X) [] e pre w o en w') := by simpa using hcalls
  refine hcalls'.mono fun en w' ⟨hne, hv⟩ => ⟨hne, ?_⟩
  obtain ⟨v, H', hm, e', h1, h2, h3⟩ := covers_of hc hv;exact ⟨v, H', hm, e', h1, h2.otherL L (fun b ob hob => Tr.noLoop_get _ (noLoops_mem hn2 _ hm) b ob hob), h3⟩
 ·cases hc
include ok okf hmix hMe hS in
theorem ent_pure {n f : Nat} {as : List AV} {v : AV} (h : chkPure X n f as v = true) : EntOk P X.ora f (.pure as v) := by
 simp only [chkPure, Bool.and_eq_true] at h;obtain ⟨⟨⟨hb, hn1⟩, hn2⟩, hc⟩ := h;refine ⟨hn1, hn2, fun e w vs hvs hH => ?_⟩
 unfold chkV at hc
 split at hc
 ·rename_i p hp;have hB := (run_ok ok okf hmix (memoFits ok.glob hMe hS) n).2;rw [ok.glob] at hp;obtain ⟨_, hcalls⟩ := hB [] f [] [] as ⟨P.globals.size, .nil⟩ [p] hp hb e w [] vs [] rfl hvs rfl hH;have hcalls' : Calls P f vs.toArray w (fun en w' => en ≠ .outgrown ∧ ValOut (gp P X) [] e ⟨P.globals.size, .nil⟩ w [p] en w') := by simpa using hcalls
  refine hcalls'.mono fun en w' ⟨hne, v', H', hm, hh⟩ => ⟨hne, H', ?_⟩
  simp only [List.mem_singleton] at hm; subst hm;rw [AV.same_of _ _ hc]; exact hh
 ·cases hc
end
end
end Go.X
