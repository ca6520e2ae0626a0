/- A region whose order is drawn, whole; code, calls, and the run by depth. -/
import Derived.Test.YtdhcjepgihfplaaGreatDoorDxY
namespace Go.X
noncomputable section
set_option linter.unusedSectionVars false

theorem filter_len_lt {p q : Nat → Bool} (h : ∀ x, p x = true → q x = true) : ∀ (l : List Nat) (i : Nat), i ∈ l → p i = false → q i = true → (l.filter p).length < (l.filter q).length := by
  have hle : ∀ l : List Nat, (l.filter p).length ≤ (l.filter q).length := by
    intro l
    induction l with
    | nil => exact Nat.le_refl _
    | cons x l ih =>
      simp only [List.filter_cons]
      cases hp : p x with
      | true => rw [h x hp]; simpa using ih
      | false => cases q x <;> simp <;> omega
  intro l
  induction l with
  | nil => intro i hi; cases hi
  | cons x l ih =>
    intro i hi hp hq
    simp only [List.filter_cons]
    rcases List.mem_cons.1 hi with rfl | hi
    · rw [hp, hq]; have := hle l; simp; omega
    · have := ih i hi hp hq
      cases hpx : p x with
      | true => rw [h x hpx]; simpa using this
      | false => cases q x <;> simp <;> omega

section
variable {P : Program} {X : XP} (ok : XPok P X) {R : Rec} (hR : RecOk P (gp P X) R)

section
variable {L : Loops} {ops : Array Oper} {B : Tr Nat} (hs : Stat ops B) {base : Nat} {H0 : AHeap} {fr0 : Fr} {recs : List RRec} (hlen : recs.length = ops.size)
variable (hfact : ∀ (j : Nat) (o : Oper) (r : RRec), ops[j]? = some o → recs[j]? = some r → Fact X R L ops B base H0 fr0 recs j o r)
variable (hrd : rdChk X ops B base H0 recs (actsOf 0 recs) = true)
variable {e0 : Env} {w0 : World}

def left (ops : Array Oper) (done : List Nat) : Nat := ((List.range ops.size).filter fun j => decide (j ∉ done)).length

theorem left_zero {ops : Array Oper} {done : List Nat} (h : left ops done = 0) : ∀ j, j < ops.size → j ∈ done := by
  intro j hj
  have h1 := List.eq_nil_of_length_eq_zero h
  have h2 := List.filter_eq_nil_iff.1 h1 j (List.mem_range.2 hj)
  simpa using h2

theorem left_snoc {ops : Array Oper} {done : List Nat} {i : Nat} (hi : i < ops.size) (hn : i ∉ done) : left ops (done ++ [i]) < left ops done := by
  refine filter_len_lt (fun x hx => ?_) _ i (List.mem_range.2 hi) (by simp) (by simpa using hn)
  simp only [decide_eq_true_eq] at hx ⊢
  exact fun h => hx (List.mem_append_left _ h)

include ok hR hs hlen hfact hrd in
theorem lin_steps {b : Frame} {k : List Item} {cs : List Frame} : ∀ (fuel t : Nat) (listed : Array Bool) (done : List Nat) (m : Nat) (e : Env) (G : Nat → Option AObj) (a : Act) (w : World),
    InvAt (gp P X) L ops B base H0 fr0 recs e0 w0 done m e G a w → (∀ j, j < ops.size → (listed.getD j true = true ↔ j ∈ done)) → (∀ j, listed.getD j false = true → j ∈ done) → listed.size = ops.size → left ops done ≤ fuel →
    ∃ a' w' done' m' e' G', InvAt (gp P X) L ops B base H0 fr0 recs e0 w0 done' m' e' G' a' w' ∧ (∀ j, j < ops.size → j ∈ done') ∧
      Steps P (lone (b.atR a (.inRegion ops (Region.linearise.go .any ops fuel t listed []) :: k)) cs w) (lone (b.atR a' k) cs w') := by
  intro fuel
  induction fuel with
  | zero =>
    intro t listed done m e G a w hI h1 h2 hsz hl
    refine ⟨a, w, done, m, e, G, hI, left_zero (by omega), ?_⟩
    exact .one stepR_region_end
  | succ fuel ih =>
    intro t listed done m e G a w hI h1 h2 hsz hl
    simp only [Region.linearise.go]
    change ∃ a' w' done' m' e' G', _ ∧ _ ∧ Steps P (lone (b.atR a (.inRegion ops (match (Region.ready .any ops listed)[t % (Region.ready .any ops listed).length]? with
      | some i => Region.linearise.go .any ops fuel (t / (Region.ready .any ops listed).length) (listed.setIfInBounds i true) [i]
      | none => [].reverse) :: k)) cs w) _
    cases hi : (Region.ready .any ops listed)[t % (Region.ready .any ops listed).length]? with
    | none =>
      have hnil : Region.ready .any ops listed = [] := by
        cases hr : Region.ready .any ops listed with
        | nil => rfl
        | cons x xs =>
          rw [hr] at hi
          have hlt : t % (x :: xs).length < (x :: xs).length := Nat.mod_lt _ (by simp)
          simp at hi
          simp at hlt
          omega
      refine ⟨a, w, done, m, e, G, hI, ?_, .one stepR_region_end⟩
      intro j
      induction j using Nat.strongRecOn with
      | _ j ihj =>
        intro hj
        refine Classical.byContradiction fun hn => ?_
        have : j ∈ Region.ready .any ops listed := by
          rw [mem_ready]
          refine ⟨?_, ops[j], by simp [hj], fun ed hed hb => ?_⟩
          · cases hg : listed.getD j true with
            | false => rfl
            | true => exact (hn ((h1 j hj).1 hg)).elim
          · have hlt := hs.edge j ops[j] (by simp [hj]) ed hed hb
            have hin := ihj ed.on hlt (by omega)
            have hg := (h1 ed.on (by omega)).2 hin
            have hb' : ed.on < listed.size := by omega
            simp only [Array.getD_eq_getD_getElem?, hb', Array.getElem?_eq_getElem, Option.getD_some] at hg ⊢
            exact hg
        rw [hnil] at this; cases this
    | some i =>
      have hmem := List.mem_of_getElem? hi
      obtain ⟨hun, o, ho, hall⟩ := mem_ready.1 hmem
      have hil : i < ops.size := (Array.getElem?_eq_some_iff.1 ho).1
      have hni : i ∉ done := fun hin => by rw [(h1 i hil).2 hin] at hun; cases hun
      have hb : ∀ j, bit B i j = true → j ∈ done := by
        intro j hj
        obtain ⟨ed, hed, hbd, h3⟩ := hs.bef i o ho j hj
        have hin := h2 _ (hall ed hed hbd)
        rcases h3 with rfl | h3
        · exact hin
        · exact hI.closed _ hin j h3
      simp only []
      rw [linearise_go_acc, List.reverse_singleton, List.singleton_append]
      obtain ⟨a1, w1, m1, e1, G1, hI1, hst⟩ := inv_step ok hR hs hlen hfact hrd hI ho hni hb (b := b) (k := k) (cs := cs)
        (rest := Region.linearise.go .any ops fuel (t / (Region.ready .any ops listed).length) (listed.setIfInBounds i true) [])
      obtain ⟨a', w', done', m', e', G', hI', hall', hst'⟩ := ih (t / (Region.ready .any ops listed).length) (listed.setIfInBounds i true) (done ++ [i]) m1 e1 G1 a1 w1 hI1
        (fun j hj => by
          by_cases hij : i = j
          · subst hij
            have hb' : i < listed.size := by omega
            simp [Array.getD_eq_getD_getElem?, hb']
          · rw [getD_set_ne true hij, h1 j hj, List.mem_append, List.mem_singleton]
            constructor
            · exact .inl
            · rintro (h | h)
              · exact h
              · exact (hij h.symm).elim)
        (fun j hj => by
          by_cases hij : i = j
          · subst hij; simp
          · rw [getD_set_ne false hij] at hj; exact List.mem_append_left _ (h2 j hj))
        (by simpa using hsz) (by have := left_snoc hil hni; omega)
      exact ⟨a', w', done', m', e', G', hI', hall', Steps.trans hst hst'⟩
end

include ok hR in
theorem regionFork_ok {L : Loops} {ops : Array Oper} (hst : okStatic ops = true) {fr : Fr} : ∀ (n : Nat) (H : AHeap) (outs : List (XE × Fr × AHeap)), regionFork X R L ops fr n H = some outs →
    ∀ (e : Env) (a : Act) (w : World), FR e fr a → HR (gp P X) e L H.objs.get H.next w → ∀ (b : Frame) (k : List Item) (cs : List Frame), ∀ t,
      ∃ a' w', CodeOut (gp P X) L e H w outs .normal a' w' ∧ Steps P (lone (b.atR a (.inRegion ops (Region.linearise .any ops t) :: k)) cs w) (lone (b.atR a' k) cs w') := by
  intro n
  have hs := okStatic_spec hst
  induction n with
  | zero => intro H outs h; simp [regionFork] at h
  | succ n ih =>
    intro H outs h e a w hF hH b k cs t
    simp only [regionFork] at h
    unfold regionDone at h
    split at h
    · cases h
    · rename_i bb hgo
      unfold forkAt at h
      split at h
      · rename_i el low hi es cells hob
        unfold appL at h
        split at h
        · rename_i o1 o2 h1 h2
          simp only [Option.some.injEq] at h; subst h
          obtain ⟨x, hx, c, fz, b1, b2, ⟨b3, b4, b5⟩, b6⟩ := hH.live bb _ hob
          have fin : ∀ (lo' : Nat) (hi' : Option Nat) (o : List (XE × Fr × AHeap)), lo' ≤ x.2 → (∀ h, hi' = some h → x.2 < h) → regionFork X R L ops fr n (H.set bb (some (.blk el false (.opn lo' hi' es) cells))) = some o → (∀ y ∈ o, y ∈ o1 ++ o2) →
              ∃ a' w', CodeOut (gp P X) L e H w (o1 ++ o2) .normal a' w' ∧ Steps P (lone (b.atR a (.inRegion ops (Region.linearise .any ops t) :: k)) cs w) (lone (b.atR a' k) cs w') := by
            intro lo' hi' o g1 g2 g3 g4
            obtain ⟨s1, s2⟩ := sharpen w hH hob hx (lo' := lo') (hi' := hi') g1 g2
            obtain ⟨a', w', hout, hsteps⟩ := ih _ _ g3 e a w hF s1 b k cs t
            exact ⟨a', w', hout.trans s2 g4, hsteps⟩
          by_cases hlt : low + 1 ≤ x.2
          · exact fin (low + 1) hi o1 hlt b5 h1 (fun y hy => List.mem_append_left _ hy)
          · exact fin low (some (low + 1)) o2 b4 (fun h hh => by cases hh; omega) h2 (fun y hy => List.mem_append_right _ hy)
        · cases h
      · cases h
    · rename_i recs fr' H' hgo
      simp only [brec] at h
      cases hrd : rdChk X ops (befs 0 ops.toList .nil) H.next (reserve ops.size H) recs (actsOf 0 recs) with
      | false => rw [hrd] at h; cases h
      | true =>
        rw [hrd] at h
        simp only [cond_true, Option.some.injEq] at h; subst h
        have hres1 : (reserve ops.size H).next = H.next + ops.size := by cases H; rfl
        have hres2 : (reserve ops.size H).objs = H.objs := by cases H; rfl
        obtain ⟨hfact, hl, hfr', prf, hprf, hH'⟩ := regGo_spec hs (H0 := reserve ops.size H) (fr0 := fr) ops.toList 0 fr (reserve ops.size H) [] 0 0 recs fr' H' recs hgo rfl rfl (Nat.zero_le _) rfl rfl
          (fun j => by simp) (fun j hj => by simp at hj) (fun a ob hm => by cases hm)
        have hlen : recs.length = ops.size := by rw [hl]; simp
        have hszl : 0 + ops.toList.length = ops.size := by simp
        rw [hszl] at hfr' hprf hH'
        have hfree : ∀ j, e.f (H.next + j) = none := fun j => by
          cases hf : e.f (H.next + j) with
          | none => rfl
          | some x => exact absurd (hH.dom _ _ hf) (by omega)
        have hI : InvAt (gp P X) L ops (befs 0 ops.toList .nil) H.next (reserve ops.size H) fr recs e w [] 0 e H.objs.get a w := by
          refine ⟨(fun i hi => by cases hi), (fun j _ => ⟨(fun h => by cases h), (fun h => by omega)⟩), hF, ?_, ?_, ?_, (fun j r ob hj => by cases hj), (fun j _ _ => hfree j), ?_⟩
          · show HR _ e L H.objs.get (reserve ops.size H).next w
            rw [hres1]; exact hH.bump (by omega)
          · show Tran e (reserve ops.size H).objs.get H.next w e H.objs.get (reserve ops.size H).next w
            rw [hres1, hres2]; exact (Tran.refl _ _ _ _).bump (by omega)
          · show Sub (reserve ops.size H).objs.get H.objs.get
            rw [hres2]; exact Sub.refl _
          · show _ ≤ (reserve ops.size H).next
            rw [hres1]; exact Nat.le_refl _
        obtain ⟨a', w', done', m', e', G', hI', hall, hsteps⟩ := lin_steps ok hR hs hlen (fun j o r => hfact j o r (Nat.zero_le _)) hrd (b := b) (k := k) (cs := cs) ops.size t (Array.replicate ops.size false) [] 0 e H.objs.get a w hI
          (fun j hj => by simp [Array.getD_eq_getD_getElem?, hj])
          (fun j hj => by
            rcases Nat.lt_or_ge j ops.size with h1 | h1
            · simp [Array.getD_eq_getD_getElem?, h1] at hj
            · simp [Array.getD_eq_getD_getElem?, h1] at hj)
          (by simp) (by
            have := List.length_filter_le (fun j => decide (j ∉ ([] : List Nat))) (List.range ops.size)
            simpa [left] using this)
        have hcur : curAt (reserve ops.size H) recs m' = curAt (reserve ops.size H) recs ops.size := curAt_congr fun j ha => by
          have hj : j < ops.size := by
            obtain ⟨r, _, _, hr, _⟩ := ha
            have := (List.getElem?_eq_some_iff.1 hr).1
            omega
          exact ⟨fun _ => hj, fun _ => (hI'.acts j ha).1 (hall j hj)⟩
        have hsub : Sub H'.objs.get G' := by
          intro bb ob hb
          rw [hH'] at hb
          rcases allNew_get hb with h1 | ⟨c, rfl, h2⟩
          · exact hI'.sub bb ob (by rw [hcur]; exact h1)
          · obtain ⟨⟨r, hr, hk'⟩, ht⟩ := hprf c ob h2
            have hc : c < ops.size := by
              have := (List.getElem?_eq_some_iff.1 hr).1
              omega
            exact (hI'.new c r ob (hall c hc) hr hk' (by rw [hcur]; exact ht)).1
        have hnx : H'.next = (curAt (reserve ops.size H) recs m').1.next := by rw [hH', hcur]
        refine ⟨a', w', ⟨fr', H', e', by simp, ?_, ?_, ?_⟩, hsteps⟩
        · refine hI'.fr.congr (fun t => ?_) (by rw [hfr', putL_n, putL_n]) (by rw [hfr', putL_defs, putL_defs])
          rw [hfr']
          refine putL_agree hs hlen fr fun j p hp _ => ?_
          have hj : j < ops.size := (Array.getElem?_eq_some_iff.1 hp).1
          exact ⟨fun _ => hall j hj, fun _ => List.mem_range.2 hj⟩
        · rw [hnx]; exact hI'.hr.weaken hsub
        · have := hI'.tr.weaken hsub
          rw [hres2] at this
          rw [hnx]; exact this

variable (hmix : P.follows .mixedOrders = true)

include ok hR hmix in
theorem region_ok {rd ro : Option Nat} {fid : FuncId} {L : Loops} {fr : Fr} {H : AHeap} {id : Nat} {ops : Array Oper} {d : Bool} {outs : List (XE × Fr × AHeap)}
    (h : codeStep X R rd fid L fr H (.region id ops d) = some outs) {e : Env} {a : Act} {w : World} (hF : FR e fr a) (hH : HR (gp P X) e L H.objs.get H.next w) (hro : RdOk e rd ro) :
    CodeWP P fid ro (.region id ops d) (CodeOut (gp P X) L e H w outs) a w := by
  simp only [codeStep, brec] at h
  intro b k cs _ hb
  cases d with
  | false =>
    simp only [cond_false] at h
    obtain ⟨x, a', w', hout, hst⟩ := runOps_ok ok hR (rd := rd) (ro := ro) ops.toList 0 (by simp) fr H outs h e a w hF hH hro b k cs hb
    refine ⟨x, a', w', hout, .of_steps (.one stepR_region) ?_⟩
    rw [List.range_eq_range']
    simpa using hst
  | true =>
    simp only [cond_true, regionDraw, brec] at h
    cases hst : okStatic ops with
    | false => rw [hst] at h; cases h
    | true =>
      rw [hst] at h
      simp only [cond_true] at h
      have hT : Tran e H.objs.get H.next w e H.objs.get H.next { w with drawn := w.drawn + 1 } := Tran.same rfl rfl rfl rfl
      obtain ⟨a', w', hout, hsteps⟩ := regionFork_ok ok hR hst 3 H outs h e a { w with drawn := w.drawn + 1 } hF (hH.same rfl) b k cs (w.tape w.drawn (.order b.fn id))
      refine ⟨.normal, a', w', hout.trans hT (fun _ h => h), Steps.head stepR_region_draw ?_⟩
      simp only [Region.schedule, hmix, Bool.true_or, if_true]
      exact hsteps

variable (okf : FnOk P X) (hB : BodyCalls P X R)

include ok hR hmix hB in
theorem codeStep_ok {rd ro : Option Nat} {fid : FuncId} {L : Loops} {fr : Fr} {H : AHeap} {c : Code} {outs : List (XE × Fr × AHeap)}
    (h : codeStep X R rd fid L fr H c = some outs) {e : Env} {a : Act} {w : World} (hF : FR e fr a) (hH : HR (gp P X) e L H.objs.get H.next w) (hro : RdOk e rd ro) :
    CodeWP P fid ro c (CodeOut (gp P X) L e H w outs) a w := by
  have here : ∀ x, some [(x, fr, H)] = some outs → CodeOut (gp P X) L e H w outs x a w := by
    intro x hx
    simp only [Option.some.injEq] at hx; subst hx
    exact ⟨fr, H, e, by simp, hF, hH, Tran.refl _ _ _ _⟩
  cases c with
  | skip => exact fun b k cs _ _ => ⟨.normal, a, w, here _ h, .one stepR_skip⟩
  | label l => exact fun b k cs _ _ => ⟨.normal, a, w, here _ h, .one stepR_label⟩
  | ret => exact fun b k cs _ _ => ⟨.ret, a, w, here _ h, k, Steps.refl _ _⟩
  | exit id => exact fun b k cs _ _ => ⟨.exit id, a, w, here _ h, k, rfl, Steps.refl _ _⟩
  | region id ops d => exact region_ok ok hR hmix h hF hH hro
  | seq x y => exact seq_ok hR h hF hH hro
  | cond x c1 c2 => exact cond_ok ok hR h hF hH hro
  | block id c => exact block_ok hR h hF hH hro
  | loop c => exact loop_ok hR h hF hH hro
  | rangeFunc g ps asg body => exact range_ok ok hB h hF hH hro
  | scope c => exact scope_ok hR h hF hH hro
  | goto l => simp [codeStep] at h
  | refuse r => simp [codeStep] at h
end
end
end Go.X
