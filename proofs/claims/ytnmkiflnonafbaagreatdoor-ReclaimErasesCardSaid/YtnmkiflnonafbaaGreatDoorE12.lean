/- A region whose order is drawn, whole; code, calls, and the run by depth. -/
import Derived.Test.YtnmkiflnonafbaaGreatDoorE11
set_option linter.unusedVariables false
set_option linter.unusedSimpArgs false
namespace Go.X
noncomputable section
set_option linter.unusedSectionVars false
theorem Zga {p q : Nat → Bool} (h : ∀ x, p x = true → q x = true) : ∀ (l : List Nat) (i : Nat), i ∈ l → p i = false → q i = true → (l.filter p).length < (l.filter q).length := by
 have hle : ∀ l : List Nat, (l.filter p).length ≤ (l.filter q).length := by
  intro l
  induction l with
  | nil => exact Nat.le_refl _
  | cons x l ih =>
   simp only [List.filter_cons];cases hp : p x with
   | true => rw [h x hp]; simpa using ih
   | false => cases q x <;> simp <;> omega
 intro l
 induction l with
 | nil => intro i hi; cases hi
 | cons x l ih =>
  intro i hi hp hq;simp only [List.filter_cons];rcases List.mem_cons.1 hi with rfl | hi
  ·rw [hp, hq]; have := hle l; simp; omega
  ·have := ih i hi hp hq;cases hpx : p x with
   | true => rw [h x hpx]; simpa using this
   | false => cases q x <;> simp <;> omega
section
variable {P : Program} {X : XP} (ok : XPok P X) {R : Rec} (hR : RecOk P P.globals.size R)
section
variable {L : Zag} {ops : Array Oper} {B : Tr Nat} (hs : Stat ops B) {base : Nat} {H0 : AHeap} {fr0 : Fr} {recs : List RRec} (hlen : recs.length = ops.size)
variable (hfact : ∀ (j : Nat) (o : Oper) (r : RRec), ops[j]? = some o → recs[j]? = some r → Fact X R L ops B base H0 fr0 recs j o r)
variable (hrd : ZmS X ops B base H0 recs (ZbI 0 recs) = true)
variable {e0 : Env} {w0 : World}
def left (ops : Array Oper) (done : List Nat) : Nat := ((List.range ops.size).filter fun j => decide (j ∉ done)).length
theorem Zlt {ops : Array Oper} {done : List Nat} (h : left ops done = 0) : ∀ j, j < ops.size → j ∈ done := by
 intro j hj;have h1 := List.eq_nil_of_length_eq_zero h;have h2 := List.filter_eq_nil_iff.1 h1 j (List.mem_range.2 hj);simpa using h2
theorem Zlu {ops : Array Oper} {done : List Nat} {i : Nat} (hi : i < ops.size) (hn : i ∉ done) : left ops (done ++ [i]) < left ops done := by
 refine Zga (fun x hx => ?_) _ i (List.mem_range.2 hi) (by simp) (by simpa using hn)
 simp only [decide_eq_true_eq] at hx ⊢;exact fun h => hx (List.mem_append_left _ h)
include ok hR hs hlen hfact hrd in
theorem Zlv {b : Frame} {k : List Item} {cs : List Frame} (hk : b.kind = .normal) : ∀ (fuel t : Nat) (listed : Array Bool) (done : List Nat) (m : Nat) (e : Env) (G : Nat → Option AObj) (a : Act) (w : World),
 InvAt P.globals.size L ops B base H0 fr0 recs e0 w0 done m e G a w → (∀ j, j < ops.size → (listed.getD j true = true ↔ j ∈ done)) → (∀ j, listed.getD j false = true → j ∈ done) → listed.size = ops.size → left ops done ≤ fuel →
 ∃ a' w' done' m' e' G', InvAt P.globals.size L ops B base H0 fr0 recs e0 w0 done' m' e' G' a' w' ∧ (∀ j, j < ops.size → j ∈ done') ∧
  Steps P (lone (b.atR a (.inRegion ops (Region.linearise.go .any ops fuel t listed []) :: k)) cs w) (lone (b.atR a' k) cs w') := by
 intro fuel
 induction fuel with
 | zero =>
  intro t listed done m e G a w hI h1 h2 hsz hl;refine ⟨a, w, done, m, e, G, hI, Zlt (by omega), ?_⟩
  exact .one stepR_region_end
 | succ fuel ih =>
  intro t listed done m e G a w hI h1 h2 hsz hl;simp only [Region.linearise.go]
  change ∃ a' w' done' m' e' G', _ ∧ _ ∧ Steps P (lone (b.atR a (.inRegion ops (match (Region.ready .any ops listed)[t % (Region.ready .any ops listed).length]? with
   | some i => Region.linearise.go .any ops fuel (t / (Region.ready .any ops listed).length) (listed.setIfInBounds i true) [i]
   | none => [].reverse) :: k)) cs w) _
  cases hi : (Region.ready .any ops listed)[t % (Region.ready .any ops listed).length]? with
  | none =>
   have hnil : Region.ready .any ops listed = [] := by
    cases hr : Region.ready .any ops listed with
    | nil => rfl
    | cons x xs =>
     rw [hr] at hi;have hlt : t % (x :: xs).length < (x :: xs).length := Nat.mod_lt _ (by simp)
     simp at hi;simp at hlt;omega
   refine ⟨a, w, done, m, e, G, hI, ?_, .one stepR_region_end⟩;intro j
   induction j using Nat.strongRecOn with
   | _ j ihj =>
    intro hj;refine Classical.byContradiction fun hn => ?_
    have : j ∈ Region.ready .any ops listed := by
     rw [mem_ready];refine ⟨?_, ops[j], by simp [hj], fun ed hed hb => ?_⟩
     ·cases hg : listed.getD j true with
      | false => rfl
      | true => exact (hn ((h1 j hj).1 hg)).elim
     ·have hlt := hs.edge j ops[j] (by simp [hj]) ed hed hb
      have hin := ihj ed.on hlt (by omega)
      have hg := (h1 ed.on (by omega)).2 hin
      have hb' : ed.on < listed.size := by omega
      simp only [Array.getD_eq_getD_getElem?, hb', Array.getElem?_eq_getElem, Option.getD_some] at hg ⊢;exact hg
    rw [hnil] at this; cases this
  | some i =>
   have hmem := List.mem_of_getElem? hi;obtain ⟨hun, o, ho, hall⟩ := mem_ready.1 hmem;have hil : i < ops.size := (Array.getElem?_eq_some_iff.1 ho).1;have hni : i ∉ done := fun hin => by rw [(h1 i hil).2 hin] at hun; cases hun
   have hb : ∀ j, bit B i j = true → j ∈ done := by
    intro j hj;obtain ⟨ed, hed, hbd, h3⟩ := hs.bef i o ho j hj;have hin := h2 _ (hall ed hed hbd);rcases h3 with rfl | h3
    ·exact hin
    ·exact hI.closed _ hin j h3
   simp only [];rw [linearise_go_acc, List.reverse_singleton, List.singleton_append];obtain ⟨a1, w1, m1, e1, G1, hI1, hst⟩ := ZmW ok hR hs hlen hfact hrd hI ho hni hb (b := b) (k := k) (cs := cs)
    (rest := Region.linearise.go .any ops fuel (t / (Region.ready .any ops listed).length) (listed.setIfInBounds i true) []) hk
   obtain ⟨a', w', done', m', e', G', hI', hall', hst'⟩ := ih (t / (Region.ready .any ops listed).length) (listed.setIfInBounds i true) (done ++ [i]) m1 e1 G1 a1 w1 hI1
    (fun j hj => by
      by_cases hij : i = j
      ·subst hij;have hb' : i < listed.size := by omega
       simp [Array.getD_eq_getD_getElem?, hb']
      ·rw [getD_set_ne true hij, h1 j hj, List.mem_append, List.mem_singleton];constructor
       ·exact .inl
       ·rintro (h | h)
        ·exact h
        ·exact (hij h.symm).elim)
    (fun j hj => by
      by_cases hij : i = j
      ·subst hij; simp
      ·rw [getD_set_ne false hij] at hj; exact List.mem_append_left _ (h2 j hj))
    (by simpa using hsz) (by have := Zlu hil hni; omega)
   exact ⟨a', w', done', m', e', G', hI', hall', Steps.trans hst hst'⟩
end
include ok hR in
theorem Zgb {L : Zag} {ops : Array Oper} (hst : Zdd ops = true) {fr : Fr} : ∀ (n : Nat) (H : AHeap) (outs : List (XE × Fr × AHeap)), Zbp X R L ops fr n H = some outs →
 ∀ (e : Env) (a : Act) (w : World), FR e fr a → HR P.globals.size e L H.objs.get H.next w → ∀ (b : Frame) (k : List Item) (cs : List Frame), b.kind = .normal → ∀ t,
  ∃ a' w', ZaN P.globals.size L e H w outs .normal a' w' ∧ Steps P (lone (b.atR a (.inRegion ops (Region.linearise .any ops t) :: k)) cs w) (lone (b.atR a' k) cs w') := by
 intro n;have hs := Zf8 hst
 induction n with
 | zero => intro H outs h; simp [Zbp] at h
 | succ n ih =>
  intro H outs h e a w hF hH b k cs hk t;simp only [Zbp] at h;unfold Zfm at h
  split at h
  ·cases h
  ·rename_i bb hgo;unfold Zoj at h
   split at h
   ·rename_i el low es cells hob;unfold ZrQ at h
    split at h
    ·rename_i o1 o2 h1 h2;simp only [Option.some.injEq] at h; subst h;obtain ⟨x, hx, c, fz, b1, b2, ⟨b3, b4, b5⟩, b6⟩ := hH.live bb _ hob;have fin : ∀ (lo' : Nat) (hi' : Option Nat) (o : List (XE × Fr × AHeap)), lo' ≤ x.2 → (∀ h, hi' = some h → x.2 < h) → Zbp X R L ops fr n (H.set bb (some (.blk el false (.opn lo' hi' es) cells))) = some o → (∀ y ∈ o, y ∈ o1 ++ o2) →
      ∃ a' w', ZaN P.globals.size L e H w (o1 ++ o2) .normal a' w' ∧ Steps P (lone (b.atR a (.inRegion ops (Region.linearise .any ops t) :: k)) cs w) (lone (b.atR a' k) cs w') := by
      intro lo' hi' o g1 g2 g3 g4;obtain ⟨s1, s2⟩ := ZeM w hH hob hx (lo' := lo') (hi' := hi') g1 g2;obtain ⟨a', w', hout, hsteps⟩ := ih _ _ g3 e a w hF s1 b k cs hk t;exact ⟨a', w', hout.trans s2 g4, hsteps⟩
     by_cases hlt : low + 1 ≤ x.2
     ·exact fin (low + 1) none o1 hlt (fun h hh => by cases hh) h1 (fun y hy => List.mem_append_left _ hy)
     ·exact fin low (some (low + 1)) o2 b4 (fun h hh => by cases hh; omega) h2 (fun y hy => List.mem_append_right _ hy)
    ·cases h
   ·cases h
  ·rename_i recs fr' H' hgo;simp only [Zaw] at h;cases hrd : ZmS X ops (ZhY 0 ops.toList .nil) H.next (reserve ops.size H) recs (ZbI 0 recs) with
   | false => rw [hrd] at h; cases h
   | true =>
    rw [hrd] at h;simp only [cond_true, Option.some.injEq] at h; subst h;have hres1 : (reserve ops.size H).next = H.next + ops.size := by cases H; rfl
    have hres2 : (reserve ops.size H).objs = H.objs := by cases H; rfl
    obtain ⟨hfact, hl, hfr', prf, hprf, hH'⟩ := ZjP hs (H0 := reserve ops.size H) (fr0 := fr) ops.toList 0 fr (reserve ops.size H) [] 0 0 recs fr' H' recs hgo rfl rfl (Nat.zero_le _) rfl rfl
     (fun j => by simp) (fun j hj => by simp at hj) (fun a ob hm => by cases hm)
    have hlen : recs.length = ops.size := by rw [hl]; simp
    have hszl : 0 + ops.toList.length = ops.size := by simp
    rw [hszl] at hfr' hprf hH';have hfree : ∀ j, e.f (H.next + j) = none := fun j => by
     cases hf : e.f (H.next + j) with
     | none => rfl
     | some x => exact absurd (hH.dom _ _ hf) (by omega)
    have hI : InvAt P.globals.size L ops (ZhY 0 ops.toList .nil) H.next (reserve ops.size H) fr recs e w [] 0 e H.objs.get a w := by
     refine ⟨(fun i hi => by cases hi), (fun j _ => ⟨(fun h => by cases h), (fun h => by omega)⟩), hF, ?_, ?_, ?_, (fun j r ob hj => by cases hj), (fun j _ _ => hfree j), ?_⟩
     ·show HR _ e L H.objs.get (reserve ops.size H).next w;rw [hres1]; exact hH.bump (by omega)
     ·show Tran e (reserve ops.size H).objs.get H.next w e H.objs.get (reserve ops.size H).next w;rw [hres1, hres2]; exact (Tran.refl _ _ _ _).bump (by omega)
     ·show Sub (reserve ops.size H).objs.get H.objs.get;rw [hres2]; exact Sub.refl _
     ·show _ ≤ (reserve ops.size H).next;rw [hres1]; exact Nat.le_refl _
    obtain ⟨a', w', done', m', e', G', hI', hall, hsteps⟩ := Zlv ok hR hs hlen (fun j o r => hfact j o r (Nat.zero_le _)) hrd (b := b) (k := k) (cs := cs) hk ops.size t (Array.replicate ops.size false) [] 0 e H.objs.get a w hI
     (fun j hj => by simp [Array.getD_eq_getD_getElem?, hj])
     (fun j hj => by
       rcases Nat.lt_or_ge j ops.size with h1 | h1
       ·simp [Array.getD_eq_getD_getElem?, h1] at hj
       ·simp [Array.getD_eq_getD_getElem?, h1] at hj)
     (by simp) (by
       have := List.length_filter_le (fun j => decide (j ∉ ([] : List Nat))) (List.range ops.size)
       simpa [left] using this)
    have hcur : Zaj (reserve ops.size H) recs m' = Zaj (reserve ops.size H) recs ops.size := Zbv fun j ha => by
     have hj : j < ops.size := by
      obtain ⟨r, _, _, hr, _⟩ := ha;have := (List.getElem?_eq_some_iff.1 hr).1;omega
     exact ⟨fun _ => hj, fun _ => (hI'.acts j ha).1 (hall j hj)⟩
    have hsub : Sub H'.objs.get G' := by
     intro bb ob hb;rw [hH'] at hb;rcases ZjQ hb with h1 | ⟨c, rfl, h2⟩
     ·exact hI'.sub bb ob (by rw [hcur]; exact h1)
     ·obtain ⟨⟨r, hr, hk'⟩, ht⟩ := hprf c ob h2;have hc : c < ops.size := by
       have := (List.getElem?_eq_some_iff.1 hr).1;omega
      exact (hI'.new c r ob (hall c hc) hr hk' (by rw [hcur]; exact ht)).1
    have hnx : H'.next = (Zaj (reserve ops.size H) recs m').1.next := by rw [hH', hcur]
    refine ⟨a', w', ⟨fr', H', e', by simp, ?_, ?_, ?_⟩, hsteps⟩
    ·refine hI'.fr.congr (fun t => ?_) (by rw [hfr', Zol, Zol]) (by rw [hfr', ZgU, ZgU])
     rw [hfr'];refine Zfr hs hlen fr fun j p hp _ => ?_
     have hj : j < ops.size := (Array.getElem?_eq_some_iff.1 hp).1;exact ⟨fun _ => hall j hj, fun _ => List.mem_range.2 hj⟩
    ·rw [hnx]; exact hI'.hr.weaken hsub
    ·have := hI'.tr.weaken hsub;rw [hres2] at this;rw [hnx]; exact this
variable (hmix : P.follows .mixedOrders = true)
include ok hR hmix in
theorem Zlw {rd ro : Option Nat} {fid : FuncId} {L : Zag} {fr : Fr} {H : AHeap} {id : Nat} {ops : Array Oper} {d : Bool} {outs : List (XE × Fr × AHeap)}
 (h : Zb7 X R rd fid L fr H (.region id ops d) = some outs) {e : Env} {a : Act} {w : World} (hF : FR e fr a) (hH : HR P.globals.size e L H.objs.get H.next w) :
 Zdn P fid ro (.region id ops d) (ZaN P.globals.size L e H w outs) a w := by
 simp only [Zb7, Zaw] at h;intro b k cs _ hk _;cases d with
 | false =>
  simp only [cond_false] at h;obtain ⟨a', w', hout, hst⟩ := ZlO ok hR ops.toList 0 (by simp) fr H outs h e a w hF hH b k cs hk
  refine ⟨.normal, a', w', hout, Steps.head stepR_region ?_⟩;rw [List.range_eq_range'];simpa using hst
 | true =>
  simp only [cond_true, Zfn, Zaw] at h;cases hst : Zdd ops with
  | false => rw [hst] at h; cases h
  | true =>
   rw [hst] at h;simp only [cond_true] at h;have hT : Tran e H.objs.get H.next w e H.objs.get H.next { w with drawn := w.drawn + 1 } := Tran.same rfl rfl rfl rfl
   obtain ⟨a', w', hout, hsteps⟩ := Zgb ok hR hst 3 H outs h e a { w with drawn := w.drawn + 1 } hF (hH.same rfl) b k cs hk (w.tape w.drawn (.order b.fn id))
   refine ⟨.normal, a', w', hout.trans hT (fun _ h => h), Steps.head stepR_region_draw ?_⟩
   simp only [Region.schedule, hmix, Bool.true_or, if_true];exact hsteps
variable (okf : FnOk P X) (hB : Zdf P X R)
include ok hR hmix hB in
theorem Zh4 {rd ro : Option Nat} {fid : FuncId} {L : Zag} {fr : Fr} {H : AHeap} {c : Code} {outs : List (XE × Fr × AHeap)}
 (h : Zb7 X R rd fid L fr H c = some outs) {e : Env} {a : Act} {w : World} (hF : FR e fr a) (hH : HR P.globals.size e L H.objs.get H.next w) (hro : ZkP e rd ro) :
 Zdn P fid ro c (ZaN P.globals.size L e H w outs) a w := by
 have here : ∀ x, some [(x, fr, H)] = some outs → ZaN P.globals.size L e H w outs x a w := by
  intro x hx;simp only [Option.some.injEq] at hx; subst hx;exact ⟨fr, H, e, by simp, hF, hH, Tran.refl _ _ _ _⟩
 cases c with
 | skip => exact fun b k cs _ _ _ => ⟨.normal, a, w, here _ h, .one stepR_skip⟩
 | label l => exact fun b k cs _ _ _ => ⟨.normal, a, w, here _ h, .one stepR_label⟩
 | ret => exact fun b k cs _ _ _ => ⟨.ret, a, w, here _ h, k, Steps.refl _ _⟩
 | exit id => exact fun b k cs _ _ _ => ⟨.exit id, a, w, here _ h, k, rfl, Steps.refl _ _⟩
 | region id ops d => exact Zlw ok hR hmix h hF hH
 | seq x y => exact seq_ok hR h hF hH hro
 | cond x c1 c2 => exact Zo6 ok hR h hF hH hro
 | block id c => exact Zm8 hR h hF hH hro
 | loop c => exact Zo5 hR h hF hH hro
 | rangeFunc g ps asg body => exact ZmU ok hB h hF hH hro
 | scope c => exact Zm9 hR h hF hH hro
 | goto l => simp [Zb7] at h
 | refuse r => simp [Zb7] at h
end
end
end Go.X

/- The run by depth; what is known of calls. -/
namespace Go.X
noncomputable section
set_option linter.unusedSectionVars false
section
variable {P : Program} {X : XP} (ok : XPok P X) (okf : FnOk P X) (hmix : P.follows .mixedOrders = true) (hMe : Zen P X)
include ok okf hmix hMe in
theorem Zom : ∀ n, RecOk P P.globals.size (run X n) ∧ Zdf P X (run X n) := by
 intro n
 induction n with
 | zero =>
  refine ⟨⟨fun rd fid L fr H c outs h => ?_, fun L fv args H outs h => ?_⟩, fun L f first captured args H outs h => ?_⟩
  ·exact absurd (show none = some outs from h) (by simp)
  ·exact absurd (show none = some outs from h) (by simp)
  ·exact absurd (show none = some outs from h) (by simp)
 | succ n ih =>
  obtain ⟨hR, hB⟩ := ih;refine ⟨⟨fun rd fid L fr H c outs h e a w ro hF hH hro => ?_, fun L fv args H outs h e w vf vs hf hvs hH => ?_⟩, fun L f first captured args H outs h hb e w v1 v2 v3 h1 h2 h3 hH => ?_⟩
  ·exact Zh4 ok hR hmix hB (show Zb7 X (run X n) rd fid L fr H c = some outs from h) hF hH hro
  ·exact Zih ok okf hR ZdZ hMe (show Zej X (run X n) L fv args H = some outs from h) hf hvs hH
  ·have h' : ZgO X (run X n) L f (first ++ args ++ captured) H (X.fns.get f) = some outs := h
   obtain ⟨nx, hr, _, hc⟩ := Zhh ok okf hR ZdZ hMe h' h1 h2 h3 hH;rw [ZfB] at hr;obtain ⟨as, hn, hcalls⟩ := hc hb;cases hfn : X.fns.get f with
   | none => rw [hfn] at hb; cases hb
   | some fn =>
    rw [hfn] at hb;obtain ⟨hf, hname⟩ := okf.fns f fn hfn;obtain ⟨c, hbc⟩ := Option.isSome_iff_exists.1 (show fn.body.isSome = true from hb)
    have he := ZcJ (P := P) hf hname hbc (args := v1.toArray ++ v2.toArray ++ v3.toArray) (w := w);rw [he] at hr;rw [hn] at hr;cases hr;exact ⟨he, hcalls⟩
end
mutual
theorem Zh5 {e e' : Env} (h : e'.sy = e.sy) : ∀ v : AV, v.free = true → cv e' v = cv e v
 | .undef, _ => rfl
 | .bool _, _ => rfl
 | .int _ _, _ => rfl
 | .str _, _ => rfl
 | .nilp, _ => rfl
 | .nils, _ => rfl
 | .nilm, _ => rfl
 | .nilf, _ => rfl
 | .nili, _ => rfl
 | .ptr _ _, hv => by simp [AV.free] at hv
 | .sl _ _ _ _, hv => by simp [AV.free] at hv
 | .yld _, hv => by simp [AV.free] at hv
 | .capOf _ _, hv => by simp [AV.free] at hv
 | .fn f a b, hv => by
  simp only [AV.free, Bool.and_eq_true] at hv;simp only [cv, ZcA h a hv.1, ZcA h b hv.2]
 | .ifc t v, hv => by
  simp only [AV.free] at hv;simp only [cv, Zh5 h v hv]
 | .agg l, hv => by
  simp only [AV.free] at hv;simp only [cv, ZcA h l hv]
 | .tup l, hv => by
  simp only [AV.free] at hv;simp only [cv, ZcA h l hv]
 | .sym i, _ => by simp only [cv, h]
theorem ZcA {e e' : Env} (h : e'.sy = e.sy) : ∀ l : List AV, AV.frees l = true → cvs e' l = cvs e l
 | [], _ => rfl
 | v :: vs, hv => by
  simp only [AV.frees, Bool.and_eq_true] at hv;simp only [cvs, Zh5 h v hv.1, ZcA h vs hv.2]
end
theorem Tr.plus_get {α : Type} : ∀ (p h : Tr α) (n : Nat), (p.plus h).get n = (match p.get n with | some x => some x | none => h.get n) := by
 intro p
 induction p with
 | nil => intro h n; rfl
 | node v l r ihl ihr =>
  intro h n;cases h with
  | nil =>
   show (Tr.node v l r).get n = _;cases (Tr.node v l r).get n <;> rfl
  | node v' l' r' =>
   show (Tr.node _ (l.plus l') (r.plus r')).get n = _;rw [Tr.get_node, Tr.get_node, Tr.get_node]
   by_cases h0 : n = 0
   ·rw [if_pos h0, if_pos h0, if_pos h0];cases v <;> rfl
   ·rw [if_neg h0, if_neg h0, if_neg h0]
    by_cases h1 : n % 2 = 1
    ·rw [if_pos h1, if_pos h1, if_pos h1]; exact ihl l' _
    ·rw [if_neg h1, if_neg h1, if_neg h1]; exact ihr r' _
theorem Tr.minus_get {α : Type} : ∀ (p h : Tr α) (n : Nat), (p.minus h).get n = (match p.get n with | some _ => none | none => h.get n) := by
 intro p
 induction p with
 | nil => intro h n; rfl
 | node v l r ihl ihr =>
  intro h n;cases h with
  | nil =>
   show (Tr.nil : Tr α).get n = _;cases (Tr.node v l r).get n <;> rfl
  | node v' l' r' =>
   show (Tr.node _ (l.minus l') (r.minus r')).get n = _;rw [Tr.get_node, Tr.get_node, Tr.get_node]
   by_cases h0 : n = 0
   ·rw [if_pos h0, if_pos h0, if_pos h0];cases v <;> rfl
   ·rw [if_neg h0, if_neg h0, if_neg h0]
    by_cases h1 : n % 2 = 1
    ·rw [if_pos h1, if_pos h1, if_pos h1]; exact ihl l' _
    ·rw [if_neg h1, if_neg h1, if_neg h1]; exact ihr r' _
theorem Tr.noLoop_get : ∀ (t : Tr AObj), t.noLoop = true → ∀ n o, t.get n = some o → o.noLoop = true := by
 intro t
 induction t with
 | nil => intro _ n o h; cases h
 | node v l r ihl ihr =>
  intro h n o hn;simp only [Tr.noLoop, Bool.and_eq_true] at h;rw [Tr.get_node] at hn
  by_cases h0 : n = 0
  ·rw [if_pos h0] at hn; subst hn; exact h.1.1
  ·rw [if_neg h0] at hn
   by_cases h1 : n % 2 = 1
   ·rw [if_pos h1] at hn; exact ihl h.1.2 _ o hn
   ·rw [if_neg h1] at hn; exact ihr h.2 _ o hn
theorem Zdx.otherL {e : Env} {L L' : Zag} {b : Nat} {x : Nat × Nat} {w : World} {o : AObj} (hn : o.noLoop = true) (h : Zdx e L b x w o) : Zdx e L' b x w o := by
 cases o with
 | loop => cases hn
 | blk => exact h
 | defr => exact h
 | siter => exact h
theorem HR.otherL {NG : Nat} {e : Env} {L : Zag} (L' : Zag) {G : Nat → Option AObj} {nx : Nat} {w : World} (hn : ∀ b o, G b = some o → o.noLoop = true) (h : HR NG e L G nx w) : HR NG e L' G nx w :=
 { h with live := fun b o hb => let ⟨x, hx, hO⟩ := h.live b o hb; ⟨x, hx, hO.otherL (hn b o hb)⟩ }
def LeW (G' G : Nat → Option AObj) : Prop := ∀ b o1, G' b = some o1 → ∃ o2, G b = some o2 ∧ o1.wr = o2.wr ∧ ∀ (e : Env) (L : Zag) (b : Nat) (x : Nat × Nat) (w : World), Zdx e L b x w o2 → Zdx e L b x w o1
theorem HR.leW {NG : Nat} {e : Env} {L : Zag} {G G' : Nat → Option AObj} {n : Nat} {w : World} (h : HR NG e L G n w) (hs : LeW G' G) : HR NG e L G' n w where
 dom := h.dom
 live b o hb := by
  obtain ⟨o2, h2, _, hsub⟩ := hs b o hb;obtain ⟨x, hx, hO⟩ := h.live b o2 h2;exact ⟨x, hx, hsub _ _ _ _ _ hO⟩
 inj b c o p x y hb hc := by
  obtain ⟨o2, h2, _⟩ := hs b o hb;obtain ⟨p2, h3, _⟩ := hs c p hc;exact h.inj b c o2 p2 x y h2 h3
 glob := h.glob
theorem Tran.leW {e e' : Env} {G G1 G' : Nat → Option AObj} {n n' : Nat} {w w' : World} (h : Tran e G n w e' G1 n' w') (hs : LeW G' G1) : Tran e G n w e' G' n' w' :=
 { h with
   foot := fun B hB => h.foot B (by
    obtain ⟨b, o, x, h1, h2, h3, h4⟩ := hB;obtain ⟨o2, g1, g2, _⟩ := hs b o h1
    exact ⟨b, o2, x, g1, by rw [← g2]; exact h2, h3, h4⟩)
   ro := fun b o hb hr => by
    obtain ⟨o2, g1, g2, _⟩ := hs b o hb
    exact h.ro b o2 g1 (by rw [← g2]; exact hr) }
def ZdD (P : Program) (f : FuncId) : Ent → Prop
 | .pure as v => AV.frees as = true ∧ v.free = true ∧ ∀ (e : Env) (w : World) (vs : List Value), cvs e as = some vs → HR P.globals.size e [] (Tr.nil : Tr AObj).get P.globals.size w →
  Calls P f vs.toArray w (fun en w' => ∃ y, en = .returned y ∧ ∃ H', Zrh P.globals.size [] e ⟨P.globals.size, .nil⟩ w v H' y w')
 | .loc as pre outs => ∀ (L : Zag) (e : Env) (w : World) (vs : List Value), cvs e as = some vs → HR P.globals.size e L pre.objs.get pre.next w →
  Calls P f vs.toArray w (fun en w' => ∃ y, en = .returned y ∧ ZaZ P.globals.size L e pre w outs y w')
def Zd3 (P : Program) (M : Tr (List Ent)) : Prop := ∀ f es, M.get f = some es → ∀ en ∈ es, ZdD P f en
theorem Zd3.add {P : Program} {M : Tr (List Ent)} (h : Zd3 P M) {f : FuncId} {es : List Ent} (hes : ∀ en ∈ es, ZdD P f en) : Zd3 P (M.set f (some es)) := by
 intro g es' hg en hen;rw [Tr.get_set] at hg
 by_cases hgf : g = f
 ·rw [if_pos hgf] at hg; cases hg; subst hgf; exact hes en hen
 ·rw [if_neg hgf] at hg; exact h g es' hg en hen
theorem Zja {P : Program} {X : XP} (h : Zd3 P X.memo) : Zen P X := by
 intro f as H outs hl L e w vs hvs hH;cases hm : X.memo.get f with
 | none => rw [hm] at hl; cases hl
 | some es =>
  rw [hm] at hl;have hes := h f es hm;clear hm;have hl' : ZjJ as H es = some outs := hl;clear hl
  induction es with
  | nil => cases hl'
  | cons en es ih =>
   cases en with
   | pure as' v =>
    simp only [ZjJ, Zaw] at hl';cases hs : AV.sames as' as with
    | false => rw [hs] at hl'; exact ih (fun en hen => hes en (List.mem_cons_of_mem _ hen)) hl'
    | true =>
     rw [hs] at hl';simp only [cond_true, Option.some.injEq] at hl'; subst hl';have := AV.sames_of _ _ hs;subst this;obtain ⟨hfa, hfv, hrun⟩ := hes _ (List.mem_cons_self ..)
     let e0 : Env := { f := fun b => if b < P.globals.size then e.f b else none, sy := e.sy }
     have hle0 : ∀ b x, e0.f b = some x → e.f b = some x := by
      intro b x hb;simp only [e0] at hb
      by_cases hlt : b < P.globals.size
      ·rw [if_pos hlt] at hb; exact hb
      ·rw [if_neg hlt] at hb; cases hb
     have hH0 : HR P.globals.size e0 [] (Tr.nil : Tr AObj).get P.globals.size w := by
      refine ⟨fun b x hb => ?_, (fun b o hb => by cases hb), (fun b c o p x y hb => by cases hb), fun g hg => ?_⟩
      ·simp only [e0] at hb
       by_cases hlt : b < P.globals.size
       ·exact hlt
       ·rw [if_neg hlt] at hb; cases hb
      ·simp only [e0]; rw [if_pos hg]; exact hH.glob g hg
     refine (hrun e0 w vs ((ZcA (e := e) (e' := e0) rfl as' hfa).trans hvs) hH0).mono fun en w' ⟨y, hy, H', e', hv, hH', hT⟩ => ⟨y, hy, v, H, by simp, e, ?_, ?_, ?_⟩
     ·rw [← hv]; exact Zh5 (e := e') (e' := e) hT.le.2.symm v hfv
     ·have hkeep : ∀ B, B < w.heap.size → w'.heap[B]? = w.heap[B]? := fun B hB => hT.keep B hB (by rintro ⟨b, o, x, hb, _⟩; cases hb)
      exact ⟨hH.dom, fun b o hb => let ⟨x, hx, hO⟩ := hH.live b o hb; ⟨x, hx, hO.keep (Env.le_refl e) (hkeep _ hO.lt) rfl⟩, hH.inj, hH.glob⟩
     ·have hkeep : ∀ B, B < w.heap.size → w'.heap[B]? = w.heap[B]? := fun B hB => hT.keep B hB (by rintro ⟨b, o, x, hb, _⟩; cases hb)
      exact ⟨Env.le_refl e, fun _ _ => rfl, Nat.le_refl _, hT.size, fun B hB _ => hkeep B hB, fun _ h _ => h, fun _ o h hr => ⟨o, h, hr⟩, hT.os, hT.tape, hT.output⟩
   | loc as' pre outs0 =>
    simp only [ZjJ, Zaw] at hl';cases hs : (AV.sames as' as && Nat.ble H.next pre.next && pre.objs.sub AObj.sub H.objs) with
    | false => rw [hs] at hl'; exact ih (fun en hen => hes en (List.mem_cons_of_mem _ hen)) hl'
    | true =>
     rw [hs] at hl';simp only [cond_true, Option.some.injEq] at hl'; subst hl';simp only [Bool.and_eq_true] at hs;have := AV.sames_of _ _ hs.1.1;subst this;have hnx := Zak hs.1.2;have hrun := hes _ (List.mem_cons_self ..);have hLe : LeG pre.objs.get H.objs.get := fun b o1 hb => Tr.sub_get _ _ hs.2 b o1 hb
     let H2 : Nat → Option AObj := fun b => match pre.objs.get b with | some o => some o | none => H.objs.get b
     have hsub : Sub pre.objs.get H2 := by
      intro b o hb;show (match pre.objs.get b with | some o => some o | none => H.objs.get b) = some o
      rw [hb]
     have hLe2 : LeW H2 H.objs.get := by
      intro b o hb;have hb' : (match pre.objs.get b with | some o => some o | none => H.objs.get b) = some o := hb
      cases hp : pre.objs.get b with
      | some q =>
       rw [hp] at hb';have hqo : q = o := Option.some.inj hb';subst hqo;obtain ⟨o2, h2, h3⟩ := hLe b q hp;exact ⟨o2, h2, (AObj.sub_ok h3).1, fun e L b x w => (AObj.sub_ok h3).2⟩
      | none => rw [hp] at hb'; exact ⟨o, hb', rfl, fun _ _ _ _ _ h => h⟩
     have hH2 : HR P.globals.size e L H2 pre.next w := (hH.leW hLe2).bump hnx;refine (hrun L e w vs hvs (hH2.weaken hsub)).mono fun en w' ⟨y, hy, v, H', hm', e', hv, hH', hT⟩ => ⟨y, hy, v, (Zf4 pre.objs H.objs (v, H')).2, List.mem_map.2 ⟨(v, H'), hm', rfl⟩, e', hv, ?_, ?_⟩
     ·have h1 := HR.framed hH2 hsub hT hH';have hG : (Zf4 pre.objs H.objs (v, H')).2.objs.get = Zbw H'.objs.get pre.objs.get H2 := by
       funext b;show (H'.objs.plus (pre.objs.minus H.objs)).get b = _;rw [Tr.plus_get, Tr.minus_get];unfold Zbw;cases H'.objs.get b with
       | some o => rfl
       | none =>
        cases hp : pre.objs.get b with
        | some o => rfl
        | none =>
         show H.objs.get b = (match pre.objs.get b with | some o => some o | none => H.objs.get b)
         rw [hp]
      rw [hG]; exact h1
     ·have h1 := Tran.framed hH2 hsub hT;have hG : (Zf4 pre.objs H.objs (v, H')).2.objs.get = Zbw H'.objs.get pre.objs.get H2 := by
       funext b;show (H'.objs.plus (pre.objs.minus H.objs)).get b = _;rw [Tr.plus_get, Tr.minus_get];unfold Zbw;cases H'.objs.get b with
       | some o => rfl
       | none =>
        cases hp : pre.objs.get b with
        | some o => rfl
        | none =>
         show H.objs.get b = (match pre.objs.get b with | some o => some o | none => H.objs.get b)
         rw [hp]
      rw [hG];have h0 : Tran e H.objs.get H.next w e H2 pre.next w := ((Tran.refl e H.objs.get H.next w).leW hLe2).bump hnx;exact h0.trans h1
section
variable {P : Program} {X : XP} (ok : XPok P X) (okf : FnOk P X) (hmix : P.follows .mixedOrders = true) (hMe : Zd3 P X.memo)
theorem Zlx {NG : Nat} {L : Zag} {e : Env} {H : AHeap} {w w' : World} {outs outs0 : List (AV × AHeap)} {y : Value} (hc : covers outs outs0 = true) (h : ZaZ NG L e H w outs0 y w') : ZaZ NG L e H w outs y w' := by
 obtain ⟨v, H', hm, e', hv, hH, hT⟩ := h;have hone : Zde (v, H') outs = true := by
  clear hv hH hT
  induction outs0 with
  | nil => cases hm
  | cons o r ih =>
   simp only [covers, Bool.and_eq_true] at hc;rcases List.mem_cons.1 hm with rfl | hm
   ·exact hc.1
   ·exact ih hc.2 hm
 clear hc hm
 induction outs with
 | nil => simp [Zde] at hone
 | cons p r ih =>
  simp only [Zde, Zaw] at hone;cases hb : (p.1.same v && Nat.ble H'.next p.2.next && p.2.objs.sub AObj.sub H'.objs) with
  | true =>
   simp only [Bool.and_eq_true] at hb;have h1 := AV.same_of _ _ hb.1.1;have h2 := Zak hb.1.2;have hle : LeG p.2.objs.get H'.objs.get := fun b o1 hb' => Tr.sub_get _ _ hb.2 b o1 hb'
   exact ⟨p.1, p.2, List.mem_cons_self .., e', by rw [h1]; exact hv, (hH.leG hle).bump h2, (hT.leG hle).bump h2⟩
  | false =>
   rw [hb] at hone;obtain ⟨v', H'', hm, hh⟩ := ih hone;exact ⟨v', H'', List.mem_cons_of_mem _ hm, hh⟩
theorem Zh6 : ∀ {outs : List (AV × AHeap)}, Zf7 outs = true → ∀ p ∈ outs, p.2.objs.noLoop = true := by
 intro outs
 induction outs with
 | nil => intro _ p hp; cases hp
 | cons o r ih =>
  intro h p hp;simp only [Zf7, Bool.and_eq_true] at h;rcases List.mem_cons.1 hp with rfl | hp
  ·exact h.1
  ·exact ih h.2 p hp
include ok okf hmix hMe in
theorem ZoS {n f : Nat} {as : List AV} {pre : AHeap} {outs : List (AV × AHeap)} (h : Zlp X n f as pre outs = true) : ZdD P f (.loc as pre outs) := by
 simp only [Zlp, Bool.and_eq_true] at h;obtain ⟨⟨⟨hb, hn1⟩, hn2⟩, hc⟩ := h;intro L e w vs hvs hH;unfold Zlo at hc
 split at hc
 ·rename_i o ho;have hB := (Zom ok okf hmix (Zja hMe) n).2;obtain ⟨_, hcalls⟩ := hB [] f [] [] as pre o ho hb e w [] vs [] rfl hvs rfl (hH.otherL [] (fun b ob hob => Tr.noLoop_get _ hn1 b ob hob))
  have hcalls' : Calls P f vs.toArray w (fun en w' => ∃ y, en = .returned y ∧ ZaZ P.globals.size [] e pre w o y w') := by simpa using hcalls
  refine hcalls'.mono fun en w' ⟨y, hy, hv⟩ => ⟨y, hy, ?_⟩
  obtain ⟨v, H', hm, e', h1, h2, h3⟩ := Zlx hc hv;exact ⟨v, H', hm, e', h1, h2.otherL L (fun b ob hob => Tr.noLoop_get _ (Zh6 hn2 _ hm) b ob hob), h3⟩
 ·cases hc
include ok okf hmix hMe in
theorem ZmX {n f : Nat} {as : List AV} {v : AV} (h : Zh0 X n f as v = true) : ZdD P f (.pure as v) := by
 simp only [Zh0, Bool.and_eq_true] at h;obtain ⟨⟨⟨hb, hn1⟩, hn2⟩, hc⟩ := h;refine ⟨hn1, hn2, fun e w vs hvs hH => ?_⟩
 unfold ZrR at hc
 split at hc
 ·rename_i p hp;have hB := (Zom ok okf hmix (Zja hMe) n).2;rw [ok.glob] at hp;obtain ⟨_, hcalls⟩ := hB [] f [] [] as ⟨P.globals.size, .nil⟩ [p] hp hb e w [] vs [] rfl hvs rfl hH;have hcalls' : Calls P f vs.toArray w (fun en w' => ∃ y, en = .returned y ∧ ZaZ P.globals.size [] e ⟨P.globals.size, .nil⟩ w [p] y w') := by simpa using hcalls
  refine hcalls'.mono fun en w' ⟨y, hy, v', H', hm, hh⟩ => ⟨y, hy, H', ?_⟩
  simp only [List.mem_singleton] at hm; subst hm;rw [AV.same_of _ _ hc]; exact hh
 ·cases hc
end
end
end Go.X
