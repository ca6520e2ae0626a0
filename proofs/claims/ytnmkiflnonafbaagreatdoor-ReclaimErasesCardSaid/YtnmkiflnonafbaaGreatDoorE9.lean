/- Calls of functions; rounds; ranges over functions. -/
import Derived.Test.YtnmkiflnonafbaaGreatDoorE8
import Derived.Laws.Externs
import Derived.Laws.StandIn
set_option linter.unusedVariables false
set_option linter.unusedSimpArgs false
namespace Go.X
noncomputable section
set_option linter.unusedSectionVars false
def Znc (P : Program) (fn : Func) : Ext → Prop
 | .indexByte => Extern.findNext fn = none ∧ Extern.find fn = some Extern.BytealgIndexByte.indexByte
 | .overlaps es => Extern.findNext fn = none ∧ ∃ t el i, fn.params[0]? = some t ∧ P.underlying t = some (.slice el) ∧ P.info? el = some i ∧ i.size = es ∧
  Extern.find fn = some (Extern.SlicesOverlaps.overlaps fn.params fn.resultTypes)
structure FnOk (P : Program) (X : XP) : Prop where
 fns : ∀ f fn, X.fns.get f = some fn → P.funcs[f]? = some fn ∧ (fn.name == "runtime.NumGoroutine") = false
 ext : ∀ f fn x, X.fns.get f = some fn → fn.body = none → X.ext.get f = some x → Znc P fn x
section
variable {P : Program} {X : XP} (ok : XPok P X) (okf : FnOk P X) {R : Rec} (hR : RecOk P P.globals.size R)
include ok hR in
theorem ZeO {L : Zag} {f : FuncId} {fn : Func} {as : List AV} {H : AHeap} {c : Code} {outs : List (AV × AHeap)} (h : Zf3 X R L f fn as H c = some outs) (hf : P.funcs[f]? = some fn) (hb : fn.body = some c)
 {e : Env} {w : World} {vs : List Value} (hvs : cvs e as = some vs) (hH : HR P.globals.size e L H.objs.get H.next w) :
 Calls P f vs.toArray w (fun en w' => ∃ y, en = .returned y ∧ ZaZ P.globals.size L e H w outs y w') := by
 unfold Zf3 at h;obtain ⟨l, hl⟩ := Za3 h;rw [hl] at h;intro cs
 let b : Frame := { (default : Frame) with fn := f, kind := .normal, roundOf := none }
 have henter : Frame.enter P f vs.toArray .normal = b.atR { tmps := vs.toArray ++ Array.replicate (fn.ntmps - vs.toArray.size) Go.undef, defers := [] } [.code c] := by
  simp [Frame.enter, Frame.atR, hf, hb, b]
 have hF0 : FR e ⟨ZjH 0 as .nil, Nat.max as.length fn.ntmps, []⟩ { tmps := vs.toArray ++ Array.replicate (fn.ntmps - vs.toArray.size) Go.undef, defers := [] } := ⟨Znb hvs _, rfl⟩;obtain ⟨x, a1, w1, ⟨fr1, H1, e1, hm, hF1, hH1, hT1⟩, harr⟩ := hR.code _ _ _ _ _ _ _ hl e _ w none hF0 hH rfl b [] cs rfl rfl rfl;rw [← henter] at harr;obtain ⟨o, ho, hsub⟩ := Zbd h _ hm;have fin : ∀ todo, Zeh X fn fr1 (Zb5 fr1.defs H1) = some o → Steps P (lone (Frame.enter P f vs.toArray .normal) cs w) (lone { b.atR a1 todo with mode := .returning } cs w1) →
  ∃ en w' fr, (∃ y, en = .returned y ∧ ZaZ P.globals.size L e H w outs y w') ∧ Comes P (lone (Frame.enter P f vs.toArray .normal) cs w) (lone fr cs w') en ∧ fr.fn = f ∧ fr.leaving P w' en := by
  intro todo hlv hs;cases htd : Zb5 fr1.defs H1 with
  | none => rw [htd] at hlv; simp [Zeh] at hlv
  | some H2 =>
   rw [htd] at hlv;simp only [Zeh] at hlv;obtain ⟨w2, hH2, hT2, hs2⟩ := Zie (P := P) fr1.defs H1 H2 htd e1 w1 { b.atR a1 todo with mode := .returning } cs rfl hF1.defs hH1
   obtain ⟨v, y, rfl, hy, hres⟩ := Zke ok hF1.tm hH2 hlv;refine ⟨.returned y, w2, _, ⟨y, rfl, v, H2, hsub _ (by simp), e1, hy, hH2, hT1.trans hT2⟩, Steps.trans hs hs2, rfl, rfl, rfl, rfl, fn, hf, hres⟩
 cases x with
 | normal => exact fin [] ho (Steps.trans harr (.one (stepR_end rfl)))
 | ret => obtain ⟨t, h2⟩ := harr; exact fin _ ho (Steps.trans h2 (.one (stepR_ret rfl)))
 | exit id => simp [Zld] at ho
theorem Zhf {f : FuncId} {args : Array Value} {w : World} {Q : Value → World → Prop} (h : Calls P f args w (fun en w' => ∃ y, en = .returned y ∧ Q y w')) : ZlK P (Frame.enter P f args .normal) w Q := by
 intro c cs;obtain ⟨en, w', fr, ⟨y, rfl, hq⟩, hc, _, hl⟩ := h (c :: cs);exact ⟨y, w', hq, Steps.trans hc (.one (step_leave_returned hl))⟩
theorem find_congr {α : Type} {p q : α → Bool} : ∀ {l : List α}, (∀ x ∈ l, p x = q x) → l.find? p = l.find? q := by
 intro l
 induction l with
 | nil => intro _; rfl
 | cons a l ih =>
  intro h;simp only [List.find?_cons, h a (by simp), ih (fun x hx => h x (by simp [hx]))]
theorem Znd (c : Nat) (hc : c < 256) : ∀ (s : List Nat) (i : Nat), (∀ b ∈ s, b < 256) →
 (match ZjI c i s with | some j => (j : Int) | none => -1) = (match (List.range' i s.length).find? (fun j => (s.getD (j - i) 0) == c) with | some j => (j : Int) | none => -1) := by
 intro s
 induction s with
 | nil => intro i _; rfl
 | cons b s ih =>
  intro i hs;simp only [ZjI, Zaw, List.length_cons, List.range'_succ, List.find?_cons]
  by_cases hb : b = c
  ·rw [ZbK hb]; simp [hb]
  ·rw [Zbx hb];have : ((b :: s).getD (i - i) 0 == c) = false := by simp [hb]
   simp only [cond_false, this];rw [ih (i + 1) (fun x hx => hs x (by simp [hx]))]
   have : (List.range' (i + 1) s.length).find? (fun j => (s.getD (j - (i + 1)) 0) == c) = (List.range' (i + 1) s.length).find? (fun j => ((b :: s).getD (j - i) 0) == c) := by
    apply find_congr;intro j hj;have := List.mem_range'.1 hj;have hji : j - i = (j - (i + 1)) + 1 := by omega
    rw [hji]; simp
   rw [this]
theorem Zo7 {f : FuncId} {fn : Func} {x : Ext} (hx : Znc P fn x) {L : Zag} {H : AHeap} {as : List AV} {v : AV} (h : Zrq H x as = some v) {e : Env} {w : World} {vs : List Value} (hvs : cvs e as = some vs)
 (hH : HR P.globals.size e L H.objs.get H.next w) : ∃ y g, cv e v = some y ∧ Extern.findNext fn = none ∧ Extern.find fn = some g ∧ (g vs.toArray).run P w = .ok y w := by
 unfold Zrq at h
 split at h
 ·rename_i s c;obtain ⟨h1, h2⟩ := hx;obtain ⟨p, q, hp, hq, rfl⟩ := Zap hvs;obtain ⟨p', q', hp', hq', rfl⟩ := Zap hq;simp only [cvs, Option.some.injEq] at hq'; subst hq';obtain ⟨hs, rfl⟩ := Zbh hp;cases Za8 hp';simp only [Zaw] at h;cases hb : Nat.blt c 256 with
  | false => rw [hb] at h; cases h
  | true =>
   rw [hb] at h; simp only [cond_true, Option.some.injEq] at h; subst h;have hc := ZaF hb;refine ⟨.int .i64 (match ZjI c 0 s with | some j => (j : Int) | none => -1), _, ?_, h1, h2, ?_⟩
   ·cases ZjI c 0 s <;> rfl
   ·rw [Znd c hc s 0 hs];have hfind : (List.range (bytesOf s).size).find? (fun i => (bytesOf s)[i]! == UInt8.ofNat c) = (List.range' 0 s.length).find? (fun j => (s.getD (j - 0) 0) == c) := by
     rw [Zai, List.range_eq_range'];apply find_congr;intro j hj;have hj' := List.mem_range'.1 hj;have hjl : j < s.length := by omega
     have hget : (bytesOf s)[j]! = UInt8.ofNat s[j] := by
      have hsz : j < (bytesOf s).size := by rw [Zai]; exact hjl
      rw [getElem!_pos (bytesOf s) j hsz];show (bytesOf s).data[j]'hsz = _;simp [bytesOf]
     rw [hget];simp only [Nat.sub_zero, List.getD_eq_getElem?_getD, List.getElem?_eq_getElem hjl, Option.getD_some];have hsj := hs s[j] (List.getElem_mem hjl)
     by_cases he : s[j] = c
     ·rw [he]; simp
     ·have : (UInt8.ofNat s[j] == UInt8.ofNat c) = false := beq_eq_false_iff_ne.2 fun h => he (ZeD hsj hc h)
      rw [this]; symm; exact beq_eq_false_iff_ne.2 he
    have hu : (Int.ofNat c).toNat.toUInt8 = UInt8.ofNat c := rfl;have hr := run_indexByte_string (P := P) (bytesOf s) (Int.ofNat c) w;rw [hu] at hr;show (Extern.BytealgIndexByte.indexByte #[.string (bytesOf s), .int .u8 (Int.ofNat c)]).run P w = _;rw [hr];unfold firstIdx;rw [hfind];generalize List.find? _ _ = r;cases r <;> rfl
 ·rename_i es b off n c b' off' n' c';obtain ⟨h1, t, el, inf, hp0, hu, hinf, hes, hfind⟩ := hx;obtain ⟨p, q, hp, hq, rfl⟩ := Zap hvs;obtain ⟨p', q', hp', hq', rfl⟩ := Zap hq;simp only [cvs, Option.some.injEq] at hq'; subst hq';obtain ⟨x1, hx1, rfl⟩ := Zbk hp;obtain ⟨x2, hx2, rfl⟩ := Zbk hp';have hsz : ∀ W : World, (sizeOf el).run P W = .ok es W := fun W => by simp [sizeOf, Zax W hinf, hes]
  simp only [ZiZ, Zaw] at h;cases hz : (Nat.beq n 0 || Nat.beq n' 0 || Nat.beq es 0) with
  | true =>
   rw [hz] at h; simp only [cond_true, Option.some.injEq] at h; subst h;refine ⟨_, _, rfl, h1, hfind, ?_⟩;show (Extern.SlicesOverlaps.overlaps _ _ _).run P w = _
   delta Extern.SlicesOverlaps.overlaps Extern.SlicesOverlaps.overlaps.match_4 Extern.SlicesOverlaps.overlaps._sparseCasesOn_4
   have h0 : n = 0 ∨ n' = 0 ∨ es = 0 := by
    simp only [Bool.or_eq_true] at hz;rcases hz with (h | h) | h
    ·exact .inl (Zab h)
    ·exact .inr (.inl (Zab h))
    ·exact .inr (.inr (Zab h))
   simp [hp0, run_underlying hu, hsz, h0, Array.getLit]
  | false =>
   rw [hz] at h; simp only [cond_false] at h;have h0 : ¬ (n = 0 ∨ n' = 0 ∨ es = 0) := by
    rintro (h | h | h) <;> simp [h] at hz
   cases hbb : Nat.beq b b' with
   | true =>
    rw [hbb] at h; simp only [cond_true, Option.some.injEq] at h; subst h;obtain rfl := Zab hbb;rw [hx1] at hx2; cases hx2;refine ⟨_, _, rfl, h1, hfind, ?_⟩;show (Extern.SlicesOverlaps.overlaps _ _ _).run P w = _
    delta Extern.SlicesOverlaps.overlaps Extern.SlicesOverlaps.overlaps.match_4 Extern.SlicesOverlaps.overlaps._sparseCasesOn_4
    simp [hp0, run_underlying hu, hsz, h0, Array.getLit, ZbT, frozen, Sem.run]
   | false =>
    rw [hbb] at h; simp only [cond_false] at h;have hne : b ≠ b' := fun he => by rw [ZbK he] at hbb; cases hbb
    unfold Zog at h
    split at h
    ·rename_i el1 sz1 cl1 el2 sz2 cl2 ho1 ho2;simp only [Option.some.injEq] at h; subst h;obtain ⟨y1, hy1, c1, fz1, g1, g2, _⟩ := hH.live b _ ho1;obtain ⟨y2, hy2, c2, fz2, k1, k2, _⟩ := hH.live b' _ ho2;rw [hx1] at hy1; cases hy1;rw [hx2] at hy2; cases hy2;have hbl : x1.1 ≠ x2.1 := fun he => hne (hH.inj b b' _ _ _ _ ho1 ho2 hx1 hx2 he)
     have := g2 rfl; subst this;have := k2 rfl; subst this;have hnb : (x1.1 != x2.1) = true := by simpa using hbl
     have hnb' : (x1.1 == x2.1) = false := by simpa using hbl
     refine ⟨_, _, rfl, h1, hfind, ?_⟩;show (Extern.SlicesOverlaps.overlaps _ _ _).run P w = _
     delta Extern.SlicesOverlaps.overlaps Extern.SlicesOverlaps.overlaps.match_4 Extern.SlicesOverlaps.overlaps._sparseCasesOn_4
     simp [hp0, run_underlying hu, hsz, h0, Array.getLit, hnb, hnb', frozen, noView, viewAt, mayBeOne, stringish, shape, Sem.run, World.frozen?, World.shape?, g1, k1]
    ·cases h
 ·cases h
theorem Zhg {f : FuncId} {fn : Func} (hf : P.funcs[f]? = some fn) (hname : (fn.name == "runtime.NumGoroutine") = false) (hb : fn.body = none) (hn : Extern.findNext fn = none) {g : Array Value → Sem Value} (he : Extern.find fn = some g)
 {args : Array Value} {w w' : World} {y : Value} (hr : (g args).run P w = .ok y w') : (callFunc f args).run P w = .ok (.value y) w' := by
 have hname' : ¬ (fn.name = "runtime.NumGoroutine") := by simpa using hname
 simp [callFunc, hf, hname', hb, hn, he, hr]
theorem ZcJ {f : FuncId} {fn : Func} (hf : P.funcs[f]? = some fn) (hname : (fn.name == "runtime.NumGoroutine") = false) {c : Code} (hb : fn.body = some c) {args : Array Value} {w : World} : (callFunc f args).run P w = .ok (.enter f args) w := by
 have hname' : ¬ (fn.name = "runtime.NumGoroutine") := by simpa using hname
 simp [callFunc, hf, hname', hb]
theorem ZfB {f : FuncId} {first captured args : Array Value} {w : World} : (do let d ← Deferred.ofValue (.func (.func f) first captured) args; invoke d.target d.args : Sem Next).run P w = (callFunc f (first ++ args ++ captured)).run P w := by
 simp [Deferred.ofValue, invoke]
def Zig (P : Program) (X : XP) : Prop := ∀ f, X.mrg.get f ≠ none → ∀ (n0 : Nat) (as : List AV) (r : List (AV × AHeap)) (L : Zag) (e : Env) (H : AHeap) (w : World) (y : Value) (w' : World), n0 = H.next →
 ZaZ P.globals.size L e H w r y w' → ZaZ P.globals.size L e H w (Zev n0 as r) y w'
def Zen (P : Program) (X : XP) : Prop := ∀ f as H outs, ZoO as H (X.memo.get f) = some outs → ∀ (L : Zag) (e : Env) (w : World) (vs : List Value), cvs e as = some vs → HR P.globals.size e L H.objs.get H.next w →
 Calls P f vs.toArray w (fun en w' => ∃ y, en = .returned y ∧ ZaZ P.globals.size L e H w outs y w')
include ok okf hR in
theorem Zhh (hM : Zig P X) (hMe : Zen P X) {L : Zag} {f : FuncId} {first captured args : List AV} {H : AHeap} {outs : List (AV × AHeap)} (h : ZgO X R L f (first ++ args ++ captured) H (X.fns.get f) = some outs)
 {e : Env} {w : World} {v1 v2 v3 : List Value} (h1 : cvs e first = some v1) (h2 : cvs e args = some v2) (h3 : cvs e captured = some v3) (hH : HR P.globals.size e L H.objs.get H.next w) :
 ∃ n, (do let d ← Deferred.ofValue (.func (.func f) v1.toArray v3.toArray) v2.toArray; invoke d.target d.args : Sem Next).run P w = .ok n w ∧ ZlL P (ZaZ P.globals.size L e H w outs) n w ∧
  (Zcj (X.fns.get f) = true → ∃ as, n = .enter f as ∧ Calls P f as w (fun en w' => ∃ y, en = .returned y ∧ ZaZ P.globals.size L e H w outs y w')) := by
 have hall := ZcC (ZcC h1 h2) h3;have hargs : v1.toArray ++ v2.toArray ++ v3.toArray = (v1 ++ v2 ++ v3).toArray := by simp
 rw [ZfB, hargs];cases hfn : X.fns.get f with
 | none => rw [hfn] at h; simp [ZgO] at h
 | some fn =>
  rw [hfn] at h;simp only [ZgO] at h;obtain ⟨hf, hname⟩ := okf.fns f fn hfn;cases hb : fn.body with
  | some c =>
   rw [hb] at h;simp only [ZhX] at h;have hc : Calls P f (v1 ++ v2 ++ v3).toArray w (fun en w' => ∃ y, en = .returned y ∧ ZaZ P.globals.size L e H w outs y w') := by
    cases hlk : ZoO (first ++ args ++ captured) H (X.memo.get f) with
    | some o =>
     rw [hlk] at h;simp only [Option.some.injEq] at h; subst h;exact hMe f _ H o hlk L e w _ hall hH
    | none =>
    rw [hlk] at h;simp only at h;cases hm : X.mrg.get f with
    | none =>
     rw [hm] at h;simp only [ZhW] at h;exact ZeO ok hR h hf hb hall hH
    | some u =>
     rw [hm] at h;simp only [ZhW] at h
     split at h
     ·rename_i r hr;simp only [Option.some.injEq] at h; subst h;exact (ZeO ok hR hr hf hb hall hH).mono fun en w' ⟨y, hy, hv⟩ => ⟨y, hy, hM f (by rw [hm]; simp) _ _ _ _ _ _ _ _ _ rfl hv⟩
     ·cases h
   exact ⟨.enter f (v1 ++ v2 ++ v3).toArray, ZcJ hf hname hb, Zhf hc, fun _ => ⟨_, rfl, hc⟩⟩
  | none =>
   rw [hb] at h;simp only [ZhX] at h;unfold Zlf at h
   split at h
   ·rename_i x hx;unfold ZpV at h
    split at h
    ·rename_i v hv;simp only [Option.some.injEq] at h; subst h;obtain ⟨y, g, hy, g1, g2, g3⟩ := Zo7 (f := f) (okf.ext f fn x hfn hb hx) hv hall hH;exact ⟨.value y, Zhg hf hname hb g1 g2 g3, ⟨v, H, by simp, e, hy, hH, Tran.refl _ _ _ _⟩, fun hbd => by simp [Zcj, hb] at hbd⟩
    ·cases h
   ·cases h
theorem Zhi {e : Env} {n : Nat} : ∀ (ps : List Tmp) (as : List AV) (tm tm' : Tr AV) (t : Array Value) (vs : List Value), Zbb n ps as tm = some tm' → cvs e as = some vs → Zia e tm n t →
 ps.length = vs.length ∧ Zia e tm' n ((ps.zip vs).foldl (fun tmps (p : Tmp × Value) => tmps.setIfInBounds p.1 p.2) t) := by
 intro ps
 induction ps with
 | nil =>
  intro as tm tm' t vs h hvs ht;cases as with
  | cons a as => simp [Zbb] at h
  | nil =>
   simp only [Zbb, Option.some.injEq] at h; subst h;simp only [cvs, Option.some.injEq] at hvs; subst hvs;exact ⟨rfl, by simpa using ht⟩
 | cons p ps ih =>
  intro as tm tm' t vs h hvs ht;cases as with
  | nil => simp [Zbb] at h
  | cons a as =>
   obtain ⟨y, z, hy, hz, rfl⟩ := Zap hvs;simp only [Zbb, Zaw] at h;cases hb : Nat.blt p n with
   | false => rw [hb] at h; cases h
   | true =>
    rw [hb] at h; simp only [cond_true] at h;obtain ⟨h1, h2⟩ := ih as _ tm' _ z h hz (ht.set (ZaF hb) hy);refine ⟨by simp [h1], ?_⟩
    simpa using h2
theorem ZbB {w : World} {l : Nat} {r : Loop} (h : w.heap[l]? = some (.loop r)) : (Instr.getLoop l).run P w = .ok r w := by
 simp [Instr.getLoop, getObj, Sem.run, h]
theorem Zc0 {w : World} {l : Nat} {r r' : Loop} (h : w.heap[l]? = some (.loop r)) : (setObj l (.loop r')).run P w = .ok () { w with heap := w.heap.setIfInBounds l (.loop r') } := by
 simp [setObj, Sem.run, h]
theorem Zb0 {NG : Nat} {L : Zag} {e : Env} {H : AHeap} {w : World} (hH : HR NG e L H.objs.get H.next w) {l : Nat} {x : Nat × Nat} (hx : e.f l = some x) {st st' : LoopState} {pend pend' : Option XE} {fn : FuncId} {fr : Fr} {ps : List Tmp} {d : Nat}
 (hob : H.objs.get l = some (.loop st pend fn fr ps d)) :
 ∃ r : Loop, w.heap[x.1]? = some (.loop r) ∧ r.state = st ∧ r.pending = pend.map XE.toCode ∧ r.fn = fn ∧ r.params = ps.toArray ∧ (∃ asg body, Zec L l = some (asg, body) ∧ r.assign = asg ∧ r.body = body) ∧ Zia e fr.tm fr.n r.tmps ∧ (∃ xd, e.f d = some xd ∧ r.defers = xd.1) ∧
  HR NG e L (H.set l (some (.loop st' pend' fn fr ps d))).objs.get H.next { w with heap := w.heap.setIfInBounds x.1 (.loop { r with state := st', pending := pend'.map XE.toCode }) } ∧
  Tran e H.objs.get H.next w e (H.set l (some (.loop st' pend' fn fr ps d))).objs.get H.next { w with heap := w.heap.setIfInBounds x.1 (.loop { r with state := st', pending := pend'.map XE.toCode }) } := by
 obtain ⟨x', hx', hO⟩ := hH.live l _ hob;rw [hx] at hx'; cases hx';have hlt := hO.lt;obtain ⟨asg, body, xd, t, h1, h2, h3, h4⟩ := hO;have hsame : ∀ (r' : Loop) (B : Nat), B ≠ x.1 → (w.heap.setIfInBounds x.1 (.loop r'))[B]? = w.heap[B]? := fun r' B hB => Array.getElem?_setIfInBounds_ne (fun h => hB h.symm)
 have hset : (H.set l (some (.loop st' pend' fn fr ps d))).objs.get = X.upd H.objs.get l (some (.loop st' pend' fn fr ps d)) := by show (H.objs.set l _).get = _; rw [Zad]
 refine ⟨_, h3, rfl, rfl, rfl, rfl, ⟨asg, body, h1, rfl, rfl⟩, h4, ⟨xd, h2, rfl⟩, ?_, ?_⟩
 ·rw [hset];exact hH.upd hob hx (hsame _) ⟨asg, body, xd, t, h1, h2, by simp [hlt], h4⟩
 ·rw [hset];exact Tran.upd hob hx rfl rfl (hsame _) (by simp) rfl rfl rfl
include hR in
theorem Zne {L : Zag} {l : Nat} {args : List AV} {H : AHeap} {outs : List (AV × AHeap)} (h : Zlh R L l args H (H.objs.get l) (Zec L l) = some outs)
 {e : Env} {w : World} {vs : List Value} {x : Nat × Nat} (hx : e.f l = some x) (hvs : cvs e args = some vs) (hH : HR P.globals.size e L H.objs.get H.next w) :
 ZlM P (.func (.yield x.1) #[] #[]) vs.toArray w (ZaZ P.globals.size L e H w outs) := by
 unfold Zlh at h
 split at h
 ·rename_i pend fn fr ps d c hob hlk;obtain ⟨asg, body⟩ := c;simp only at h;obtain ⟨r, hr0, hr1, hr2, hr3, hr4, ⟨asg', body', hlk', hr5, hr6⟩, hr7, _⟩ := Zb0 (st' := .ready) (pend' := none) hH hx hob;rw [hlk] at hlk'; cases hlk';cases hsp : Zbb fr.n ps args fr.tm with
  | none => rw [hsp] at h; simp [Zlg] at h
  | some tm =>
   rw [hsp] at h;simp only [Zlg] at h;obtain ⟨l1, hl1⟩ := Za3 h;rw [hl1] at h;obtain ⟨hplen, htm⟩ := Zhi ps args fr.tm tm r.tmps vs hsp hvs hr7;have hzip : ((r.params.zip vs.toArray).foldl (fun tmps (p : Tmp × Value) => tmps.setIfInBounds p.1 p.2) r.tmps) = (ps.zip vs).foldl (fun tmps (p : Tmp × Value) => tmps.setIfInBounds p.1 p.2) r.tmps := by
    rw [← Array.foldl_toList, Array.toList_zip, hr4]
   refine ⟨.round x.1 fn ((ps.zip vs).foldl (fun tmps (p : Tmp × Value) => tmps.setIfInBounds p.1 p.2) r.tmps) asg body, w, ?_, ?_⟩
   ·have hsz : ¬ (vs.toArray.size ≠ r.params.size) := by rw [hr4]; simp [hplen]
    have : (do let d ← Deferred.ofValue (.func (.yield x.1) #[] #[]) vs.toArray; invoke d.target d.args : Sem Next).run P w = (Instr.yield x.1 vs.toArray).run P w := by simp [Deferred.ofValue, invoke]
    rw [this];simp only [Instr.yield, Sem.run_bind, ZbB hr0, Result.andThen_ok, if_neg hsz, Sem.run_pure, hr3, hr5, hr6];exact congrArg (fun t => Result.ok (Next.round x.1 fn t asg body) w) hzip
   ·intro c cs
    let b : Frame := { (default : Frame) with fn := fn, kind := .normal, roundOf := some x.1 }
    have hb0 : Frame.round x.1 fn ((ps.zip vs).foldl (fun tmps (p : Tmp × Value) => tmps.setIfInBounds p.1 p.2) r.tmps) asg body .normal = b.atR { tmps := (ps.zip vs).foldl (fun tmps (p : Tmp × Value) => tmps.setIfInBounds p.1 p.2) r.tmps, defers := [] } [.code asg, .beginRound, .code body] := by
     simp [Frame.round, Frame.atR, b]
    rw [hb0];obtain ⟨x1, a1, w1, ⟨fr1, H1, e1, hm1, hF1, hH1, hT1⟩, harr1⟩ := hR.code _ _ _ _ _ _ _ hl1 e { tmps := (ps.zip vs).foldl (fun tmps (p : Tmp × Value) => tmps.setIfInBounds p.1 p.2) r.tmps, defers := [] } w (some x.1) ⟨htm, rfl⟩ hH ⟨x, hx, rfl⟩ b [.beginRound, .code body] (c :: cs) rfl rfl rfl
    obtain ⟨o1, ho1, hsub1⟩ := Zbd h _ hm1;cases x1 with
    | exit id => simp [Zdc] at ho1
    | ret => simp [Zdc] at ho1
    | normal =>
     simp only [Zdc] at ho1;unfold Zfj at ho1
     split at ho1
     ·rename_i pend1 fn1 fr1' ps1 d1 hob1;obtain ⟨l2, hl2⟩ := Za3 ho1;rw [hl2] at ho1;have hx1 : e1.f l = some x := hT1.le.1 _ _ hx;obtain ⟨r1, q0, q1, q2, q3, q4, q5, q6, q7, hHb, hTb⟩ := Zb0 (st' := .busy) (pend' := pend1) hH1 hx1 hob1;have hbegin : (Instr.beginRound x.1).run P w1 = .ok () { w1 with heap := w1.heap.setIfInBounds x.1 (.loop { r1 with state := .busy, pending := pend1.map XE.toCode }) } := by
       have hpe : ({ r1 with state := .busy, pending := pend1.map XE.toCode } : Loop) = { r1 with state := .busy } := by rw [← q2]
       rw [hpe];simp only [Instr.beginRound, Sem.run_bind, ZbB q0, Result.andThen_ok, Zc0 q0, q1, Sem.run_pure]
      have s1 := stepR_beginRound (P := P) (b := b) (a := a1) (k := [.code body]) (cs := c :: cs) rfl hbegin;obtain ⟨x2, a2, w2, ⟨fr2, H2, e2, hm2, hF2, hH2, hT2⟩, harr2⟩ := hR.code _ _ _ _ _ _ _ hl2 e1 a1 _ (some x.1) hF1 hHb ⟨x, hx1, rfl⟩ b [] (c :: cs) rfl rfl rfl;obtain ⟨o2, ho2, hsub2⟩ := Zbd ho1 _ hm2;have hx2 : e2.f l = some x := hT2.le.1 _ _ hx1;have fin : ∀ (jump : Option XE) (bv : Bool) (H3 : AHeap), Zf2 H2 l (if jump.isNone then .ready else .done) jump = some H3 → bv = jump.isNone → (.bool bv, H3) ∈ o2 →
       ∃ w3, (Instr.endRound x.1 (jump.map XE.toCode)).run P w2 = .ok (.bool bv) w3 ∧ ZaZ P.globals.size L e H w outs (.bool bv) w3 := by
       intro jump bv H3 hs3 hbv hmem;unfold Zf2 at hs3
       split at hs3
       ·rename_i st2 pend2 fn2 fr2' ps2 d2 hob2;simp only [Option.some.injEq] at hs3; subst hs3;obtain ⟨r2, p0, p1, p2, p3, p4, p5, p6, p7, hH3, hT3⟩ := Zb0 (st' := if jump.isNone then .ready else .done) (pend' := jump) hH2 hx2 hob2
        refine ⟨_, ?_, .bool bv, _, hsub1 _ (hsub2 _ hmem), e2, rfl, hH3, (hT1.trans (hTb.trans hT2)).trans hT3⟩;simp only [Instr.endRound, Sem.run_bind, ZbB p0, Result.andThen_ok, Option.isNone_map, Zc0 p0, Sem.run_pure, hbv]
       ·cases hs3
      have hs12 : Steps P (lone (b.atR { tmps := (ps.zip vs).foldl (fun tmps (p : Tmp × Value) => tmps.setIfInBounds p.1 p.2) r.tmps, defers := [] } [.code asg, .beginRound, .code body]) (c :: cs) w) (lone (b.atR a1 [.code body]) (c :: cs) { w1 with heap := w1.heap.setIfInBounds x.1 (.loop { r1 with state := .busy, pending := pend1.map XE.toCode }) }) :=
       Steps.trans harr1 (.one s1)
      cases x2 with
      | normal =>
       simp only [Zdb, Option.map_eq_some_iff] at ho2;obtain ⟨H3, hs3, rfl⟩ := ho2;obtain ⟨w3, hrun, hv⟩ := fin none true H3 hs3 rfl (by simp)
       exact ⟨.bool true, w3, hv, Steps.trans hs12 (Steps.trans harr2 (.one (stepR_round_end rfl rfl hrun)))⟩
      | ret =>
       simp only [Zdb, Option.map_eq_some_iff] at ho2;obtain ⟨H3, hs3, rfl⟩ := ho2;obtain ⟨w3, hrun, hv⟩ := fin (some .ret) false H3 hs3 rfl (by simp)
       obtain ⟨t, h2⟩ := harr2;exact ⟨.bool false, w3, hv, Steps.trans hs12 (Steps.trans h2 (.one (stepR_round_ret rfl rfl hrun)))⟩
      | exit id =>
       simp only [Zdb, Option.map_eq_some_iff] at ho2;obtain ⟨H3, hs3, rfl⟩ := ho2;obtain ⟨w3, hrun, hv⟩ := fin (some (.exit id)) false H3 hs3 rfl (by simp)
       obtain ⟨t, h1, h2⟩ := harr2;exact ⟨.bool false, w3, hv, Steps.trans hs12 (Steps.trans h2 (.one (stepR_round_exit rfl rfl h1 hrun)))⟩
     ·cases ho1
 ·cases h
include ok okf hR in
theorem Zih (hM : Zig P X) (hMe : Zen P X) {L : Zag} {fv : AV} {args : List AV} {H : AHeap} {outs : List (AV × AHeap)} (h : Zej X R L fv args H = some outs) {e : Env} {w : World} {vf : Value} {vs : List Value}
 (hf : cv e fv = some vf) (hvs : cvs e args = some vs) (hH : HR P.globals.size e L H.objs.get H.next w) : ZlM P vf vs.toArray w (ZaZ P.globals.size L e H w outs) := by
 unfold Zej at h
 split at h
 ·rename_i f first captured
  obtain ⟨v1, v3, h1, h3, rfl⟩ := Zg5 hf;obtain ⟨n, hr, hn, _⟩ := Zhh ok okf hR hM hMe h h1 hvs h3 hH;exact ⟨n, w, hr, hn⟩
 ·rename_i l;obtain ⟨x, hx, rfl⟩ := ZeE hf;exact Zne hR h hx hvs hH
 ·cases h
end
end
end Go.X
