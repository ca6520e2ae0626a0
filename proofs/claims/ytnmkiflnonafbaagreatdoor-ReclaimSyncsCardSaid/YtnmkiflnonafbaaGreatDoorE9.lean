/- Calls of functions; rounds; ranges over functions. -/
import Derived.Lib.Bytealg
import Derived.Test.YtnmkiflnonafbaaGreatDoorE8
import Derived.Laws.Externs
import Derived.Laws.StandIn
import Derived.Recover
set_option linter.unusedVariables false
namespace Go.X
noncomputable section
set_option linter.unusedSectionVars false
def ExtOk (P : Program) (fn : Func) : Ext → Prop
 | .noEscape => Extern.findNext fn = none ∧ Extern.find fn = some Extern.AbiNoEscape.same
 | .count => Extern.findNext fn = none ∧ Extern.find fn = some Extern.BytealgCount.count
 | .mapClone => Extern.findNext fn = none ∧ Extern.find fn = some Extern.MapsClone.clone
 | .noZero el => Extern.findNext fn = none ∧ ∃ t, fn.resultTypes[0]? = some t ∧ P.underlying t = some (.slice el) ∧
  Extern.find fn = some (Extern.BytealgMakeNoZero.makeNoZero fn.params fn.resultTypes)
 | .indexByte => Extern.findNext fn = none ∧ Extern.find fn = some Extern.BytealgIndexByte.indexByte
 | .overlaps es => Extern.findNext fn = none ∧ ∃ t el i, fn.params[0]? = some t ∧ P.underlying t = some (.slice el) ∧ P.info? el = some i ∧ i.size = es ∧
  Extern.find fn = some (Extern.SlicesOverlaps.overlaps fn.params fn.resultTypes)
structure FnOk (P : Program) (X : XP) : Prop where
 fns : ∀ f fn, X.fns.get f = some fn → P.funcs[f]? = some fn ∧ (fn.name == "runtime.NumGoroutine") = false
 ext : ∀ f fn x, X.fns.get f = some fn → fn.body = none → X.ext.get f = some x → ExtOk P fn x
section
variable {P : Program} {X : XP} (ok : XPok P X) (okf : FnOk P X) {R : Rec} (hR : RecOk P (gp P X) R)
theorem callFunc_enter {f : FuncId} {fn : Func} (hf : P.funcs[f]? = some fn) (hname : (fn.name == "runtime.NumGoroutine") = false) {c : Code} (hb : fn.body = some c) {args : Array Value} {w : World} : (callFunc f args).run P w = .ok (.enter f args) w := by
 have hname' : ¬ (fn.name = "runtime.NumGoroutine") := by simpa using hname
 simp [callFunc, hf, hname', hb]
def RecIs (cs cs' : List Frame) (y : Value) : Prop := recoverD cs = some (y, cs') ∨ (recoverD cs = none ∧ y = .nilIface ∧ cs' = cs)
theorem isRec_run {op : Op} (h : isRec op = true) {o : Oper} (ho : o.op = op) {ρ : Operand → Value} {w : World} : (execOp ρ o).run P w = .ok .recover w ∧ ∀ c, o.op ≠ .defer c := by
 cases op with
 | call c =>
  obtain ⟨callee, args, ts⟩ := c;cases callee with
  | builtin b =>
   cases b with
   | recover =>
    refine ⟨?_, fun c hc => by rw [ho] at hc; cases hc⟩
    simp [execOp, ho, resolve, invoke, builtin]
   | _ => simp [isRec, isRecC, isRecB] at h
  | _ => simp [isRec, isRecC] at h
 | _ => simp [isRec] at h
include ok hR in
theorem regD_ok {L : Loops} {ops : Array Oper} {fr : Fr} {H : AHeap} {rv : AV} {outs : List (XE × Fr × AHeap)} (h : regD X R L ops.toList fr H rv ops.toList = some outs)
 {e : Env} {a : Act} {w : World} (hF : FR e fr a) (hH : HR (gp P X) e L H.objs.get H.next w) {y : Value} (hy : cv e rv = some y) {cs cs' : List Frame} (hr : RecIs cs cs' y) (b : Frame) (k : List Item) (hk : b.kind = .deferred) (hb : b.roundOf = none) :
 ∃ x a' w', CodeOut (gp P X) L e H w outs x a' w' ∧ Arr P (lone (b.atR a (.inRegion ops (List.range ops.size) :: k)) cs w) b k cs' x a' w' := by
 cases hops : ops.toList with
 | nil => rw [hops] at h; simp [regD] at h
 | cons o os =>
  have h0 : ops[0]? = some o := by
   have : ops.toList[0]? = some o := by rw [hops]; rfl
   simpa using this
  have hd : ops.toList.drop 1 = os := by rw [hops]; rfl
  have hlen : ops.size = os.length + 1 := by rw [← Array.length_toList, hops]; rfl
  have hrange : List.range ops.size = 0 :: List.range' 1 os.length := by rw [hlen, List.range_eq_range', List.range'_succ]
  rw [hrange];have h' : (bif isRec o.op && o.guard.isNone then runOps X R none L ops.toList os (fr.put o.dst rv) H else none) = some outs := by
   rw [hops] at h ⊢;simpa only [regD, brec] using h
  cases hc : (isRec o.op && o.guard.isNone) with
  | false => rw [hc] at h'; cases h'
  | true =>
   rw [hc] at h'; simp only [cond_true] at h';simp only [Bool.and_eq_true] at hc;obtain ⟨hrun, hnd⟩ := isRec_run (P := P) hc.1 rfl (o := o) (ρ := a.eval) (w := w);have hw : Region.wanted o (yielded ops a.tmps) = true := by
    unfold Region.wanted;cases hg : o.guard with
    | none => rfl
    | some q => rw [hg] at hc; cases hc.2
   have hg := stepGR_op (P := P) (b := b) (k := k) (cs := cs) (w := w) (rest := List.range' 1 os.length) h0 hw;rw [Oper.semAt_eq _ _ _ hnd] at hg;have hfin : ∀ v, (b.atR a (.inRegion ops (0 :: List.range' 1 os.length) :: k)).finish v = b.atR (a.put o.dst v) (.inRegion ops (List.range' 1 os.length) :: k) := by
    intro v; rw [Frame.finish_atR, h0]; rfl
   have hkk : (b.atR a (.inRegion ops (0 :: List.range' 1 os.length) :: k)).kind = .deferred := hk;have htr := tryRecover_deferred hkk cs;have hst : step P (lone (b.atR a (.inRegion ops (0 :: List.range' 1 os.length) :: k)) cs w) = .next (lone (b.atR (a.put o.dst y) (.inRegion ops (List.range' 1 os.length) :: k)) cs' w) := by
    refine step_lone_go ?_;rw [hg, ← hfin];have hro : (b.atR a (.inRegion ops (0 :: List.range' 1 os.length) :: k)).roundOf = none := hb;rcases hr with hr | ⟨hr, rfl, rfl⟩
    ·rw [hr] at htr;simp only [stepG.apply, Sem.runT_eq, hrun, GStep.bare_after, if_true, hro, htr, GStep.bare_go]
    ·rw [hr] at htr;simp only [stepG.apply, Sem.runT_eq, hrun, GStep.bare_after, if_true, hro, htr, GStep.bare_go]
   obtain ⟨x, a', w', hout, harr⟩ := runOps_ok ok hR (rd := none) (ro := none) os 1 hd _ _ _ h' e (a.put o.dst y) w (hF.put o.dst hy) hH rfl b k cs' hb;exact ⟨x, a', w', hout, .of_steps (.one hst) harr⟩
include ok hR in
theorem codeD_ok {L : Loops} {fid : FuncId} {rv : AV} {y : Value} : ∀ (c : Code) (fr : Fr) (H : AHeap) (outs : List (XE × Fr × AHeap)), codeD X R L fid fr H rv c = some outs →
 ∀ (e : Env) (a : Act) (w : World), FR e fr a → HR (gp P X) e L H.objs.get H.next w → cv e rv = some y → ∀ (cs cs' : List Frame), RecIs cs cs' y → ∀ (b : Frame) (k : List Item), b.fn = fid → b.kind = .deferred → b.roundOf = none →
 ∃ x a' w', CodeOut (gp P X) L e H w outs x a' w' ∧ Arr P (lone (b.atR a (.code c :: k)) cs w) b k cs' x a' w' := by
 intro c
 induction c with
 | seq c1 c2 ih _ =>
  intro fr H outs h e a w hF hH hy cs cs' hr b k hb1 hb2 hb3;simp only [codeD] at h;obtain ⟨l, hl, hb⟩ := seqA_some h;obtain ⟨x, a1, w1, ⟨fr1, H1, e1, hm, hF1, hH1, hT1⟩, harr⟩ := ih fr H l hl e a w hF hH hy cs cs' hr b (.code c2 :: k) hb1 hb2 hb3;rcases bindX_mem hb x fr1 H1 hm with ⟨rfl, o, ho, hsub⟩ | ⟨hx, hm'⟩
  ·obtain ⟨x2, a2, w2, hout, harr2⟩ := hR.code _ _ _ _ _ _ _ ho e1 a1 w1 none hF1 hH1 rfl b k cs' hb1 hb3;exact ⟨x2, a2, w2, hout.trans hT1 hsub, .of_steps (.head stepR_seq harr) harr2⟩
  ·exact ⟨x, a1, w1, ⟨fr1, H1, e1, hm', hF1, hH1, hT1⟩, .of_steps (.one stepR_seq) (.pass (fun _ => rfl) hx harr)⟩
 | region id ops d =>
  intro fr H outs h e a w hF hH hy cs cs' hr b k hb1 hb2 hb3;simp only [codeD, brec] at h;cases d with
  | true => cases h
  | false =>
   simp only [cond_false] at h;obtain ⟨x, a', w', hout, harr⟩ := regD_ok ok hR h hF hH hy hr b k hb2 hb3;exact ⟨x, a', w', hout, .of_steps (.one stepR_region) harr⟩
 | _ => intro fr H outs h; simp [codeD] at h
theorem results_none {fn : Func} (h : fn.results.isEmpty = true) (tmps : Array Value) (w : World) : (results fn tmps).run P w = .ok Go.undef w := by
 have h0 : fn.results = #[] := by simpa using h
 unfold results;rw [h0];simp [Go.undef]
include ok okf hR in
theorem callD_ok {L : Loops} {f : FuncId} {as : List AV} {rv : AV} {H : AHeap} {outs : List (AV × AHeap)} (h : callD X R L f as rv H (X.fns.get f) = some outs) {e : Env} {w : World} {vs : List Value} (hvs : cvs e as = some vs)
 (hH : HR (gp P X) e L H.objs.get H.next w) {y : Value} (hy : cv e rv = some y) {c0 c1 : Frame} {cs : List Frame} (hr : RecIs (c0 :: cs) (c1 :: cs) y) :
 ∃ fn c, P.funcs[f]? = some fn ∧ (fn.name == "runtime.NumGoroutine") = false ∧ fn.body = some c ∧ ∃ v H' e' w' frX, (v, H') ∈ outs ∧ HR (gp P X) e' L H'.objs.get H'.next w' ∧ Tran e H.objs.get H.next w e' H'.objs.get H'.next w' ∧
  Steps P (lone (Frame.enter P f vs.toArray .deferred) (c0 :: cs) w) (lone frX (c1 :: cs) w') ∧ frX.kind = .deferred ∧ frX.going P w' (.returned Go.undef) := by
 cases hfn : X.fns.get f with
 | none => rw [hfn] at h; simp [callD] at h
 | some fn =>
  rw [hfn] at h;simp only [callD] at h;obtain ⟨hf, hname⟩ := okf.fns f fn hfn;cases hb : fn.body with
  | none => rw [hb] at h; simp [callD3] at h
  | some c =>
   rw [hb] at h;simp only [callD3] at h;obtain ⟨l, hl⟩ := bindOuts_some h;rw [hl] at h;refine ⟨fn, c, hf, hname, hb, ?_⟩
   let b : Frame := { (default : Frame) with fn := f, kind := .deferred, roundOf := none }
   have henter : Frame.enter P f vs.toArray .deferred = b.atR { tmps := vs.toArray ++ Array.replicate (fn.ntmps - vs.toArray.size) Go.undef, defers := [] } [.code c] := by
    simp [Frame.enter, Frame.atR, hf, hb, b]
   have hF0 : FR e ⟨argTm 0 as .nil, Nat.max as.length fn.ntmps, []⟩ { tmps := vs.toArray ++ Array.replicate (fn.ntmps - vs.toArray.size) Go.undef, defers := [] } := ⟨argTm_ok hvs _, rfl⟩;obtain ⟨x, a1, w1, ⟨fr1, H1, e1, hm, hF1, hH1, hT1⟩, harr⟩ := codeD_ok ok hR c _ _ _ hl e _ w hF0 hH hy (c0 :: cs) (c1 :: cs) hr b [] rfl rfl rfl;rw [← henter] at harr;obtain ⟨o, ho, hsub⟩ := bindOuts_mem h _ hm;have fin : ∀ (todo : List Item), fr1.defs = [] → (bif fn.results.isEmpty then some [(AV.undef, H1)] else none) = some o → Steps P (lone (Frame.enter P f vs.toArray .deferred) (c0 :: cs) w) (lone { b.atR a1 todo with mode := .returning } (c1 :: cs) w1) →
    ∃ v H' e' w' frX, (v, H') ∈ outs ∧ HR (gp P X) e' L H'.objs.get H'.next w' ∧ Tran e H.objs.get H.next w e' H'.objs.get H'.next w' ∧
     Steps P (lone (Frame.enter P f vs.toArray .deferred) (c0 :: cs) w) (lone frX (c1 :: cs) w') ∧ frX.kind = .deferred ∧ frX.going P w' (.returned Go.undef) := by
    intro todo hds ho hs;cases hre : fn.results.isEmpty with
    | false => rw [hre] at ho; cases ho
    | true =>
     rw [hre] at ho; simp only [cond_true, Option.some.injEq] at ho; subst ho;have hdd := hF1.defs;rw [hds] at hdd;simp only [defsC, Option.some.injEq] at hdd;exact ⟨.undef, H1, e1, w1, _, hsub _ (by simp), hH1, hT1, hs, rfl, rfl, hdd.symm, fn, hf, results_none hre _ _⟩
   obtain ⟨tm1, n1, ds1⟩ := fr1;cases ds1 with
   | cons d ds => cases x <;> simp [leaveC] at ho
   | nil =>
    cases x with
    | normal => exact fin [] rfl (by simpa only [leaveC, brec] using ho) (Steps.trans harr (.one (stepR_end rfl)))
    | ret => obtain ⟨t, h2⟩ := harr; exact fin _ rfl (by simpa only [leaveC, brec] using ho) (Steps.trans h2 (.one (stepR_ret rfl)))
    | exit id => simp [leaveC] at ho
    | pan v => simp [leaveC] at ho
def ModeIs : Option AV → FrameMode → Prop
 | none, u => u = .returning
 | some v, u => ∃ y, v.closed = true ∧ cv eNil v = some y ∧ u = .panicking (panE y)
theorem ModeIs.ne {m : Option AV} {u : FrameMode} (h : ModeIs m u) : u ≠ .run := by
 cases m with
 | none => cases h; simp
 | some v => obtain ⟨y, _, _, rfl⟩ := h; simp
include ok okf hR in
theorem leaveD_ok {L : Loops} {fn : Func} {fr : Fr} : ∀ (ds : List DF) (m : Option AV) (H : AHeap) (outs : List (AV × AHeap)), leaveD X R L fn fr ds m H = some outs →
 ∀ (e : Env) (w : World) (F : Frame) (cs : List Frame), ModeIs m F.mode → defsC e ds = some F.defers → TmOk e fr.tm fr.n F.tmps → F.kind = .normal → P.funcs[F.fn]? = some fn → HR (gp P X) e L H.objs.get H.next w →
  ∃ en w' F', ValOut (gp P X) L e H w outs en w' ∧ en ≠ .outgrown ∧ Steps P (lone F cs w) (lone F' cs w') ∧ F'.fn = F.fn ∧ F'.leaving P w' en := by
 intro ds
 induction ds with
 | nil =>
  intro m H outs h e w F cs hm hd hT hk hf hH;simp only [defsC, Option.some.injEq] at hd;cases m with
  | none =>
   simp only [leaveD] at h;obtain ⟨v, y, rfl, hy, hres⟩ := results_ok (a := { tmps := F.tmps, defers := [] }) ok hT hH h;exact ⟨.returned y, w, F, ⟨v, H, by simp, e, endR_ret hy, hH, Tran.refl _ _ _ _⟩, by simp, .refl _ _, rfl, hm, hd.symm, hk, fn, hf, hres⟩
  | some v =>
   simp only [leaveD, Option.some.injEq] at h; subst h;obtain ⟨y, hc, hy, hmode⟩ := hm;exact ⟨.panicked (panE y), w, F, ⟨.pan v, H, by simp, e, ⟨y, hc, by rw [closed_cv e eNil v hc]; exact hy, rfl⟩, hH, Tran.refl _ _ _ _⟩, by simp, .refl _ _, rfl, hmode, hd.symm, fn, hf⟩
 | cons d ds ih =>
  intro m H outs h e w F cs hm hd hT hk hf hH;simp only [defsC] at hd;cases hD : dfC e d with
  | none => rw [hD] at hd; cases hd
  | some D =>
   cases hr : defsC e ds with
   | none => rw [hD, hr] at hd; cases hd
   | some r =>
    rw [hD, hr] at hd; simp only [Option.some.injEq] at hd;cases d with
    | coll d =>
     simp only [leaveD] at h
     split at h
     ·rename_i hob;simp only [dfC] at hD;cases hx : e.f d with
      | none => rw [hx] at hD; cases hD
      | some x =>
       rw [hx] at hD; simp only [Option.some.injEq] at hD; subst hD;obtain ⟨x', hx', hO⟩ := hH.live d _ hob;rw [hx] at hx'; cases hx';simp only [ObjR, if_true] at hO;have hst := step_collected (P := P) (cs := cs) hm.ne hd.symm hO;have hsame : ∀ B, B ≠ x.1 → (w.heap.setIfInBounds x.1 (.deferred none))[B]? = w.heap[B]? := fun B hB => Array.getElem?_setIfInBounds_ne (fun h => hB h.symm)
       have hset : (H.set d none).objs.get = Go.X.upd H.objs.get d none := by show (H.objs.set d none).get = _; rw [get_set_upd]
       obtain ⟨en, w', F', ⟨v, H', hmem, e', g1, g2, g3⟩, h2, h3, h4, h5⟩ := ih m (H.set d none) outs h e { w with heap := w.heap.setIfInBounds x.1 (.deferred none) } { F with defers := r } cs hm hr hT hk hf (by rw [hset]; exact hH.dropWrite hob hx rfl hsame)
       have hTr : Tran e H.objs.get H.next w e (H.set d none).objs.get H.next { w with heap := w.heap.setIfInBounds x.1 (.deferred none) } := by
        rw [hset]; exact Tran.dropWrite hob hx rfl hsame (by simp) rfl rfl rfl
       exact ⟨en, w', F', ⟨v, H', hmem, e', g1, g2, hTr.trans g3⟩, h2, .head hst h3, h4, h5⟩
     ·cases h
    | cl f fs cp =>
     simp only [leaveD] at h;obtain ⟨l, hl⟩ := bindOuts_some h;rw [hl] at h;simp only [dfC] at hD;cases ha : cvs e fs with
     | none => rw [ha] at hD; cases hD
     | some va =>
      cases hb : cvs e cp with
      | none => rw [ha, hb] at hD; cases hD
      | some vb =>
       rw [ha, hb] at hD; simp only [Option.some.injEq] at hD; subst hD;have hrec : ∃ y u', cv e (recVal m) = some y ∧ RecIs ({ F with defers := r } :: cs) ({ { F with defers := r } with mode := u' } :: cs) y ∧ settle u' = .returning := by
        cases m with
        | none =>
         have hm' : F.mode = .returning := hm;refine ⟨.nilIface, .returning, rfl, .inr ⟨?_, rfl, ?_⟩, rfl⟩
         ·simp [recoverD, hm']
         ·rw [← hm']
        | some v =>
         obtain ⟨y, hc, hy, hmode⟩ := hm;refine ⟨y, .panicking [{ v := y, recovered := true }], ?_, .inl ?_, ?_⟩
         ·show cv e v = some y;rw [closed_cv e eNil v hc]; exact hy
         ·simp [recoverD, hmode, panE]
         ·simp [settle]
       obtain ⟨y, u', hy, hri, hset⟩ := hrec;obtain ⟨fn', c, hf', hname, hbody, v, H1, e1, w1, frX, hmem, hH1, hT1, hs1, hk1, hgo⟩ := callD_ok ok okf hR hl (cvs_append ha hb) hH hy hri;have hinv : (invoke (.fn (.func f) vb.toArray) va.toArray).run P w = .ok (.enter f (va ++ vb).toArray) w := by
        have : va.toArray ++ vb.toArray = (va ++ vb).toArray := by simp
        simp only [invoke, this];exact callFunc_enter hf' hname hbody
       have s1 := step_defer (P := P) (cs := cs) hm.ne hd.symm rfl hinv;have s2 := step_going_returned (c := { { F with defers := r } with mode := u' }) (cs := cs) hk1 hgo
       obtain ⟨o, ho, hsub⟩ := bindOuts_mem h _ hmem;simp only at s2;rw [hset] at s2;obtain ⟨en, w', F', ⟨v', H', hmem', e', g1, g2, g3⟩, h2, h3, h4, h5⟩ := ih none H1 o ho e1 w1 { F with defers := r, mode := .returning } cs rfl (defsC_le hT1.le hr) (hT.le hT1.le) hk hf hH1
       exact ⟨en, w', F', ⟨v', H', hsub _ hmem', e', g1, g2, hT1.trans g3⟩, h2, .head s1 (Steps.trans hs1 (.head s2 h3)), h4, h5⟩
include ok okf hR in
theorem callBody_ok {L : Loops} {f : FuncId} {fn : Func} {as : List AV} {H : AHeap} {c : Code} {outs : List (AV × AHeap)} (h : callBody X R L f fn as H c = some outs) (hf : P.funcs[f]? = some fn) (hb : fn.body = some c)
 {e : Env} {w : World} {vs : List Value} (hvs : cvs e as = some vs) (hH : HR (gp P X) e L H.objs.get H.next w) :
 Calls P f vs.toArray w (fun en w' => en ≠ .outgrown ∧ ValOut (gp P X) L e H w outs en w') := by
 unfold callBody at h;obtain ⟨l, hl⟩ := bindOuts_some h;rw [hl] at h;intro cs
 let b : Frame := { (default : Frame) with fn := f, kind := .normal, roundOf := none }
 have henter : Frame.enter P f vs.toArray .normal = b.atR { tmps := vs.toArray ++ Array.replicate (fn.ntmps - vs.toArray.size) Go.undef, defers := [] } [.code c] := by
  simp [Frame.enter, Frame.atR, hf, hb, b]
 have hF0 : FR e ⟨argTm 0 as .nil, Nat.max as.length fn.ntmps, []⟩ { tmps := vs.toArray ++ Array.replicate (fn.ntmps - vs.toArray.size) Go.undef, defers := [] } := ⟨argTm_ok hvs _, rfl⟩;obtain ⟨x, a1, w1, ⟨fr1, H1, e1, hm, hF1, hH1, hT1⟩, harr⟩ := hR.code _ _ _ _ _ _ _ hl e _ w none hF0 hH rfl b [] cs rfl rfl;rw [← henter] at harr;obtain ⟨o, ho, hsub⟩ := bindOuts_mem h _ hm;have fin : ∀ (m : Option AV) (u : FrameMode) (todo : List Item), leaveD X R L fn fr1 fr1.defs m H1 = some o → ModeIs m u → Steps P (lone (Frame.enter P f vs.toArray .normal) cs w) (lone { b.atR a1 todo with mode := u } cs w1) →
  ∃ en w' fr, (en ≠ .outgrown ∧ ValOut (gp P X) L e H w outs en w') ∧ Comes P (lone (Frame.enter P f vs.toArray .normal) cs w) (lone fr cs w') en ∧ fr.fn = f ∧ fr.leaving P w' en := by
  intro m u todo hlv hmode hs;obtain ⟨en, w', F', ⟨v, H', hmem, e', g1, g2, g3⟩, h2, h3, h4, h5⟩ := leaveD_ok ok okf hR fr1.defs m H1 o hlv e1 w1 { b.atR a1 todo with mode := u } cs hmode hF1.defs hF1.tm rfl hf hH1
  refine ⟨en, w', F', ⟨h2, v, H', hsub _ hmem, e', g1, g2, hT1.trans g3⟩, ?_, h4, h5⟩;cases en with
  | returned y => exact Steps.trans hs h3
  | panicked ch => exact Steps.trans hs h3
  | outgrown => exact absurd rfl h2
 cases x with
 | normal => exact fin none .returning [] ho rfl (Steps.trans harr (.one (stepR_end rfl)))
 | ret => obtain ⟨t, h2⟩ := harr; exact fin none .returning _ ho rfl (Steps.trans h2 (.one (stepR_ret rfl)))
 | exit id => simp [leaveFn] at ho
 | pan v => obtain ⟨y, t, h1, h2, h3⟩ := harr; exact fin (some v) _ t ho ⟨y, h1, h2, rfl⟩ h3
theorem calls_runsTo {f : FuncId} {args : Array Value} {w : World} {Q : Ending → World → Prop} (h : Calls P f args w (fun en w' => en ≠ .outgrown ∧ Q en w')) : RunsTo P (Frame.enter P f args .normal) w Q := by
 intro c cs;obtain ⟨en, w', fr, ⟨hne, hq⟩, hc, _, hl⟩ := h (c :: cs);refine ⟨en, w', hq, hne, ?_⟩;cases en with
 | returned y => exact Steps.trans hc (.one (step_leave_returned hl))
 | panicked ch => exact Steps.trans hc (.one (step_leave_panicked hl))
 | outgrown => exact absurd rfl hne
theorem find_congr {α : Type} {p q : α → Bool} : ∀ {l : List α}, (∀ x ∈ l, p x = q x) → l.find? p = l.find? q := by
 intro l
 induction l with
 | nil => intro _; rfl
 | cons a l ih =>
  intro h;simp only [List.find?_cons, h a (by simp), ih (fun x hx => h x (by simp [hx]))]
theorem findB_of (c : Nat) (hc : c < 256) : ∀ (s : List Nat) (i : Nat), (∀ b ∈ s, b < 256) →
 (match findB c i s with | some j => (j : Int) | none => -1) = (match (List.range' i s.length).find? (fun j => (s.getD (j - i) 0) == c) with | some j => (j : Int) | none => -1) := by
 intro s
 induction s with
 | nil => intro i _; rfl
 | cons b s ih =>
  intro i hs;simp only [findB, brec, List.length_cons, List.range'_succ, List.find?_cons]
  by_cases hb : b = c
  ·rw [nbeq_t hb]; simp [hb]
  ·rw [nbeq_f hb];have : ((b :: s).getD (i - i) 0 == c) = false := by simp [hb]
   simp only [cond_false, this];rw [ih (i + 1) (fun x hx => hs x (by simp [hx]))]
   have : (List.range' (i + 1) s.length).find? (fun j => (s.getD (j - (i + 1)) 0) == c) = (List.range' (i + 1) s.length).find? (fun j => ((b :: s).getD (j - i) 0) == c) := by
    apply find_congr;intro j hj;have := List.mem_range'.1 hj;have hji : j - i = (j - (i + 1)) + 1 := by omega
    rw [hji]; simp
   rw [this]
theorem countB_eq {c : Nat} (hc : c < 256) : ∀ (s : List Nat) (n : Nat), (∀ b ∈ s, b < 256) → countB c n s = n + (s.map UInt8.ofNat).count (UInt8.ofNat c)
 | [], n, _ => rfl
 | b :: s, n, h => by
  have hb := h b (by simp)
  simp only [countB, brec, List.map_cons, List.count_cons];rw [countB_eq hc s _ (fun x hx => h x (by simp [hx]))]
  by_cases e : b = c
  ·subst e; rw [nbeq_t rfl]; simp; omega
  ·rw [nbeq_f e];have : (UInt8.ofNat b == UInt8.ofNat c) = false := beq_eq_false_iff_ne.2 fun hh => e (ofNat_inj hb hc hh)
   simp [this]
theorem digits_size : ∀ (n t : Nat) (acc : Array Value), (Extern.BytealgMakeNoZero.digits n t acc).size = acc.size + n
 | 0, _, _ => rfl
 | n + 1, t, acc => by
  simp only [Extern.BytealgMakeNoZero.digits];rw [digits_size n]; simp; omega
theorem extW_ok {fn : Func} {x : Ext} (hx : ExtOk P fn x) {L : Loops} {H : AHeap} {as : List AV} {v : AV} {H' : AHeap} (h : extW H x as = some (v, H')) {e : Env} {w : World} {vs : List Value} (hvs : cvs e as = some vs)
 (hH : HR (gp P X) e L H.objs.get H.next w) : ∃ y g e' w', cv e' v = some y ∧ Extern.findNext fn = none ∧ Extern.find fn = some g ∧ (g vs.toArray).run P w = .ok y w' ∧ HR (gp P X) e' L H'.objs.get H'.next w' ∧ Tran e H.objs.get H.next w e' H'.objs.get H'.next w' := by
 have hfree : e.f H.next = none := by
  cases hf : e.f H.next with
  | none => rfl
  | some x => exact absurd (hH.dom _ _ hf) (by omega)
 unfold extW at h
 split at h
 ·rename_i t b;obtain ⟨h1, h2⟩ := hx;obtain ⟨p, q, hp, hq, rfl⟩ := cvs_cons hvs;simp only [cvs, Option.some.injEq] at hq; subst hq;simp only [cv] at hp;cases hb : e.f b with
  | none => rw [hb] at hp; cases hp
  | some y =>
   rw [hb] at hp;simp only [Option.some.injEq] at hp; subst hp;unfold cloneA at h
   split at h
   ·rename_i es c hob;simp only [Option.some.injEq, Prod.mk.injEq] at h;obtain ⟨rfl, rfl⟩ := h;obtain ⟨y', hy', xs, g1, g2⟩ := hH.live _ _ hob;rw [hb] at hy'; cases hy';refine ⟨.iface t (.map (some w.heap.size)), _, e.ext H.next (w.heap.size, 0), { w with heap := w.heap.push (.map xs c) }, by simp only [cv, Env.ext_same], h1, h2, ?_, ?_, ?_⟩
    ·have : Extern.MapsClone.clone #[.iface t (.map (some y.1))] = (do
      let .map entries clock ← getObj y.1 | stuck "maps.clone: a map expected"
      pure (.iface t (.map (some (← newObj (.map entries clock)))))) := rfl
     rw [this];simp only [Sem.run_bind, getObj_at (P := P) w g1, Result.andThen_ok, run_newObj, Sem.run_pure]
    ·show HR _ _ L (H.objs.set H.next _).get (H.next + 1) _;rw [get_set_upd];exact HR.alloc (hH.bump (Nat.le_succ _)) hfree (Nat.lt_succ_self _) rfl ⟨xs, by simp, g2.le (Env.le_ext hfree _)⟩
    ·show Tran _ _ _ _ _ (H.objs.set H.next _).get (H.next + 1) _;rw [get_set_upd];exact Tran.alloc hfree (Nat.le_refl _) (Nat.le_succ _) rfl rfl rfl rfl rfl
   ·cases h
 ·rename_i el n;obtain ⟨h1, t, ht, hu, h2⟩ := hx;obtain ⟨p, q, hp, hq, rfl⟩ := cvs_cons hvs;simp only [cvs, Option.some.injEq] at hq; subst hq;cases cv_int hp;simp only [brec] at h;cases hc : Nat.blt n 1048576 with
  | false => rw [hc] at h; cases h
  | true =>
   rw [hc] at h; simp only [cond_true, Option.some.injEq, Prod.mk.injEq] at h;obtain ⟨rfl, rfl⟩ := h;have hn := nblt_of hc;have h3 : ¬ ((decide (Int.ofNat n < 0) || decide (Int.ofNat n > 2 ^ 48)) = true) := by simp; omega
   generalize hcap : n + w.tape w.drawn (.appendCap n 0 el) % (2 ^ 63 - n) = cap;have hle : n ≤ cap := by omega
   generalize hby : w.tape (w.drawn + 1) (.extern "internal/bytealg.MakeNoZero.bytes" 0) = by'
   refine ⟨.slice (some ⟨w.heap.size, 0, none⟩) n cap, _, e.ext H.next (w.heap.size, cap), { w with drawn := w.drawn + 2, heap := w.heap.push (.cells (Extern.BytealgMakeNoZero.digits cap by' #[]) el) }, by simp only [cv, Env.ext_same, Cap.val, Nat.sub_zero], h1, h2, ?_, ?_, ?_⟩
   ·have : Extern.BytealgMakeNoZero.makeNoZero fn.params fn.resultTypes #[.int .i64 (Int.ofNat n)] = (do
     let some t := fn.resultTypes[0]? | stuck "bytealg.MakeNoZero: no result type"
     let .slice elem ← underlying t | stuck "bytealg.MakeNoZero: slice type expected"
     if Int.ofNat n < 0 || Int.ofNat n > 2 ^ 48 then runtimePanic (.error "makeslice: len out of range")
     let cap ← choose (.appendCap (Int.ofNat n).toNat 0 elem)
     askRoom cap
     let bytes ← choose (.extern "internal/bytealg.MakeNoZero.bytes" 0)
     let a ← newRow elem (Extern.BytealgMakeNoZero.digits cap bytes #[])
     pure (.slice (some a) (Int.ofNat n).toNat cap)) := rfl
    show (Extern.BytealgMakeNoZero.makeNoZero fn.params fn.resultTypes #[.int .i64 (Int.ofNat n)]).run P w = _;rw [this];have hch1 : (choose (.appendCap (Int.ofNat n).toNat 0 el)).run P w = .ok cap { w with drawn := w.drawn + 1 } := by
     rw [run_choose, ← hcap]; rfl
    have hch2 : (choose (.extern "internal/bytealg.MakeNoZero.bytes" 0)).run P { w with drawn := w.drawn + 1 } = .ok by' { w with drawn := w.drawn + 2 } := by
     rw [run_choose, ← hby]; rfl
    simp only [ht, Sem.run_bind, run_underlying hu, Result.andThen_ok];rw [if_neg h3];simp only [Sem.run_bind, hch1, Result.andThen_ok, run_askRoom, hch2, newRow, run_newObj, Sem.run_pure];rfl
   ·show HR _ _ L (H.objs.set H.next _).get (H.next + 1) _;rw [get_set_upd];refine HR.alloc (hH.bump (Nat.le_succ _)) hfree (Nat.lt_succ_self _) rfl ⟨_, (0, 0), by simp [Env.elR]; rfl, fun _ => .inl rfl, ⟨by rw [digits_size]; simp, hle, fun _ h => by cases h⟩, fun i v hv => ?_⟩
    simp at hv
   ·show Tran _ _ _ _ _ (H.objs.set H.next _).get (H.next + 1) _;rw [get_set_upd];exact Tran.alloc hfree (Nat.le_refl _) (Nat.le_succ _) rfl rfl rfl rfl rfl
 ·cases h
theorem extA_ok {f : FuncId} {fn : Func} {x : Ext} (hx : ExtOk P fn x) {L : Loops} {H : AHeap} {as : List AV} {v : AV} (h : extA H x as = some v) {e : Env} {w : World} {vs : List Value} (hvs : cvs e as = some vs)
 (hH : HR (gp P X) e L H.objs.get H.next w) : ∃ y g, cv e v = some y ∧ Extern.findNext fn = none ∧ Extern.find fn = some g ∧ (g vs.toArray).run P w = .ok y w := by
 unfold extA at h
 split at h
 ·rename_i v';obtain ⟨h1, h2⟩ := hx;obtain ⟨p, q, hp, hq, rfl⟩ := cvs_cons hvs;simp only [cvs, Option.some.injEq] at hq; subst hq;simp only [Option.some.injEq] at h; subst h;exact ⟨p, _, hp, h1, h2, rfl⟩
 ·rename_i s c;obtain ⟨h1, h2⟩ := hx;obtain ⟨p, q, hp, hq, rfl⟩ := cvs_cons hvs;obtain ⟨p', q', hp', hq', rfl⟩ := cvs_cons hq;simp only [cvs, Option.some.injEq] at hq'; subst hq';obtain ⟨hs, rfl⟩ := cv_str hp;cases cv_int hp';simp only [brec] at h;cases hb : Nat.blt c 256 with
  | false => rw [hb] at h; cases h
  | true =>
   rw [hb] at h; simp only [cond_true, Option.some.injEq] at h; subst h;have hc := nblt_of hb;refine ⟨_, _, rfl, h1, h2, ?_⟩;have := Lib.run_countString (P := P) (bytesOf s) (Int.ofNat c) w;show (Extern.BytealgCount.count #[.string (bytesOf s), .int .u8 (Int.ofNat c)]).run P w = _;rw [this, countB_eq hc s 0 hs];simp [Lib.countByte, bytesOf]
 ·rename_i s c;obtain ⟨h1, h2⟩ := hx;obtain ⟨p, q, hp, hq, rfl⟩ := cvs_cons hvs;obtain ⟨p', q', hp', hq', rfl⟩ := cvs_cons hq;simp only [cvs, Option.some.injEq] at hq'; subst hq';obtain ⟨hs, rfl⟩ := cv_str hp;cases cv_int hp';simp only [brec] at h;cases hb : Nat.blt c 256 with
  | false => rw [hb] at h; cases h
  | true =>
   rw [hb] at h; simp only [cond_true, Option.some.injEq] at h; subst h;have hc := nblt_of hb;refine ⟨.int .i64 (match findB c 0 s with | some j => (j : Int) | none => -1), _, ?_, h1, h2, ?_⟩
   ·cases findB c 0 s <;> rfl
   ·rw [findB_of c hc s 0 hs];have hfind : (List.range (bytesOf s).size).find? (fun i => (bytesOf s)[i]! == UInt8.ofNat c) = (List.range' 0 s.length).find? (fun j => (s.getD (j - 0) 0) == c) := by
     rw [bytesOf_size, List.range_eq_range'];apply find_congr;intro j hj;have hj' := List.mem_range'.1 hj;have hjl : j < s.length := by omega
     have hget : (bytesOf s)[j]! = UInt8.ofNat s[j] := by
      have hsz : j < (bytesOf s).size := by rw [bytesOf_size]; exact hjl
      rw [getElem!_pos (bytesOf s) j hsz];show (bytesOf s).data[j]'hsz = _;simp [bytesOf]
     rw [hget];simp only [Nat.sub_zero, List.getD_eq_getElem?_getD, List.getElem?_eq_getElem hjl, Option.getD_some];have hsj := hs s[j] (List.getElem_mem hjl)
     by_cases he : s[j] = c
     ·rw [he]; simp
     ·have : (UInt8.ofNat s[j] == UInt8.ofNat c) = false := beq_eq_false_iff_ne.2 fun h => he (ofNat_inj hsj hc h)
      rw [this]; symm; exact beq_eq_false_iff_ne.2 he
    have hu : (Int.ofNat c).toNat.toUInt8 = UInt8.ofNat c := rfl;have hr := run_indexByte_string (P := P) (bytesOf s) (Int.ofNat c) w;rw [hu] at hr;show (Extern.BytealgIndexByte.indexByte #[.string (bytesOf s), .int .u8 (Int.ofNat c)]).run P w = _;rw [hr];unfold firstIdx;rw [hfind];generalize List.find? _ _ = r;cases r <;> rfl
 ·rename_i es b off n c b' off' n' c';obtain ⟨h1, t, el, inf, hp0, hu, hinf, hes, hfind⟩ := hx;obtain ⟨p, q, hp, hq, rfl⟩ := cvs_cons hvs;obtain ⟨p', q', hp', hq', rfl⟩ := cvs_cons hq;simp only [cvs, Option.some.injEq] at hq'; subst hq';obtain ⟨x1, hx1, rfl⟩ := cv_sl hp;obtain ⟨x2, hx2, rfl⟩ := cv_sl hp';have hsz : ∀ W : World, (sizeOf el).run P W = .ok es W := fun W => by simp [sizeOf, run_typeInfo' W hinf, hes]
  simp only [overlapA, brec] at h;cases hz : (Nat.beq n 0 || Nat.beq n' 0 || Nat.beq es 0) with
  | true =>
   rw [hz] at h; simp only [cond_true, Option.some.injEq] at h; subst h;refine ⟨_, _, rfl, h1, hfind, ?_⟩;show (Extern.SlicesOverlaps.overlaps _ _ _).run P w = _
   delta Extern.SlicesOverlaps.overlaps Extern.SlicesOverlaps.overlaps.match_4 Extern.SlicesOverlaps.overlaps._sparseCasesOn_4
   have h0 : n = 0 ∨ n' = 0 ∨ es = 0 := by
    simp only [Bool.or_eq_true] at hz;rcases hz with (h | h) | h
    ·exact .inl (nbeq_of h)
    ·exact .inr (.inl (nbeq_of h))
    ·exact .inr (.inr (nbeq_of h))
   simp [hp0, run_underlying hu, hsz, h0, Array.getLit]
  | false =>
   rw [hz] at h; simp only [cond_false] at h;have h0 : ¬ (n = 0 ∨ n' = 0 ∨ es = 0) := by
    rintro (h | h | h) <;> simp [h] at hz
   cases hbb : Nat.beq b b' with
   | true =>
    rw [hbb] at h; simp only [cond_true, Option.some.injEq] at h; subst h;obtain rfl := nbeq_of hbb;rw [hx1] at hx2; cases hx2;refine ⟨_, _, rfl, h1, hfind, ?_⟩;show (Extern.SlicesOverlaps.overlaps _ _ _).run P w = _
    delta Extern.SlicesOverlaps.overlaps Extern.SlicesOverlaps.overlaps.match_4 Extern.SlicesOverlaps.overlaps._sparseCasesOn_4
    simp [hp0, run_underlying hu, hsz, h0, Array.getLit, nblt_eq, frozen, Sem.run]
   | false =>
    rw [hbb] at h; simp only [cond_false] at h;have hne : b ≠ b' := fun he => by rw [nbeq_t he] at hbb; cases hbb
    unfold apartA at h
    split at h
    ·rename_i el1 sz1 cl1 el2 sz2 cl2 ho1 ho2;simp only [brec] at h;cases hpl : (sz1.plain && sz2.plain) with
     | false => rw [hpl] at h; cases h
     | true =>
     rw [hpl] at h; simp only [cond_true, Option.some.injEq] at h; subst h;simp only [Bool.and_eq_true] at hpl;obtain ⟨y1, hy1, c1, fz1, g1, g2, _⟩ := hH.live b _ ho1;obtain ⟨y2, hy2, c2, fz2, k1, k2, _⟩ := hH.live b' _ ho2;rw [hx1] at hy1; cases hy1;rw [hx2] at hy2; cases hy2;have hbl : x1.1 ≠ x2.1 := fun he => hne (hH.inj b b' _ _ _ _ ho1 ho2 (.inl rfl) hx1 hx2 he)
     have := (g2 rfl).plain hpl.1; subst this;have := (k2 rfl).plain hpl.2; subst this;have hnb : (x1.1 != x2.1) = true := by simpa using hbl
     have hnb' : (x1.1 == x2.1) = false := by simpa using hbl
     refine ⟨_, _, rfl, h1, hfind, ?_⟩;show (Extern.SlicesOverlaps.overlaps _ _ _).run P w = _
     delta Extern.SlicesOverlaps.overlaps Extern.SlicesOverlaps.overlaps.match_4 Extern.SlicesOverlaps.overlaps._sparseCasesOn_4
     simp [hp0, run_underlying hu, hsz, h0, Array.getLit, hnb', frozen, noView, viewAt, mayBeOne, stringish, shape, Sem.run, World.frozen?, World.shape?, g1, k1]
    ·cases h
 ·cases h
theorem callFunc_ext {f : FuncId} {fn : Func} (hf : P.funcs[f]? = some fn) (hname : (fn.name == "runtime.NumGoroutine") = false) (hb : fn.body = none) (hn : Extern.findNext fn = none) {g : Array Value → Sem Value} (he : Extern.find fn = some g)
 {args : Array Value} {w w' : World} {y : Value} (hr : (g args).run P w = .ok y w') : (callFunc f args).run P w = .ok (.value y) w' := by
 have hname' : ¬ (fn.name = "runtime.NumGoroutine") := by simpa using hname
 simp [callFunc, hf, hname', hb, hn, he, hr]
theorem ofValue_fn {f : FuncId} {first captured args : Array Value} {w : World} : (do let d ← Deferred.ofValue (.func (.func f) first captured) args; invoke d.target d.args : Sem Next).run P w = (callFunc f (first ++ args ++ captured)).run P w := by
 simp [Deferred.ofValue, invoke]
structure MergeOk (P : Program) (X : XP) : Prop where
 outs : ∀ f, X.mrg.get f ≠ none → ∀ (n0 : Nat) (as : List AV) (r : List (AV × AHeap)) (L : Loops) (e : Env) (H : AHeap) (w : World) (en : Ending) (w' : World), n0 = H.next →
  ValOut (gp P X) L e H w r en w' → ValOut (gp P X) L e H w (mergeOuts n0 as r) en w'
 alike : ∀ (r : List (AV × AHeap)) (L : Loops) (e : Env) (H : AHeap) (w : World) (en : Ending) (w' : World),
  ValOut (gp P X) L e H w r en w' → ValOut (gp P X) L e H w (mergeV r) en w'
def MemoFits (P : Program) (X : XP) : Prop := ∀ f as H outs, knowA X f as H = some outs → ∀ (L : Loops) (e : Env) (w : World) (vs : List Value), cvs e as = some vs → HR (gp P X) e L H.objs.get H.next w →
 Calls P f vs.toArray w (fun en w' => en ≠ .outgrown ∧ ValOut (gp P X) L e H w outs en w')
include ok okf hR in
theorem callFn_ok (hM : MergeOk P X) (hMe : MemoFits P X) {L : Loops} {f : FuncId} {first captured args : List AV} {H : AHeap} {outs : List (AV × AHeap)} (h : callFn X R L f (first ++ args ++ captured) H (X.fns.get f) = some outs)
 {e : Env} {w : World} {v1 v2 v3 : List Value} (h1 : cvs e first = some v1) (h2 : cvs e args = some v2) (h3 : cvs e captured = some v3) (hH : HR (gp P X) e L H.objs.get H.next w) :
 ∃ n w1, (do let d ← Deferred.ofValue (.func (.func f) v1.toArray v3.toArray) v2.toArray; invoke d.target d.args : Sem Next).run P w = .ok n w1 ∧ NextTo P (ValOut (gp P X) L e H w outs) n w1 ∧
  (hasBody (X.fns.get f) = true → ∃ as, n = .enter f as ∧ Calls P f as w (fun en w' => en ≠ .outgrown ∧ ValOut (gp P X) L e H w outs en w')) := by
 have hall := cvs_append (cvs_append h1 h2) h3;have hargs : v1.toArray ++ v2.toArray ++ v3.toArray = (v1 ++ v2 ++ v3).toArray := by simp
 rw [ofValue_fn, hargs];cases hfn : X.fns.get f with
 | none => rw [hfn] at h; simp [callFn] at h
 | some fn =>
  rw [hfn] at h;simp only [callFn] at h;obtain ⟨hf, hname⟩ := okf.fns f fn hfn;cases hb : fn.body with
  | some c =>
   rw [hb] at h;simp only [callFn2] at h;have hc : Calls P f (v1 ++ v2 ++ v3).toArray w (fun en w' => en ≠ .outgrown ∧ ValOut (gp P X) L e H w outs en w') := by
    cases hlk : knowA X f (first ++ args ++ captured) H with
    | some o =>
     rw [hlk] at h;simp only [Option.some.injEq] at h; subst h;exact hMe f _ H o hlk L e w _ hall hH
    | none =>
    rw [hlk] at h;simp only at h;cases hm : X.mrg.get f with
    | none =>
     rw [hm] at h;simp only [mergeIf] at h
     split at h
     ·rename_i r hr;simp only [Option.some.injEq] at h; subst h;exact (callBody_ok ok okf hR hr hf hb hall hH).mono fun en w' ⟨hne, hv⟩ => ⟨hne, hM.alike _ _ _ _ _ _ _ hv⟩
     ·cases h
    | some u =>
     rw [hm] at h;simp only [mergeIf] at h
     split at h
     ·rename_i r hr;simp only [Option.some.injEq] at h; subst h;exact (callBody_ok ok okf hR hr hf hb hall hH).mono fun en w' ⟨hne, hv⟩ => ⟨hne, hM.outs f (by rw [hm]; simp) _ _ _ _ _ _ _ _ _ rfl hv⟩
     ·cases h
   exact ⟨.enter f (v1 ++ v2 ++ v3).toArray, w, callFunc_enter hf hname hb, calls_runsTo hc, fun _ => ⟨_, rfl, hc⟩⟩
  | none =>
   rw [hb] at h;simp only [callFn2] at h;unfold callExt at h
   split at h
   ·rename_i x hx;unfold callExt2 at h
    split at h
    ·rename_i v hv;simp only [Option.some.injEq] at h; subst h;obtain ⟨y, g, hy, g1, g2, g3⟩ := extA_ok (f := f) (okf.ext f fn x hfn hb hx) hv hall hH;exact ⟨.value y, w, callFunc_ext hf hname hb g1 g2 g3, ⟨v, H, by simp, e, endR_ret hy, hH, Tran.refl _ _ _ _⟩, fun hbd => by simp [hasBody, hb] at hbd⟩
    ·unfold wOrFork at h
     split at h
     ·rename_i p hp;obtain ⟨v, H1⟩ := p;simp only [Option.some.injEq] at h; subst h;obtain ⟨y, g, e', w', hy, g1, g2, g3, g4, g5⟩ := extW_ok (okf.ext f fn x hfn hb hx) hp hall hH;exact ⟨.value y, w', callFunc_ext hf hname hb g1 g2 g3, ⟨v, H1, by simp, e', endR_ret hy, g4, g5⟩, fun hbd => by simp [hasBody, hb] at hbd⟩
     ·cases h
   ·cases h
theorem setParams_ok {e : Env} {n : Nat} : ∀ (ps : List Tmp) (as : List AV) (tm tm' : Tr AV) (t : Array Value) (vs : List Value), setParams n ps as tm = some tm' → cvs e as = some vs → TmOk e tm n t →
 ps.length = vs.length ∧ TmOk e tm' n ((ps.zip vs).foldl (fun tmps (p : Tmp × Value) => tmps.setIfInBounds p.1 p.2) t) := by
 intro ps
 induction ps with
 | nil =>
  intro as tm tm' t vs h hvs ht;cases as with
  | cons a as => simp [setParams] at h
  | nil =>
   simp only [setParams, Option.some.injEq] at h; subst h;simp only [cvs, Option.some.injEq] at hvs; subst hvs;exact ⟨rfl, by simpa using ht⟩
 | cons p ps ih =>
  intro as tm tm' t vs h hvs ht;cases as with
  | nil => simp [setParams] at h
  | cons a as =>
   obtain ⟨y, z, hy, hz, rfl⟩ := cvs_cons hvs;simp only [setParams, brec] at h;cases hb : Nat.blt p n with
   | false => rw [hb] at h; cases h
   | true =>
    rw [hb] at h; simp only [cond_true] at h;obtain ⟨h1, h2⟩ := ih as _ tm' _ z h hz (ht.set (nblt_of hb) hy);refine ⟨by simp [h1], ?_⟩
    simpa using h2
theorem getLoop_run {w : World} {l : Nat} {r : Loop} (h : w.heap[l]? = some (.loop r)) : (Instr.getLoop l).run P w = .ok r w := by
 simp [Instr.getLoop, getObj, Sem.run, h]
theorem setObj_loop {w : World} {l : Nat} {r r' : Loop} (h : w.heap[l]? = some (.loop r)) : (setObj l (.loop r')).run P w = .ok () { w with heap := w.heap.setIfInBounds l (.loop r') } := by
 simp [setObj, Sem.run, h]
theorem setLoop_ok {NG : GP} {L : Loops} {e : Env} {H : AHeap} {w : World} (hH : HR NG e L H.objs.get H.next w) {l : Nat} {x : Nat × Nat} (hx : e.f l = some x) {st st' : LoopState} {pend pend' : Option XE} {fn : FuncId} {fr : Fr} {ps : List Tmp} {d : Nat}
 (hob : H.objs.get l = some (.loop st pend fn fr ps d)) :
 ∃ r : Loop, w.heap[x.1]? = some (.loop r) ∧ r.state = st ∧ r.pending = pend.map XE.toCode ∧ r.fn = fn ∧ r.params = ps.toArray ∧ (∃ asg body, lookL L l = some (asg, body) ∧ r.assign = asg ∧ r.body = body) ∧ TmOk e fr.tm fr.n r.tmps ∧ (∃ xd, e.f d = some xd ∧ r.defers = xd.1) ∧
  HR NG e L (H.set l (some (.loop st' pend' fn fr ps d))).objs.get H.next { w with heap := w.heap.setIfInBounds x.1 (.loop { r with state := st', pending := pend'.map XE.toCode }) } ∧
  Tran e H.objs.get H.next w e (H.set l (some (.loop st' pend' fn fr ps d))).objs.get H.next { w with heap := w.heap.setIfInBounds x.1 (.loop { r with state := st', pending := pend'.map XE.toCode }) } := by
 obtain ⟨x', hx', hO⟩ := hH.live l _ hob;rw [hx] at hx'; cases hx';have hlt := hO.lt;obtain ⟨asg, body, xd, t, h1, h2, h3, h4⟩ := hO;have hsame : ∀ (r' : Loop) (B : Nat), B ≠ x.1 → (w.heap.setIfInBounds x.1 (.loop r'))[B]? = w.heap[B]? := fun r' B hB => Array.getElem?_setIfInBounds_ne (fun h => hB h.symm)
 have hset : (H.set l (some (.loop st' pend' fn fr ps d))).objs.get = X.upd H.objs.get l (some (.loop st' pend' fn fr ps d)) := by show (H.objs.set l _).get = _; rw [get_set_upd]
 refine ⟨_, h3, rfl, rfl, rfl, rfl, ⟨asg, body, h1, rfl, rfl⟩, h4, ⟨xd, h2, rfl⟩, ?_, ?_⟩
 ·rw [hset];exact hH.upd hob hx rfl (hsame _) ⟨asg, body, xd, t, h1, h2, by simp [hlt], h4⟩
 ·rw [hset];exact Tran.upd hob hx rfl rfl (hsame _) (by simp) rfl rfl rfl
include hR in
theorem round_ok {L : Loops} {l : Nat} {args : List AV} {H : AHeap} {outs : List (AV × AHeap)} (h : roundA R L l args H (H.objs.get l) (lookL L l) = some outs)
 {e : Env} {w : World} {vs : List Value} {x : Nat × Nat} (hx : e.f l = some x) (hvs : cvs e args = some vs) (hH : HR (gp P X) e L H.objs.get H.next w) :
 CallTo P (.func (.yield x.1) #[] #[]) vs.toArray w (ValOut (gp P X) L e H w outs) := by
 unfold roundA at h
 split at h
 ·rename_i pend fn fr ps d c hob hlk;obtain ⟨asg, body⟩ := c;simp only at h;obtain ⟨r, hr0, hr1, hr2, hr3, hr4, ⟨asg', body', hlk', hr5, hr6⟩, hr7, _⟩ := setLoop_ok (st' := .ready) (pend' := none) hH hx hob;rw [hlk] at hlk'; cases hlk';cases hsp : setParams fr.n ps args fr.tm with
  | none => rw [hsp] at h; simp [round2] at h
  | some tm =>
   rw [hsp] at h;simp only [round2] at h;obtain ⟨l1, hl1⟩ := bindOuts_some h;rw [hl1] at h;obtain ⟨hplen, htm⟩ := setParams_ok ps args fr.tm tm r.tmps vs hsp hvs hr7;have hzip : ((r.params.zip vs.toArray).foldl (fun tmps (p : Tmp × Value) => tmps.setIfInBounds p.1 p.2) r.tmps) = (ps.zip vs).foldl (fun tmps (p : Tmp × Value) => tmps.setIfInBounds p.1 p.2) r.tmps := by
    rw [← Array.foldl_toList, Array.toList_zip, hr4]
   refine ⟨.round x.1 fn ((ps.zip vs).foldl (fun tmps (p : Tmp × Value) => tmps.setIfInBounds p.1 p.2) r.tmps) asg body, w, ?_, ?_⟩
   ·have hsz : ¬ (vs.toArray.size ≠ r.params.size) := by rw [hr4]; simp [hplen]
    have : (do let d ← Deferred.ofValue (.func (.yield x.1) #[] #[]) vs.toArray; invoke d.target d.args : Sem Next).run P w = (Instr.yield x.1 vs.toArray).run P w := by simp [Deferred.ofValue, invoke]
    rw [this];simp only [Instr.yield, Sem.run_bind, getLoop_run hr0, Result.andThen_ok, if_neg hsz, Sem.run_pure, hr3, hr5, hr6];exact congrArg (fun t => Result.ok (Next.round x.1 fn t asg body) w) hzip
   ·intro c cs
    let b : Frame := { (default : Frame) with fn := fn, kind := .normal, roundOf := some x.1 }
    have hb0 : Frame.round x.1 fn ((ps.zip vs).foldl (fun tmps (p : Tmp × Value) => tmps.setIfInBounds p.1 p.2) r.tmps) asg body .normal = b.atR { tmps := (ps.zip vs).foldl (fun tmps (p : Tmp × Value) => tmps.setIfInBounds p.1 p.2) r.tmps, defers := [] } [.code asg, .beginRound, .code body] := by
     simp [Frame.round, Frame.atR, b]
    rw [hb0];obtain ⟨x1, a1, w1, ⟨fr1, H1, e1, hm1, hF1, hH1, hT1⟩, harr1⟩ := hR.code _ _ _ _ _ _ _ hl1 e { tmps := (ps.zip vs).foldl (fun tmps (p : Tmp × Value) => tmps.setIfInBounds p.1 p.2) r.tmps, defers := [] } w (some x.1) ⟨htm, rfl⟩ hH ⟨x, hx, rfl⟩ b [.beginRound, .code body] (c :: cs) rfl rfl
    obtain ⟨o1, ho1, hsub1⟩ := bindOuts_mem h _ hm1;cases x1 with
    | exit id => simp [roundBody] at ho1
    | ret => simp [roundBody] at ho1
    | pan v => simp [roundBody] at ho1
    | normal =>
     simp only [roundBody] at ho1;unfold roundBody2 at ho1
     split at ho1
     ·rename_i pend1 fn1 fr1' ps1 d1 hob1;obtain ⟨l2, hl2⟩ := bindOuts_some ho1;rw [hl2] at ho1;have hx1 : e1.f l = some x := hT1.le.1 _ _ hx;obtain ⟨r1, q0, q1, q2, q3, q4, q5, q6, q7, hHb, hTb⟩ := setLoop_ok (st' := .busy) (pend' := pend1) hH1 hx1 hob1;have hbegin : (Instr.beginRound x.1).run P w1 = .ok () { w1 with heap := w1.heap.setIfInBounds x.1 (.loop { r1 with state := .busy, pending := pend1.map XE.toCode }) } := by
       have hpe : ({ r1 with state := .busy, pending := pend1.map XE.toCode } : Loop) = { r1 with state := .busy } := by rw [← q2]
       rw [hpe];simp only [Instr.beginRound, Sem.run_bind, getLoop_run q0, Result.andThen_ok, setObj_loop q0, q1, Sem.run_pure]
      have s1 := stepR_beginRound (P := P) (b := b) (a := a1) (k := [.code body]) (cs := c :: cs) rfl hbegin;obtain ⟨x2, a2, w2, ⟨fr2, H2, e2, hm2, hF2, hH2, hT2⟩, harr2⟩ := hR.code _ _ _ _ _ _ _ hl2 e1 a1 _ (some x.1) hF1 hHb ⟨x, hx1, rfl⟩ b [] (c :: cs) rfl rfl;obtain ⟨o2, ho2, hsub2⟩ := bindOuts_mem ho1 _ hm2;have hx2 : e2.f l = some x := hT2.le.1 _ _ hx1;have fin : ∀ (jump : Option XE) (bv : Bool) (H3 : AHeap), setLoop H2 l (if jump.isNone then .ready else .done) jump = some H3 → bv = jump.isNone → (.bool bv, H3) ∈ o2 →
       ∃ w3, (Instr.endRound x.1 (jump.map XE.toCode)).run P w2 = .ok (.bool bv) w3 ∧ ValOut (gp P X) L e H w outs (.returned (.bool bv)) w3 := by
       intro jump bv H3 hs3 hbv hmem;unfold setLoop at hs3
       split at hs3
       ·rename_i st2 pend2 fn2 fr2' ps2 d2 hob2;simp only [Option.some.injEq] at hs3; subst hs3;obtain ⟨r2, p0, p1, p2, p3, p4, p5, p6, p7, hH3, hT3⟩ := setLoop_ok (st' := if jump.isNone then .ready else .done) (pend' := jump) hH2 hx2 hob2
        refine ⟨_, ?_, .bool bv, _, hsub1 _ (hsub2 _ hmem), e2, endR_ret rfl, hH3, (hT1.trans (hTb.trans hT2)).trans hT3⟩;simp only [Instr.endRound, Sem.run_bind, getLoop_run p0, Result.andThen_ok, Option.isNone_map, setObj_loop p0, Sem.run_pure, hbv]
       ·cases hs3
      have hs12 : Steps P (lone (b.atR { tmps := (ps.zip vs).foldl (fun tmps (p : Tmp × Value) => tmps.setIfInBounds p.1 p.2) r.tmps, defers := [] } [.code asg, .beginRound, .code body]) (c :: cs) w) (lone (b.atR a1 [.code body]) (c :: cs) { w1 with heap := w1.heap.setIfInBounds x.1 (.loop { r1 with state := .busy, pending := pend1.map XE.toCode }) }) :=
       Steps.trans harr1 (.one s1)
      cases x2 with
      | normal =>
       simp only [endRoundA, Option.map_eq_some_iff] at ho2;obtain ⟨H3, hs3, rfl⟩ := ho2;obtain ⟨w3, hrun, hv⟩ := fin none true H3 hs3 rfl (by simp)
       exact ⟨.returned (.bool true), w3, hv, by simp, Steps.trans hs12 (Steps.trans harr2 (.one (stepR_round_end rfl rfl hrun)))⟩
      | ret =>
       simp only [endRoundA, Option.map_eq_some_iff] at ho2;obtain ⟨H3, hs3, rfl⟩ := ho2;obtain ⟨w3, hrun, hv⟩ := fin (some .ret) false H3 hs3 rfl (by simp)
       obtain ⟨t, h2⟩ := harr2;exact ⟨.returned (.bool false), w3, hv, by simp, Steps.trans hs12 (Steps.trans h2 (.one (stepR_round_ret rfl rfl hrun)))⟩
      | exit id =>
       simp only [endRoundA, Option.map_eq_some_iff] at ho2;obtain ⟨H3, hs3, rfl⟩ := ho2;obtain ⟨w3, hrun, hv⟩ := fin (some (.exit id)) false H3 hs3 rfl (by simp)
       obtain ⟨t, h1, h2⟩ := harr2;exact ⟨.returned (.bool false), w3, hv, by simp, Steps.trans hs12 (Steps.trans h2 (.one (stepR_round_exit rfl rfl h1 hrun)))⟩
      | pan v => simp [endRoundA] at ho2
     ·cases ho1
 ·cases h
include ok okf hR in
theorem callStep_ok (hM : MergeOk P X) (hMe : MemoFits P X) {L : Loops} {fv : AV} {args : List AV} {H : AHeap} {outs : List (AV × AHeap)} (h : callStep X R L fv args H = some outs) {e : Env} {w : World} {vf : Value} {vs : List Value}
 (hf : cv e fv = some vf) (hvs : cvs e args = some vs) (hH : HR (gp P X) e L H.objs.get H.next w) : CallTo P vf vs.toArray w (ValOut (gp P X) L e H w outs) := by
 unfold callStep at h
 split at h
 ·rename_i f first captured
  obtain ⟨v1, v3, h1, h3, rfl⟩ := cv_fn hf;obtain ⟨n, w1, hr, hn, _⟩ := callFn_ok ok okf hR hM hMe h h1 hvs h3 hH;exact ⟨n, w1, hr, hn⟩
 ·rename_i l;obtain ⟨x, hx, rfl⟩ := cv_yld hf;exact round_ok hR h hx hvs hH
 ·cases h
end
end
end Go.X
