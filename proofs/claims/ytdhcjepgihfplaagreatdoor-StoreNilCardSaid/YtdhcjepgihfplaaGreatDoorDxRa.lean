/- The run by depth; what is known of calls. -/
import Derived.Test.YtdhcjepgihfplaaGreatDoorDxZ
namespace Go.X
noncomputable section
set_option linter.unusedSectionVars false

section
variable {P : Program} {X : XP} (ok : XPok P X) (okf : FnOk P X) (hmix : P.follows .mixedOrders = true) (hMe : MemoFits P X)

include ok okf hmix hMe in
theorem run_ok : ∀ n, RecOk P (gp P X) (run X n) ∧ BodyCalls P X (run X n) := by
  intro n
  induction n with
  | zero =>
    refine ⟨⟨fun rd fid L fr H c outs h => ?_, fun L fv args H outs h => ?_⟩, fun L f first captured args H outs h => ?_⟩
    · exact absurd (show none = some outs from h) (by simp)
    · exact absurd (show none = some outs from h) (by simp)
    · exact absurd (show none = some outs from h) (by simp)
  | succ n ih =>
    obtain ⟨hR, hB⟩ := ih
    refine ⟨⟨fun rd fid L fr H c outs h e a w ro hF hH hro => ?_, fun L fv args H outs h e w vf vs hf hvs hH => ?_⟩, fun L f first captured args H outs h hb e w v1 v2 v3 h1 h2 h3 hH => ?_⟩
    · exact codeStep_ok ok hR hmix hB (show codeStep X (run X n) rd fid L fr H c = some outs from h) hF hH hro
    · exact callStep_ok ok okf hR mergeOuts_ok hMe (show callStep X (run X n) L fv args H = some outs from h) hf hvs hH
    · have h' : callFn X (run X n) L f (first ++ args ++ captured) H (X.fns.get f) = some outs := h
      obtain ⟨nx, hr, _, hc⟩ := callFn_ok ok okf hR mergeOuts_ok hMe h' h1 h2 h3 hH
      rw [ofValue_fn] at hr
      obtain ⟨as, hn, hcalls⟩ := hc hb
      cases hfn : X.fns.get f with
      | none => rw [hfn] at hb; cases hb
      | some fn =>
        rw [hfn] at hb
        obtain ⟨hf, hname⟩ := okf.fns f fn hfn
        obtain ⟨c, hbc⟩ := Option.isSome_iff_exists.1 (show fn.body.isSome = true from hb)
        have he := callFunc_enter (P := P) hf hname hbc (args := v1.toArray ++ v2.toArray ++ v3.toArray) (w := w)
        rw [he] at hr
        rw [hn] at hr
        cases hr
        exact ⟨he, hcalls⟩
end

/-! ### what looks at no block -/
mutual
theorem free_cv {e e' : Env} (h : e'.sy = e.sy) : ∀ v : AV, v.free = true → cv e' v = cv e v
  | .undef, _ => rfl
  | .bool _, _ => rfl
  | .int _ _, _ => rfl
  | .str _, _ => rfl
  | .nilp, _ => rfl
  | .nils, _ => rfl
  | .nilm, _ => rfl
  | .nilf, _ => rfl
  | .nili, _ => rfl
  | .ptr _ _, hv => by simp [AV.free] at hv
  | .sl _ _ _ _, hv => by simp [AV.free] at hv
  | .yld _, hv => by simp [AV.free] at hv
  | .capOf _ _, hv => by simp [AV.free] at hv
  | .pan _, hv => by simp [AV.free] at hv
  | .fn f a b, hv => by
    simp only [AV.free, Bool.and_eq_true] at hv
    simp only [cv, frees_cv h a hv.1, frees_cv h b hv.2]
  | .ifc t v, hv => by
    simp only [AV.free] at hv
    simp only [cv, free_cv h v hv]
  | .agg l, hv => by
    simp only [AV.free] at hv
    simp only [cv, frees_cv h l hv]
  | .tup l, hv => by
    simp only [AV.free] at hv
    simp only [cv, frees_cv h l hv]
  | .sym i, _ => by simp only [cv, h]
  | .res i c, _ => by simp only [cv, h]
theorem frees_cv {e e' : Env} (h : e'.sy = e.sy) : ∀ l : List AV, AV.frees l = true → cvs e' l = cvs e l
  | [], _ => rfl
  | v :: vs, hv => by
    simp only [AV.frees, Bool.and_eq_true] at hv
    simp only [cvs, free_cv h v hv.1, frees_cv h vs hv.2]
end

theorem Tr.plus_get {α : Type} : ∀ (p h : Tr α) (n : Nat), (p.plus h).get n = (match p.get n with | some x => some x | none => h.get n) := by
  intro p
  induction p with
  | nil => intro h n; rfl
  | node v l r ihl ihr =>
    intro h n
    cases h with
    | nil =>
      show (Tr.node v l r).get n = _
      cases (Tr.node v l r).get n <;> rfl
    | node v' l' r' =>
      show (Tr.node _ (l.plus l') (r.plus r')).get n = _
      rw [Tr.get_node, Tr.get_node, Tr.get_node]
      by_cases h0 : n = 0
      · rw [if_pos h0, if_pos h0, if_pos h0]
        cases v <;> rfl
      · rw [if_neg h0, if_neg h0, if_neg h0]
        by_cases h1 : n % 2 = 1
        · rw [if_pos h1, if_pos h1, if_pos h1]; exact ihl l' _
        · rw [if_neg h1, if_neg h1, if_neg h1]; exact ihr r' _

theorem Tr.minus_get {α : Type} : ∀ (p h : Tr α) (n : Nat), (p.minus h).get n = (match p.get n with | some _ => none | none => h.get n) := by
  intro p
  induction p with
  | nil => intro h n; rfl
  | node v l r ihl ihr =>
    intro h n
    cases h with
    | nil =>
      show (Tr.nil : Tr α).get n = _
      cases (Tr.node v l r).get n <;> rfl
    | node v' l' r' =>
      show (Tr.node _ (l.minus l') (r.minus r')).get n = _
      rw [Tr.get_node, Tr.get_node, Tr.get_node]
      by_cases h0 : n = 0
      · rw [if_pos h0, if_pos h0, if_pos h0]
        cases v <;> rfl
      · rw [if_neg h0, if_neg h0, if_neg h0]
        by_cases h1 : n % 2 = 1
        · rw [if_pos h1, if_pos h1, if_pos h1]; exact ihl l' _
        · rw [if_neg h1, if_neg h1, if_neg h1]; exact ihr r' _

theorem Tr.noLoop_get : ∀ (t : Tr AObj), t.noLoop = true → ∀ n o, t.get n = some o → o.noLoop = true := by
  intro t
  induction t with
  | nil => intro _ n o h; cases h
  | node v l r ihl ihr =>
    intro h n o hn
    simp only [Tr.noLoop, Bool.and_eq_true] at h
    rw [Tr.get_node] at hn
    by_cases h0 : n = 0
    · rw [if_pos h0] at hn; subst hn; exact h.1.1
    · rw [if_neg h0] at hn
      by_cases h1 : n % 2 = 1
      · rw [if_pos h1] at hn; exact ihl h.1.2 _ o hn
      · rw [if_neg h1] at hn; exact ihr h.2 _ o hn

theorem ObjR.otherL {e : Env} {L L' : Loops} {b : Nat} {x : Nat × Nat} {w : World} {o : AObj} (hn : o.noLoop = true) (h : ObjR e L b x w o) : ObjR e L' b x w o := by
  cases o with
  | loop => cases hn
  | blk => exact h
  | defr => exact h
  | siter => exact h

theorem HR.otherL {NG : GP} {e : Env} {L : Loops} (L' : Loops) {G : Nat → Option AObj} {nx : Nat} {w : World} (hn : ∀ b o, G b = some o → o.noLoop = true) (h : HR NG e L G nx w) : HR NG e L' G nx w :=
  { h with live := fun b o hb => let ⟨x, hx, hO⟩ := h.live b o hb; ⟨x, hx, hO.otherL (hn b o hb)⟩ }

/-! ### what is known of a call -/
def EntOk (P : Program) (O : List OraE) (f : FuncId) : Ent → Prop
  | .pure as v => AV.frees as = true ∧ v.free = true ∧ ∀ (e : Env) (w : World) (vs : List Value), cvs e as = some vs → HR (gpO P O) e [] (Tr.nil : Tr AObj).get P.globals.size w →
      Calls P f vs.toArray w (fun en w' => en ≠ .outgrown ∧ ∃ H', HOut (gpO P O) [] e ⟨P.globals.size, .nil⟩ w v H' en w')
  | .loc as pre outs => ∀ (L : Loops) (e : Env) (w : World) (vs : List Value), cvs e as = some vs → HR (gpO P O) e L pre.objs.get pre.next w →
      Calls P f vs.toArray w (fun en w' => en ≠ .outgrown ∧ ValOut (gpO P O) L e pre w outs en w')

def MemoOk (P : Program) (O : List OraE) (M : Tr (List Ent)) : Prop := ∀ f es, M.get f = some es → ∀ en ∈ es, EntOk P O f en

theorem HR.noOra {P : Program} {O : List OraE} {e : Env} {L : Loops} {G : Nat → Option AObj} {n : Nat} {w : World} (h : HR (gpO P O) e L G n w) : HR (gpO P []) e L G n w :=
  ⟨h.dom, h.live, h.inj, h.glob, fun o ho => by cases ho⟩

theorem HR.withOra {P : Program} {O : List OraE} {e : Env} {L : Loops} {G : Nat → Option AObj} {n : Nat} {w : World} (h : HR (gpO P []) e L G n w) (ho : OraOk O e.sy) : HR (gpO P O) e L G n w :=
  ⟨h.dom, h.live, h.inj, h.glob, ho⟩

theorem HOut.withOra {P : Program} {O : List OraE} {L : Loops} {e : Env} {H : AHeap} {w : World} {v : AV} {H' : AHeap} {en : Ending} {w' : World} (h : HOut (gpO P []) L e H w v H' en w') (ho : OraOk O e.sy) : HOut (gpO P O) L e H w v H' en w' := by
  obtain ⟨e', h1, h2, h3⟩ := h
  exact ⟨e', h1, h2.withOra (by rw [h3.le.2]; exact ho), h3⟩

/-- what is known without numbers of which little is known, is known with them -/
theorem EntOk.ora {P : Program} {O : List OraE} {f : FuncId} {en : Ent} (h : EntOk P [] f en) : EntOk P O f en := by
  cases en with
  | pure as v =>
    obtain ⟨h1, h2, h3⟩ := h
    exact ⟨h1, h2, fun e w vs hvs hH => (h3 e w vs hvs hH.noOra).mono fun en w' ⟨hne, H', hh⟩ => ⟨hne, H', hh.withOra hH.ora⟩⟩
  | loc as pre outs =>
    exact fun L e w vs hvs hH => (h L e w vs hvs hH.noOra).mono fun en w' ⟨hne, v, H', hm, hh⟩ => ⟨hne, v, H', hm, hh.withOra hH.ora⟩

theorem memo_nil (P : Program) (O : List OraE) : MemoOk P O .nil := fun f es h => by cases h

theorem MemoOk.add {P : Program} {O : List OraE} {M : Tr (List Ent)} (h : MemoOk P O M) {f : FuncId} {es : List Ent} (hes : ∀ en ∈ es, EntOk P O f en) : MemoOk P O (M.set f (some es)) := by
  intro g es' hg en hen
  rw [Tr.get_set] at hg
  by_cases hgf : g = f
  · rw [if_pos hgf] at hg; cases hg; subst hgf; exact hes en hen
  · rw [if_neg hgf] at hg; exact h g es' hg en hen

theorem memoFits {P : Program} {X : XP} (h : MemoOk P X.ora X.memo) : MemoFits P X := by
  intro f as H outs hl L e w vs hvs hH
  cases hm : X.memo.get f with
  | none => rw [hm] at hl; cases hl
  | some es =>
    rw [hm] at hl
    have hes := h f es hm
    clear hm
    have hl' : lookE as H es = some outs := hl
    clear hl
    induction es with
    | nil => cases hl'
    | cons en es ih =>
      cases en with
      | pure as' v =>
        simp only [lookE, brec] at hl'
        cases hs : AV.sames as' as with
        | false => rw [hs] at hl'; exact ih (fun en hen => hes en (List.mem_cons_of_mem _ hen)) hl'
        | true =>
          rw [hs] at hl'
          simp only [cond_true, Option.some.injEq] at hl'; subst hl'
          have := AV.sames_of _ _ hs
          subst this
          obtain ⟨hfa, hfv, hrun⟩ := hes _ (List.mem_cons_self ..)
          let e0 : Env := { f := fun b => if b < P.globals.size then e.f b else none, sy := e.sy }
          have hle0 : ∀ b x, e0.f b = some x → e.f b = some x := by
            intro b x hb
            simp only [e0] at hb
            by_cases hlt : b < P.globals.size
            · rw [if_pos hlt] at hb; exact hb
            · rw [if_neg hlt] at hb; cases hb
          have hH0 : HR (gp P X) e0 [] (Tr.nil : Tr AObj).get P.globals.size w := by
            refine ⟨fun b x hb => ?_, (fun b o hb => by cases hb), (fun b c o p x y hb => by cases hb), fun g hg => ?_, hH.ora⟩
            · simp only [e0] at hb
              by_cases hlt : b < P.globals.size
              · exact hlt
              · rw [if_neg hlt] at hb; cases hb
            · simp only [e0]; rw [if_pos (show g < P.globals.size from hg)]; exact hH.glob g hg
          refine (hrun e0 w vs ((frees_cv (e := e) (e' := e0) rfl as' hfa).trans hvs) hH0).mono fun en w' ⟨hne, H', e', hen, hH', hT⟩ => ⟨hne, v, H, by simp, e, ?_, ?_, ?_⟩
          · obtain ⟨y, hv, rfl⟩ := endR_not hen (by intro u hu; subst hu; cases hfv)
            exact endR_ret (by rw [← hv]; exact free_cv (e := e') (e' := e) hT.le.2.symm v hfv)
          · have hkeep : ∀ B, B < w.heap.size → w'.heap[B]? = w.heap[B]? := fun B hB => hT.keep B hB (by rintro ⟨b, o, x, hb, _⟩; cases hb)
            exact ⟨hH.dom, fun b o hb => let ⟨x, hx, hO⟩ := hH.live b o hb; ⟨x, hx, hO.keep (Env.le_refl e) (hkeep _ hO.lt) rfl⟩, hH.inj, hH.glob, hH.ora⟩
          · have hkeep : ∀ B, B < w.heap.size → w'.heap[B]? = w.heap[B]? := fun B hB => hT.keep B hB (by rintro ⟨b, o, x, hb, _⟩; cases hb)
            exact ⟨Env.le_refl e, fun _ _ => rfl, Nat.le_refl _, hT.size, fun B hB _ => hkeep B hB, fun _ h _ => h, fun _ o h hr => ⟨o, h, hr⟩, hT.os, hT.tape, hT.output⟩
      | loc as' pre outs0 =>
        simp only [lookE, brec] at hl'
        cases hs : (AV.sames as' as && Nat.ble H.next pre.next && pre.objs.sub AObj.sub H.objs) with
        | false => rw [hs] at hl'; exact ih (fun en hen => hes en (List.mem_cons_of_mem _ hen)) hl'
        | true =>
          rw [hs] at hl'
          simp only [cond_true, Option.some.injEq] at hl'; subst hl'
          simp only [Bool.and_eq_true] at hs
          have := AV.sames_of _ _ hs.1.1
          subst this
          have hnx := nble_of hs.1.2
          have hrun := hes _ (List.mem_cons_self ..)
          have hLe : LeG pre.objs.get H.objs.get := fun b o1 hb => Tr.sub_get _ _ hs.2 b o1 hb
          -- the heap, with less known of the blocks that the call is told of
          let H2 : Nat → Option AObj := fun b => match pre.objs.get b with | some o => some o | none => H.objs.get b
          have hsub : Sub pre.objs.get H2 := by
            intro b o hb
            show (match pre.objs.get b with | some o => some o | none => H.objs.get b) = some o
            rw [hb]
          have hLe2 : LeW H2 H.objs.get := by
            intro b o hb
            have hb' : (match pre.objs.get b with | some o => some o | none => H.objs.get b) = some o := hb
            cases hp : pre.objs.get b with
            | some q =>
              rw [hp] at hb'
              have hqo : q = o := Option.some.inj hb'
              subst hqo
              obtain ⟨o2, h2, h3⟩ := hLe b q hp
              exact ⟨o2, h2, (AObj.sub_ok h3).1, fun e L b x w => (AObj.sub_ok h3).2⟩
            | none => rw [hp] at hb'; exact ⟨o, hb', rfl, fun _ _ _ _ _ h => h⟩
          have hH2 : HR (gp P X) e L H2 pre.next w := (hH.leW hLe2).bump hnx
          refine (hrun L e w vs hvs (hH2.weaken hsub)).mono fun en w' ⟨hne, v, H', hm', e', hv, hH', hT⟩ => ⟨hne, v, (overOut pre.objs H.objs (v, H')).2, List.mem_map.2 ⟨(v, H'), hm', rfl⟩, e', hv, ?_, ?_⟩
          · have h1 := HR.framed hH2 hsub hT hH'
            have hG : (overOut pre.objs H.objs (v, H')).2.objs.get = frameG H'.objs.get pre.objs.get H2 := by
              funext b
              show (H'.objs.plus (pre.objs.minus H.objs)).get b = _
              rw [Tr.plus_get, Tr.minus_get]
              unfold frameG
              cases H'.objs.get b with
              | some o => rfl
              | none =>
                cases hp : pre.objs.get b with
                | some o => rfl
                | none =>
                  show H.objs.get b = (match pre.objs.get b with | some o => some o | none => H.objs.get b)
                  rw [hp]
            rw [hG]; exact h1
          · have h1 := Tran.framed hH2 hsub hT
            have hG : (overOut pre.objs H.objs (v, H')).2.objs.get = frameG H'.objs.get pre.objs.get H2 := by
              funext b
              show (H'.objs.plus (pre.objs.minus H.objs)).get b = _
              rw [Tr.plus_get, Tr.minus_get]
              unfold frameG
              cases H'.objs.get b with
              | some o => rfl
              | none =>
                cases hp : pre.objs.get b with
                | some o => rfl
                | none =>
                  show H.objs.get b = (match pre.objs.get b with | some o => some o | none => H.objs.get b)
                  rw [hp]
            rw [hG]
            have h0 : Tran e H.objs.get H.next w e H2 pre.next w := ((Tran.refl e H.objs.get H.next w).leW hLe2).bump hnx
            exact h0.trans h1

section
variable {P : Program} {X : XP} (ok : XPok P X) (okf : FnOk P X) (hmix : P.follows .mixedOrders = true) (hMe : MemoOk P X.ora X.memo)

theorem covers_of {NG : GP} {L : Loops} {e : Env} {H : AHeap} {w w' : World} {outs outs0 : List (AV × AHeap)} {en : Ending} (hc : covers outs outs0 = true) (h : ValOut NG L e H w outs0 en w') : ValOut NG L e H w outs en w' := by
  obtain ⟨v, H', hm, e', hv, hH, hT⟩ := h
  have hone : coverOne (v, H') outs = true := by
    clear hv hH hT
    induction outs0 with
    | nil => cases hm
    | cons o r ih =>
      simp only [covers, Bool.and_eq_true] at hc
      rcases List.mem_cons.1 hm with rfl | hm
      · exact hc.1
      · exact ih hc.2 hm
  clear hc hm
  induction outs with
  | nil => simp [coverOne] at hone
  | cons p r ih =>
    simp only [coverOne, brec] at hone
    cases hb : (p.1.same v && Nat.ble H'.next p.2.next && p.2.objs.sub AObj.sub H'.objs) with
    | true =>
      simp only [Bool.and_eq_true] at hb
      have h1 := AV.same_of _ _ hb.1.1
      have h2 := nble_of hb.1.2
      have hle : LeG p.2.objs.get H'.objs.get := fun b o1 hb' => Tr.sub_get _ _ hb.2 b o1 hb'
      exact ⟨p.1, p.2, List.mem_cons_self .., e', by rw [h1]; exact hv, (hH.leG hle).bump h2, (hT.leG hle).bump h2⟩
    | false =>
      rw [hb] at hone
      obtain ⟨v', H'', hm, hh⟩ := ih hone
      exact ⟨v', H'', List.mem_cons_of_mem _ hm, hh⟩

theorem noLoops_mem : ∀ {outs : List (AV × AHeap)}, noLoops outs = true → ∀ p ∈ outs, p.2.objs.noLoop = true := by
  intro outs
  induction outs with
  | nil => intro _ p hp; cases hp
  | cons o r ih =>
    intro h p hp
    simp only [noLoops, Bool.and_eq_true] at h
    rcases List.mem_cons.1 hp with rfl | hp
    · exact h.1
    · exact ih h.2 p hp

include ok okf hmix hMe in
theorem ent_loc {n f : Nat} {as : List AV} {pre : AHeap} {outs : List (AV × AHeap)} (h : chkLoc X n f as pre outs = true) : EntOk P X.ora f (.loc as pre outs) := by
  simp only [chkLoc, Bool.and_eq_true] at h
  obtain ⟨⟨⟨hb, hn1⟩, hn2⟩, hc⟩ := h
  intro L e w vs hvs hH
  unfold chkOuts at hc
  split at hc
  · rename_i o ho
    have hB := (run_ok ok okf hmix (memoFits hMe) n).2
    obtain ⟨_, hcalls⟩ := hB [] f [] [] as pre o ho hb e w [] vs [] rfl hvs rfl (hH.otherL [] (fun b ob hob => Tr.noLoop_get _ hn1 b ob hob))
    have hcalls' : Calls P f vs.toArray w (fun en w' => en ≠ .outgrown ∧ ValOut (gp P X) [] e pre w o en w') := by simpa using hcalls
    refine hcalls'.mono fun en w' ⟨hne, hv⟩ => ⟨hne, ?_⟩
    obtain ⟨v, H', hm, e', h1, h2, h3⟩ := covers_of hc hv
    exact ⟨v, H', hm, e', h1, h2.otherL L (fun b ob hob => Tr.noLoop_get _ (noLoops_mem hn2 _ hm) b ob hob), h3⟩
  · cases hc

include ok okf hmix hMe in
theorem ent_pure {n f : Nat} {as : List AV} {v : AV} (h : chkPure X n f as v = true) : EntOk P X.ora f (.pure as v) := by
  simp only [chkPure, Bool.and_eq_true] at h
  obtain ⟨⟨⟨hb, hn1⟩, hn2⟩, hc⟩ := h
  refine ⟨hn1, hn2, fun e w vs hvs hH => ?_⟩
  unfold chkV at hc
  split at hc
  · rename_i p hp
    have hB := (run_ok ok okf hmix (memoFits hMe) n).2
    rw [ok.glob] at hp
    obtain ⟨_, hcalls⟩ := hB [] f [] [] as ⟨P.globals.size, .nil⟩ [p] hp hb e w [] vs [] rfl hvs rfl hH
    have hcalls' : Calls P f vs.toArray w (fun en w' => en ≠ .outgrown ∧ ValOut (gp P X) [] e ⟨P.globals.size, .nil⟩ w [p] en w') := by simpa using hcalls
    refine hcalls'.mono fun en w' ⟨hne, v', H', hm, hh⟩ => ⟨hne, H', ?_⟩
    simp only [List.mem_singleton] at hm; subst hm
    rw [AV.same_of _ _ hc]; exact hh
  · cases hc
end
end
end Go.X
