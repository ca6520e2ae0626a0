/- Ranges over functions. -/
import Derived.Test.YtnmkiflnonafbaaGreatDoorE9
set_option linter.unusedVariables false
set_option linter.unusedSimpArgs false
namespace Go.X
noncomputable section
set_option linter.unusedSectionVars false
theorem Zi7 {L : Zag} {l b : Nat} {c : Code × Code} (h : b ≠ l) : Zec ((l, c.1, c.2) :: L) b = Zec L b := by
 simp only [Zec, Zaw];rw [Zbx (fun he => h he.symm)]; rfl
theorem ZmT {L : Zag} {l : Nat} {asg body : Code} : Zec ((l, asg, body) :: L) l = some (asg, body) := by
 simp only [Zec, Zaw];rw [ZbK rfl]; rfl
theorem HR.consL {NG : Nat} {e : Env} {L : Zag} {G : Nat → Option AObj} {n : Nat} {w : World} (h : HR NG e L G n w) {l : Nat} (hl : G l = none) (asg body : Code) : HR NG e ((l, asg, body) :: L) G n w where
 dom := h.dom
 live b o hb := by
  obtain ⟨x, hx, hO⟩ := h.live b o hb;have hne : b ≠ l := fun he => by subst he; rw [hl] at hb; cases hb
  exact ⟨x, hx, hO.keep (Env.le_refl e) rfl (Zi7 (c := (asg, body)) hne)⟩
 inj := h.inj
 glob := h.glob
theorem HR.tailL {NG : Nat} {e : Env} {L : Zag} {G : Nat → Option AObj} {n : Nat} {w : World} {l : Nat} {asg body : Code} (h : HR NG e ((l, asg, body) :: L) G n w) (hl : G l = none) : HR NG e L G n w where
 dom := h.dom
 live b o hb := by
  obtain ⟨x, hx, hO⟩ := h.live b o hb;have hne : b ≠ l := fun he => by subst he; rw [hl] at hb; cases hb
  exact ⟨x, hx, hO.keep (Env.le_refl e) rfl (Zi7 (c := (asg, body)) hne).symm⟩
 inj := h.inj
 glob := h.glob
theorem HR.free {NG : Nat} {e : Env} {L : Zag} {G : Nat → Option AObj} {n : Nat} {w : World} (h : HR NG e L G n w) {b : Nat} (hb : n ≤ b) : e.f b = none ∧ G b = none := by
 have h1 : e.f b = none := by
  cases hf : e.f b with
  | none => rfl
  | some x => exact absurd (h.dom _ _ hf) (by omega)
 refine ⟨h1, ?_⟩;cases hg : G b with
 | none => rfl
 | some p => obtain ⟨y, hy, _⟩ := h.live b p hg; rw [h1] at hy; cases hy
section
variable {P : Program} {X : XP} (ok : XPok P X) (okf : FnOk P X) {R : Rec} (hR : RecOk P P.globals.size R)
def Zdf (P : Program) (X : XP) (R : Rec) : Prop := ∀ L f first captured args H outs, R.call L (.fn f first captured) args H = some outs → Zcj (X.fns.get f) = true → ∀ e w v1 v2 v3, cvs e first = some v1 → cvs e args = some v2 → cvs e captured = some v3 →
 HR P.globals.size e L H.objs.get H.next w →
 (callFunc f (v1.toArray ++ v2.toArray ++ v3.toArray)).run P w = .ok (.enter f (v1.toArray ++ v2.toArray ++ v3.toArray)) w ∧ Calls P f (v1.toArray ++ v2.toArray ++ v3.toArray) w (fun en w' => ∃ y, en = .returned y ∧ ZaZ P.globals.size L e H w outs y w')
theorem Zfp (hB : Zdf P X R) {fid : FuncId} {L : Zag} {fr fr' : Fr} {d : Nat} {H0 H : AHeap} {f : FuncId} {first captured : List AV} {ps : Array Tmp} {asg body : Code} {outs : List (XE × Fr × AHeap)} (hbody : Zcj (X.fns.get f) = true)
 (h : Zi6 R fid L fr fr' d H (.fn f first captured) ps asg body = some outs) {e0 e : Env} {a a' : Act} {w0 w : World} {mark : List Deferred} {v1 v3 : List Value} {xd : Nat × Nat} {g : Operand}
 (h1 : cvs e first = some v1) (h3 : cvs e captured = some v3) (hg : a.eval g = .func (.func f) v1.toArray v3.toArray) (ha' : a' = { a with defers := mark ++ a.defers }) (hF : FR e fr a) (hF' : FR e fr' a')
 (hH : HR P.globals.size e L H.objs.get H.next w) (hT0 : Tran e0 H0.objs.get H0.next w0 e H.objs.get H.next w) (hd : e.f d = some xd) {b : Frame} {k : List Item} {cs : List Frame} (hb1 : b.fn = fid) (hb2 : b.kind = .normal)
 (henter : (Instr.enterLoop b.fn a.tmps ps asg body b.roundOf).run P w0 = .ok (w.heap.size, mark) { w with heap := w.heap.push (.loop { state := .ready, pending := none, fn := fid, tmps := a.tmps, params := ps, assign := asg, body := body, defers := xd.1 }) }) :
 ∃ x a1 w1, ZaN P.globals.size L e0 H0 w0 outs x a1 w1 ∧ Arr P (lone (b.atR a (.code (.rangeFunc g ps asg body) :: k)) cs w0) b k cs x a1 w1 := by
 unfold Zi6 at h;obtain ⟨l1, hl1⟩ := Za3 h;rw [hl1] at h;obtain ⟨hfree, hGfree⟩ := hH.free (Nat.le_refl H.next);have hle := Env.le_ext hfree (w.heap.size, 0)
 let w2 : World := { w with heap := w.heap.push (.loop { state := .ready, pending := none, fn := fid, tmps := a.tmps, params := ps, assign := asg, body := body, defers := xd.1 }) }
 have hnd : (Zfo fr).tm = fr.tm ∧ (Zfo fr).n = fr.n := by cases fr; exact ⟨rfl, rfl⟩
 have hne : d ≠ H.next := fun he => by subst he; rw [hfree] at hd; cases hd
 have hO : Zdx (e.ext H.next (w.heap.size, 0)) ((H.next, asg, body) :: L) H.next (w.heap.size, 0) w2 (.loop .ready none fid (Zfo fr) ps.toList d) := by
  refine ⟨asg, body, xd, a.tmps, ZmT, by rw [Env.ext_ne _ _ hne]; exact hd, ?_, ?_⟩
  ·simp [w2]
  ·rw [hnd.1, hnd.2]; exact hF.tm.le hle
 have hH2 : HR P.globals.size (e.ext H.next (w.heap.size, 0)) ((H.next, asg, body) :: L) (H.new (.loop .ready none fid (Zfo fr) ps.toList d)).objs.get (H.next + 1) w2 := by
  show HR _ _ _ (H.objs.set H.next _).get _ _;rw [Zad];exact HR.alloc ((hH.consL hGfree asg body).bump (Nat.le_succ _)) hfree (Nat.lt_succ_self _) rfl hO
 have hT2 : Tran e H.objs.get H.next w (e.ext H.next (w.heap.size, 0)) (H.new (.loop .ready none fid (Zfo fr) ps.toList d)).objs.get (H.next + 1) w2 := by
  show Tran _ _ _ _ _ (H.objs.set H.next _).get _ _;rw [Zad];exact Tran.alloc hfree (Nat.le_refl _) (Nat.le_succ _) rfl rfl rfl rfl rfl
 have hyld : cvs (e.ext H.next (w.heap.size, 0)) [.yld H.next] = some [.func (.yield w.heap.size) #[] #[]] := by
  simp only [cvs, cv, Env.ext_same]
 obtain ⟨hcf, hcalls⟩ := hB _ _ _ _ _ _ _ hl1 hbody _ w2 v1 _ v3 (ZbL hle _ _ h1) hyld (ZbL hle _ _ h3) hH2;have hres : (resolve a.eval (rangeCall g w.heap.size) 0).run P w2 = .ok { target := .fn (.func f) v3.toArray, args := v1.toArray ++ #[.func (.yield w.heap.size) #[] #[]] } w2 := by
  have hargs : (#[Operand.const (.func (.yield w.heap.size) #[] #[])]).map a.eval = #[Value.func (.yield w.heap.size) #[] #[]] := by simp [Act.eval]
  show (Deferred.ofValue (a.eval g) ((#[Operand.const (.func (.yield w.heap.size) #[] #[])]).map a.eval)).run P w2 = _;rw [hg, hargs]; rfl
 have hinv : (invoke (.fn (.func f) v3.toArray) (v1.toArray ++ #[.func (.yield w.heap.size) #[] #[]])).run P w2 = .ok (.enter f (v1.toArray ++ [Value.func (.yield w.heap.size) #[] #[]].toArray ++ v3.toArray)) w2 := by
  simp only [invoke]; exact hcf
 have hstep := stepR_rangeFunc (P := P) (b := b) (a := a) (k := k) (cs := cs) (w := w0) henter hres hinv;obtain ⟨en, w3, frl, ⟨y, rfl, v, H3, hm, e3, hy, hH3, hT3⟩, hcomes, _, hleave⟩ := hcalls (b.atR { a with defers := mark ++ a.defers } (.inRangeFunc w.heap.size :: k) :: cs)
 obtain ⟨o, ho, hsub⟩ := Zbd h _ hm;have hx3 : e3.f H.next = some (w.heap.size, 0) := hT3.le.1 _ _ (Env.ext_same _ _ _);have hback : Steps P (lone (b.atR a (.code (.rangeFunc g ps asg body) :: k)) cs w0) (lone (b.atR a' (.endRangeFunc w.heap.size :: k)) cs w3) := by
  refine .head hstep (Steps.trans hcomes (.one ?_));rw [ha', ← finish_atR_inRangeFunc w.heap.size y]; exact step_leave_returned hleave
 have fin : ∀ (st : LoopState) (pend : Option XE) (fn' : FuncId) (frr : Fr) (pp : List Tmp) (dd : Nat), H3.objs.get H.next = some (.loop st pend fn' frr pp dd) → st ≠ .busy →
  ∃ w4, (Instr.endLoop w.heap.size).run P w3 = .ok (pend.map XE.toCode) w4 ∧ FR e3 fr' a' ∧ HR P.globals.size e3 L (H3.set H.next none).objs.get (H3.set H.next none).next w4 ∧
   Tran e0 H0.objs.get H0.next w0 e3 (H3.set H.next none).objs.get (H3.set H.next none).next w4 := by
  intro st pend fn' frr pp dd hob hst;obtain ⟨r, q0, q1, q2, _⟩ := Zb0 (st' := .exhausted) (pend' := pend) hH3 hx3 hob;have hsame : ∀ B, B ≠ w.heap.size → (w3.heap.setIfInBounds w.heap.size (.loop { r with state := .exhausted }))[B]? = w3.heap[B]? := fun B hB => Array.getElem?_setIfInBounds_ne (fun h => hB h.symm)
  have hset : (H3.set H.next none).objs.get = upd H3.objs.get H.next none := by show (H3.objs.set H.next none).get = _; rw [Zad]
  refine ⟨{ w3 with heap := w3.heap.setIfInBounds w.heap.size (.loop { r with state := .exhausted }) }, ?_, (hF'.le (Env.le_trans hle hT3.le)), ?_, ?_⟩
  ·have hnb : (r.state == .busy) = false := by rw [q1]; simpa using hst
   have q0' : w3.heap[w.heap.size]? = some (.loop r) := q0;simp only [Instr.endLoop, Sem.run_bind, ZbB q0', Result.andThen_ok, hnb, Bool.false_eq_true, if_false, Zc0 q0', Sem.run_pure, q2]
  ·rw [hset];exact (hH3.dropWrite hob hx3 hsame).tailL (by rw [upd_same])
  ·rw [hset];exact (hT0.trans (hT2.trans hT3)).trans (Tran.dropWrite hob hx3 rfl hsame (by simp) rfl rfl rfl)
 unfold Zi1 Zi0 at ho
 split at ho
 ·cases ho
 ·rename_i st fn' frr pp dd hnb hob;simp only [Option.some.injEq] at ho; subst ho;obtain ⟨w4, hend, hF4, hH4, hT4⟩ := fin st none fn' frr pp dd hob (fun he => hnb he)
  refine ⟨.normal, a', w4, ⟨fr', _, e3, hsub _ (by simp), hF4, hH4, hT4⟩, ?_⟩
  exact Steps.trans hback (.one (stepR_endRangeFunc hend))
 ·rename_i st x fn' frr pp dd hnb hob;simp only [Option.some.injEq] at ho; subst ho;obtain ⟨w4, hend, hF4, hH4, hT4⟩ := fin st (some x) fn' frr pp dd hob (fun he => hnb he)
  have hs4 : Steps P (lone (b.atR a (.code (.rangeFunc g ps asg body) :: k)) cs w0) (lone (b.atR a' (.code x.toCode :: k)) cs w4) := Steps.trans hback (.one (stepR_endRangeFunc hend));refine ⟨x, a', w4, ⟨fr', _, e3, hsub _ (by simp), hF4, hH4, hT4⟩, ?_⟩
  cases x with
  | normal => exact Steps.trans hs4 (.one stepR_skip)
  | exit id => exact ⟨k, rfl, hs4⟩
  | ret => exact ⟨k, hs4⟩
 ·cases ho
include ok in
theorem ZmU (hB : Zdf P X R) {rd ro : Option Nat} {fid : FuncId} {L : Zag} {fr : Fr} {H : AHeap} {g : Operand} {ps : Array Tmp} {asg body : Code} {outs : List (XE × Fr × AHeap)}
 (h : Zln X R rd fid L fr H ps asg body (Zdy X fr.tm g) = some outs) {e : Env} {a : Act} {w : World} (hF : FR e fr a) (hH : HR P.globals.size e L H.objs.get H.next w) (hro : ZkP e rd ro) :
 Zdn P fid ro (.rangeFunc g ps asg body) (ZaN P.globals.size L e H w outs) a w := by
 intro b k cs hb1 hb2 hb3;have hev := Zem ok hF hH.glob;unfold Zln at h
 split at h
 ·rename_i f first captured hfv
  simp only [Zaw] at h;cases hbody : Zcj (X.fns.get f) with
  | false => rw [hbody] at h; cases h
  | true =>
   rw [hbody] at h; simp only [cond_true] at h;obtain ⟨v1, v3, h1, h3, hg⟩ := Zg5 (hev _ _ hfv);unfold Zok at h
   split at h
   ·
    simp only [ZkP] at hro;obtain ⟨hfree, hGfree⟩ := hH.free (Nat.le_refl H.next);have hle := Env.le_ext hfree (w.heap.size, 0)
    let w1 : World := { w with heap := w.heap.push (.deferred (some [])) }
    have hH1 : HR P.globals.size (e.ext H.next (w.heap.size, 0)) L (H.new (.defr true)).objs.get (H.next + 1) w1 := by
     show HR _ _ _ (H.objs.set H.next _).get _ _;rw [Zad];exact HR.alloc (hH.bump (Nat.le_succ _)) hfree (Nat.lt_succ_self _) rfl (by simp [Zdx, w1])
    have hT1 : Tran e H.objs.get H.next w (e.ext H.next (w.heap.size, 0)) (H.new (.defr true)).objs.get (H.next + 1) w1 := by
     show Tran _ _ _ _ _ (H.objs.set H.next _).get _ _;rw [Zad];exact Tran.alloc hfree (Nat.le_refl _) (Nat.le_succ _) rfl rfl rfl rfl rfl
    have hF' : FR (e.ext H.next (w.heap.size, 0)) (ZhZ fr H.next) { a with defers := [{ target := .collected w.heap.size, args := #[] }] ++ a.defers } := by
     have hFl := hF.le hle;obtain ⟨tm, n, ds⟩ := fr;refine ⟨hFl.tm, ?_⟩;have := hFl.defs;simp only at this;simp only [ZhZ, ZeN, Env.ext_same, this]; rfl
    exact Zfp hB hbody h (ZbL hle _ _ h1) (ZbL hle _ _ h3) hg rfl (hF.le hle) hF' hH1 hT1 (Env.ext_same _ _ _) hb1 hb2 (by
     rw [hb3, hro, hb1]
     simp [Instr.enterLoop, w1]; rfl)
   ·rename_i l;obtain ⟨x, hx, hro'⟩ := hro
    split at h
    ·rename_i d hd;unfold Zlm at hd
     split at hd
     ·rename_i st pend fn' frr pp dd hob;simp only [Option.some.injEq] at hd; subst hd;obtain ⟨r, q0, q1, q2, q3, q4, q5, q6, ⟨xd, hxd, hrd⟩, _⟩ := Zb0 (st' := .ready) (pend' := none) hH hx hob
      exact Zfp hB hbody h h1 h3 hg (mark := []) rfl hF hF hH (Tran.refl _ _ _ _) hxd hb1 hb2 (by
       rw [hb3, hro', hb1]
       simp [Instr.enterLoop, ZbB q0, hrd])
     ·cases hd
    ·cases h
 ·cases h
end
end
end Go.X

/- Merging outcomes. -/
namespace Go.X
noncomputable section
set_option linter.unusedSectionVars false
theorem Zek : ∀ {a b : List Nat}, ZcO a b = true → a = b := by
 intro a
 induction a with
 | nil => intro b h; cases b with
  | nil => rfl
  | cons => simp [ZcO] at h
 | cons x a ih =>
  intro b h;cases b with
  | nil => simp [ZcO] at h
  | cons y b =>
   simp only [ZcO, Bool.and_eq_true] at h;rw [Zab h.1, ih h.2]
theorem Cap.same_of {a b : Cap} (h : a.same b = true) : a = b := by
 cases a <;> cases b <;> simp only [Cap.same, Bool.false_eq_true] at h <;> rw [Zab h]
mutual
theorem AV.same_of : ∀ (a b : AV), a.same b = true → a = b
 | .undef, b, h => by cases b <;> simp [AV.same] at h; rfl
 | .bool x, b, h => by cases b <;> simp [AV.same] at h; rw [h]
 | .int k n, b, h => by
  cases b <;> simp only [AV.same, Bool.false_eq_true, Bool.and_eq_true, Zfx] at h
  rw [Zje h.1, eq_of_beq h.2]
 | .str s, b, h => by cases b <;> simp only [AV.same, Bool.false_eq_true] at h; rw [Zek h]
 | .nilp, b, h => by cases b <;> simp [AV.same] at h; rfl
 | .nils, b, h => by cases b <;> simp [AV.same] at h; rfl
 | .nilm, b, h => by cases b <;> simp [AV.same] at h; rfl
 | .nilf, b, h => by cases b <;> simp [AV.same] at h; rfl
 | .nili, b, h => by cases b <;> simp [AV.same] at h; rfl
 | .ptr x y, b, h => by
  cases b <;> simp only [AV.same, Bool.false_eq_true, Bool.and_eq_true] at h
  rw [Zab h.1, Zab h.2]
 | .sl x y z c, b, h => by
  cases b <;> simp only [AV.same, Bool.false_eq_true, Bool.and_eq_true] at h
  rw [Zab h.1.1.1, Zab h.1.1.2, Zab h.1.2, Cap.same_of h.2]
 | .fn f x y, b, h => by
  cases b <;> simp only [AV.same, Bool.false_eq_true, Bool.and_eq_true] at h
  rw [Zab h.1.1, AV.sames_of _ _ h.1.2, AV.sames_of _ _ h.2]
 | .yld x, b, h => by cases b <;> simp only [AV.same, Bool.false_eq_true] at h; rw [Zab h]
 | .ifc t v, b, h => by
  cases b <;> simp only [AV.same, Bool.false_eq_true, Bool.and_eq_true] at h
  rw [Zab h.1, AV.same_of _ _ h.2]
 | .agg x, b, h => by cases b <;> simp only [AV.same, Bool.false_eq_true] at h; rw [AV.sames_of _ _ h]
 | .tup x, b, h => by cases b <;> simp only [AV.same, Bool.false_eq_true] at h; rw [AV.sames_of _ _ h]
 | .capOf x y, b, h => by
  cases b <;> simp only [AV.same, Bool.false_eq_true, Bool.and_eq_true] at h
  rw [Zab h.1, Zab h.2]
 | .sym x, b, h => by cases b <;> simp only [AV.same, Bool.false_eq_true] at h; rw [Zab h]
theorem AV.sames_of : ∀ (a b : List AV), AV.sames a b = true → a = b
 | [], b, h => by cases b <;> simp [AV.sames] at h; rfl
 | x :: a, b, h => by
  cases b with
  | nil => simp [AV.sames] at h
  | cons y b =>
   simp only [AV.sames, Bool.and_eq_true] at h;rw [AV.same_of _ _ h.1, AV.sames_of _ _ h.2]
end
theorem Tr.isEmpty_get {α : Type} : ∀ (t : Tr α), t.isEmpty = true → ∀ n, t.get n = none := by
 intro t
 induction t with
 | nil => intro _ n; rfl
 | node v l r ihl ihr =>
  intro h n;simp only [Tr.isEmpty, Bool.and_eq_true] at h;rw [Tr.get_node]
  split
  ·simpa using h.1.1
  ·split
   ·exact ihl h.1.2 _
   ·exact ihr h.2 _
theorem Tr.sub_get {α : Type} {f : α → α → Bool} : ∀ (t t' : Tr α), t.sub f t' = true → ∀ n x, t.get n = some x → ∃ y, t'.get n = some y ∧ f x y = true := by
 intro t
 induction t with
 | nil => intro t' _ n x hx; cases hx
 | node v l r ihl ihr =>
  intro t' h n x hx;cases t' with
  | nil =>
   simp only [Tr.sub] at h;rw [Tr.isEmpty_get _ h] at hx; cases hx
  | node v' l' r' =>
   simp only [Tr.sub, Bool.and_eq_true] at h;rw [Tr.get_node] at hx ⊢
   by_cases h0 : n = 0
   ·rw [if_pos h0] at hx ⊢;have := h.1.1;rw [hx] at this;cases v' with
    | none => simp [Zoe] at this
    | some y => exact ⟨y, rfl, this⟩
   ·rw [if_neg h0] at hx ⊢
    by_cases h1 : n % 2 = 1
    ·rw [if_pos h1] at hx ⊢; exact ihl l' h.1.2 _ _ hx
    ·rw [if_neg h1] at hx ⊢; exact ihr r' h.2 _ _ hx
theorem Zfq {α : Type} {f : α → α → Bool} (hf : ∀ a b, f a b = true → a = b) {a b : Option α} (h : ZfY f a b = true) : a = b := by
 cases a <;> cases b <;> simp only [ZfY, Bool.false_eq_true] at h
 ·rfl
 ·rw [hf _ _ h]
theorem AObj.sub_ok {o1 o2 : AObj} (h : AObj.sub o1 o2 = true) : o1.wr = o2.wr ∧ ∀ {e : Env} {L : Zag} {b : Nat} {x : Nat × Nat} {w : World}, Zdx e L b x w o2 → Zdx e L b x w o1 := by
 cases o1 with
 | blk el ro sz cells =>
  cases o2 with
  | blk el' ro' sz' cells' =>
   simp only [AObj.sub, Bool.and_eq_true] at h;obtain ⟨⟨⟨h1, h2⟩, h3⟩, h4⟩ := h;have e1 := Zab h1;have e2 : ro = ro' := eq_of_beq h2;have e3 : sz = sz' := by
    cases sz <;> cases sz' <;> simp only [Sz.same, Bool.false_eq_true, Bool.and_eq_true] at h3
    ·rw [Zab h3]
    ·rw [Zab h3.1.1, Zab h3.2, Zfq (fun a b h => Zab h) h3.1.2]
   subst e1; subst e2; subst e3;refine ⟨rfl, fun {e L b x w} hO => ?_⟩
   obtain ⟨c, fz, g1, g2, g3, g4⟩ := hO;refine ⟨c, fz, g1, g2, g3, fun i v hv => ?_⟩
   obtain ⟨v', hv', hs⟩ := Tr.sub_get cells cells' h4 i v hv;rw [AV.same_of _ _ hs];exact g4 i v' hv'
  | _ => simp [AObj.sub] at h
 | loop st p f fr ps d =>
  cases o2 with
  | loop st' p' f' fr' ps' d' =>
   simp only [AObj.sub, Bool.and_eq_true] at h;obtain ⟨⟨⟨⟨⟨h1, h2⟩, h3⟩, h4⟩, h5⟩, h6⟩ := h;have e1 : st = st' := eq_of_beq h1;have e2 : p = p' := Zfq (fun a b h => by cases a <;> cases b <;> simp only [XE.same, Bool.false_eq_true] at h <;> first | rfl | rw [Zab h]) h2
   have e3 := Zab h3;have e5 : ps = ps' := Zek h5;have e6 := Zab h6;subst e1; subst e2; subst e3; subst e5; subst e6;simp only [Fr.sub, Bool.and_eq_true] at h4;obtain ⟨⟨⟨k1, k2⟩, k3⟩, _⟩ := h4;refine ⟨rfl, fun {e L b x w} hO => ?_⟩
   obtain ⟨asg, body, xd, t, g1, g2, g3, g4⟩ := hO;refine ⟨asg, body, xd, t, g1, g2, g3, ?_⟩;refine ⟨by rw [Zab k3]; exact g4.1, fun i => ?_⟩
   have : fr.tm.getU i = fr'.tm.getU i := by
    unfold Tr.getU;cases hi : fr.tm.get i with
    | some v =>
     obtain ⟨v', hv', hs⟩ := Tr.sub_get _ _ k1 i v hi;rw [hv', AV.same_of _ _ hs]
    | none =>
     cases hi' : fr'.tm.get i with
     | none => rfl
     | some v' => obtain ⟨v, hv, _⟩ := Tr.sub_get _ _ k2 i v' hi'; rw [hi] at hv; cases hv
   rw [this]; exact g4.2 i
  | _ => simp [AObj.sub] at h
 | defr a =>
  cases o2 with
  | defr b =>
   simp only [AObj.sub] at h;have := eq_of_beq h;subst this;exact ⟨rfl, fun {e L b x w} hO => hO⟩
  | _ => simp [AObj.sub] at h
 | siter s p =>
  cases o2 with
  | siter s' p' =>
   simp only [AObj.sub, Bool.and_eq_true] at h;rw [Zek h.1, Zab h.2];exact ⟨rfl, fun {e L b x w} hO => hO⟩
  | _ => simp [AObj.sub] at h
def LeG (G' G : Nat → Option AObj) : Prop := ∀ b o1, G' b = some o1 → ∃ o2, G b = some o2 ∧ AObj.sub o1 o2 = true
theorem HR.leG {NG : Nat} {e : Env} {L : Zag} {G G' : Nat → Option AObj} {n : Nat} {w : World} (h : HR NG e L G n w) (hs : LeG G' G) : HR NG e L G' n w where
 dom := h.dom
 live b o hb := by
  obtain ⟨o2, h2, hsub⟩ := hs b o hb;obtain ⟨x, hx, hO⟩ := h.live b o2 h2;exact ⟨x, hx, (AObj.sub_ok hsub).2 hO⟩
 inj b c o p x y hb hc := by
  obtain ⟨o2, h2, _⟩ := hs b o hb;obtain ⟨p2, h3, _⟩ := hs c p hc;exact h.inj b c o2 p2 x y h2 h3
 glob := h.glob
theorem Tran.leG {e e' : Env} {G G1 G' : Nat → Option AObj} {n n' : Nat} {w w' : World} (h : Tran e G n w e' G1 n' w') (hs : LeG G' G1) : Tran e G n w e' G' n' w' :=
 { h with
   foot := fun B hB => h.foot B (by
    obtain ⟨b, o, x, h1, h2, h3, h4⟩ := hB;obtain ⟨o2, g1, g2⟩ := hs b o h1
    exact ⟨b, o2, x, g1, by rw [← (AObj.sub_ok g2).1]; exact h2, h3, h4⟩)
   ro := fun b o hb hr => by
    obtain ⟨o2, g1, g2⟩ := hs b o hb
    exact h.ro b o2 g1 (by rw [← (AObj.sub_ok g2).1]; exact hr) }
theorem ZgR : ∀ (args : List AV) (t : Tr AObj) (c : Nat) (o : AObj), (Zc9 t args).get c = some o → t.get c = some o := by
 intro args
 induction args with
 | nil => intro t c o h; exact h
 | cons a args ih =>
  intro t c o h;unfold Zc9 at h
  split at h
  ·rename_i heq; cases heq
  ·rename_i heq;injection heq with h1 h2;subst h2;have := ih _ _ _ h;rw [Tr.get_set] at this
   split at this
   ·cases this
   ·exact this
  ·rename_i heq;injection heq with h1 h2;subst h2;exact ih _ _ _ h
theorem ZgS (lo : Nat) : ∀ (n : Nat) (t : Tr AObj) (c : Nat) (o : AObj), (Zei lo n t).get c = some o → t.get c = some o := by
 intro n
 induction n with
 | zero => intro t c o h; exact h
 | succ n ih =>
  intro t c o h;simp only [Zei] at h;have := ih _ _ _ h;rw [Tr.get_set] at this
  split at this
  ·cases this
  ·exact this
theorem ZjK : ∀ (l : List (AV × AHeap)) (v : AV) (H : AHeap), (v, H) ∈ l → H.next ≤ ZdB l := by
 intro l
 induction l with
 | nil => intro v H h; cases h
 | cons p l ih =>
  intro v H h;obtain ⟨v0, H0⟩ := p;simp only [ZdB];rcases List.mem_cons.1 h with heq | h
  ·cases heq; exact Nat.le_max_left _ _
  ·exact Nat.le_trans (ih v H h) (Nat.le_max_right _ _)
theorem Zey {NG n0 N : Nat} {args : List AV} {L : Zag} {e : Env} {H0 : AHeap} {w : World} {v v' : AV} {H H' : AHeap} {y : Value} {w' : World} (h : Zcy n0 N args (v, H) = some (v', H')) (hN : H.next ≤ N) (ho : Zrh NG L e H0 w v H y w') : Zrh NG L e H0 w v' H' y w' := by
 obtain ⟨e1, hy, hH, hT⟩ := ho;unfold Zcy at h
 split at h
 ·rename_i b off len cap H1 heq;cases heq;unfold Zqg at h
  split at h
  ·rename_i k el lo hi es cells hob;simp only [Zaw] at h;cases hb : Nat.ble (k + len) lo with
   | false => rw [hb] at h; cases h
   | true =>
    rw [hb] at h; simp only [cond_true, Option.some.injEq, Prod.mk.injEq] at h;obtain ⟨rfl, rfl⟩ := h;have hle := Zak hb;obtain ⟨x, hx, hy'⟩ := Zbk hy;obtain ⟨x', hx', hO⟩ := hH.live b _ hob;rw [hx] at hx'; cases hx';obtain ⟨hfree, _⟩ := hH.free hN;have hlee := Env.le_ext hfree x;have hOn : Zdx (e1.ext N x) L N x w' (.blk el false (.opn (k + len) none es) cells) := by
     obtain ⟨c, fz, g1, g2, ⟨g3, g4, g5⟩, g6⟩ := hO;exact ⟨c, fz, g1, g2, ⟨g3, by omega, fun _ h => by cases h⟩, fun i v hv => let ⟨z, hz, hc⟩ := g6 i v hv; ⟨z, ZjX hlee _ _ hz, hc⟩⟩
    have hsub : Sub (Zle n0 N args H b (.blk el false (.opn (k + len) none es) cells)).get (upd (upd H.objs.get b none) N (some (.blk el false (.opn (k + len) none es) cells))) := by
     intro c o hc;simp only [Zle] at hc;rw [Tr.get_set] at hc
     by_cases hcN : c = N
     ·subst hcN; rw [if_pos rfl] at hc; rw [upd_same]; exact hc
     ·rw [if_neg hcN] at hc;have h1 := ZgS _ _ _ _ _ hc;rw [Tr.get_set] at h1
      by_cases hcb : c = b
      ·rw [if_pos hcb] at h1; cases h1
      ·rw [if_neg hcb] at h1;rw [upd_ne _ _ hcN, upd_ne _ _ hcb];exact ZgR _ _ _ _ h1
    refine ⟨e1.ext N x, ?_, ?_, ?_⟩
    ·simp only [cv, Env.ext_same]; rw [hy']
    ·exact ((hH.bump (show H.next ≤ N + 1 by omega)).rebind hob hx hfree (Nat.lt_succ_self _) (fun _ _ => rfl) hOn).weaken hsub
    ·exact (hT.trans (Tran.rebind hob hx rfl rfl hfree hN (show H.next ≤ N + 1 by omega) (fun _ _ => rfl) rfl rfl rfl rfl)).weaken hsub
  ·cases h
 ·cases h
theorem ZgT {n0 N : Nat} {args : List AV} {v : AV} {H : AHeap} : ∀ {r : List (AV × AHeap)}, Zda n0 N args v H r = true → ∀ p ∈ r, ∃ q, Zcy n0 N args p = some q ∧ v = q.1 ∧ H.next = q.2.next ∧ H.objs.sub AObj.sub q.2.objs = true := by
 intro r
 induction r with
 | nil => intro _ p hp; cases hp
 | cons o r ih =>
  intro h p hp;simp only [Zda] at h;cases hm : Zcy n0 N args o with
  | none => rw [hm] at h; cases h
  | some q =>
   rw [hm] at h;simp only [Bool.and_eq_true] at h;rcases List.mem_cons.1 hp with rfl | hp
   ·exact ⟨q, hm, AV.same_of _ _ h.1.1.1, Zab h.1.1.2, h.1.2⟩
   ·exact ih h.2 p hp
theorem ZdZ {P : Program} {X : XP} : Zig P X := by
 intro f _ n0 as r L e H w y w' _ h;unfold Zev
 split
 ·exact h
 ·exact h
 ·rename_i o o' r';unfold ZgN
  split
  ·rename_i p hp;simp only [Zaw];cases hm : Zda n0 (ZdB (o :: o' :: r')) as p.1 p.2 (o' :: r') with
   | false => exact h
   | true =>
    simp only [cond_true];obtain ⟨v, H', hmem, ho⟩ := h;have hN := ZjK _ _ _ hmem;rcases List.mem_cons.1 hmem with rfl | hmem'
    ·exact ⟨p.1, p.2, by simp, Zey hp hN ho⟩
    ·obtain ⟨q, hq, h1, h2, h3⟩ := ZgT hm _ hmem';obtain ⟨e1, hy, hH, hT⟩ := Zey hq hN ho;have hle : LeG p.2.objs.get q.2.objs.get := fun b o1 hb => Tr.sub_get _ _ h3 b o1 hb
     exact ⟨p.1, p.2, by simp, e1, by rw [h1]; exact hy, by rw [h2]; exact hH.leG hle, by rw [h2]; exact hT.leG hle⟩
  ·exact h
end
end Go.X

/- A region whose order is drawn: what the static look says; the frame behind a set of operations. -/
namespace Go.X
noncomputable section
set_option linter.unusedSectionVars false
theorem Zlq (B : Tr Nat) : ∀ (es : List Edge) (m j : Nat), Nat.testBit (ZgP B es m) j = true →
 Nat.testBit m j = true ∨ ∃ e ∈ es, Region.binds .any e = true ∧ (j = e.on ∨ Nat.testBit (Zch (B.get e.on)) j = true) := by
 intro es
 induction es with
 | nil => intro m j h; exact .inl h
 | cons e es ih =>
  intro m j h;simp only [ZgP, Zaw] at h;cases hb : Region.binds .any e with
  | false =>
   rw [hb] at h;rcases ih m j h with h1 | ⟨e', h1, h2⟩
   ·exact .inl h1
   ·exact .inr ⟨e', List.mem_cons_of_mem _ h1, h2⟩
  | true =>
   rw [hb] at h;rcases ih _ j h with h1 | ⟨e', h1, h2⟩
   ·have h1' : Nat.testBit ((m ||| 2 ^ e.on) ||| Zch (B.get e.on)) j = true := h1
    rw [Nat.testBit_or, Nat.testBit_or, Bool.or_eq_true, Bool.or_eq_true, Nat.testBit_two_pow] at h1';rcases h1' with (h3 | h3) | h3
    ·exact .inl h3
    ·exact .inr ⟨e, List.mem_cons_self .., hb, .inl (by simpa using h3 : e.on = j).symm⟩
    ·exact .inr ⟨e, List.mem_cons_self .., hb, .inr h3⟩
   ·exact .inr ⟨e', List.mem_cons_of_mem _ h1, h2⟩
theorem Zlr : ∀ (os : List Oper) (k : Nat) (B : Tr Nat), (∀ x, k ≤ x → B.get x = none) →
 (∀ x, x < k → (ZhY k os B).get x = B.get x) ∧ (∀ x, k + os.length ≤ x → (ZhY k os B).get x = none) ∧
 ∀ (i : Nat) (o : Oper), os[i]? = some o → ∀ j, bit (ZhY k os B) (k + i) j = true → ∃ e ∈ o.after.toList, Region.binds .any e = true ∧ (j = e.on ∨ bit (ZhY k os B) e.on j = true) := by
 intro os
 induction os with
 | nil => intro k B hB; exact ⟨fun _ _ => rfl, fun x hx => hB x (by simpa using hx), fun i o h => by simp at h⟩
 | cons o os ih =>
  intro k B hB;obtain ⟨h1, h2, h3⟩ := ih (k + 1) (B.set k (some (ZgP B o.after.toList 0))) (fun x hx => by rw [Tr.get_set, if_neg (by omega)]; exact hB x (by omega))
  refine ⟨fun x hx => ?_, fun x hx => ?_, ?_⟩
  ·show (ZhY (k + 1) os _).get x = _;rw [h1 x (by omega), Tr.get_set, if_neg (by omega)]
  ·exact h2 x (by simp only [List.length_cons] at hx; omega)
  ·intro i p hp j hj;cases i with
   | zero =>
    simp only [List.getElem?_cons_zero, Option.some.injEq] at hp; subst hp;have hj' : Nat.testBit (Zch ((ZhY (k + 1) os (B.set k (some (ZgP B o.after.toList 0)))).get k)) j = true := hj;rw [h1 k (by omega), Tr.get_set, if_pos rfl] at hj'
    rcases Zlq B _ _ _ hj' with h4 | ⟨e, he, hb, h5⟩
    ·simp at h4
    ·refine ⟨e, he, hb, h5.imp id fun h6 => ?_⟩
     have hlt : e.on < k := by
      rcases Nat.lt_or_ge e.on k with h7 | h7
      ·exact h7
      ·rw [hB _ h7] at h6; simp [Zch] at h6
     show Nat.testBit (Zch ((ZhY (k + 1) os _).get e.on)) j = true;rw [h1 _ (by omega), Tr.get_set, if_neg (by omega)]
     exact h6
   | succ i =>
    have hj' : bit (ZhY (k + 1) os (B.set k (some (ZgP B o.after.toList 0)))) (k + 1 + i) j = true := by
     have : k + 1 + i = k + (i + 1) := by omega
     rw [this]; exact hj
    exact h3 i p (by simpa using hp) j hj'
theorem Zez : ∀ (os : List Oper) (k : Nat), Zcz k os = true → ∀ (i : Nat) (o : Oper), os[i]? = some o → ∀ e ∈ o.after.toList, Region.binds .any e = true → e.on < k + i := by
 intro os
 induction os with
 | nil => intro k _ i o h; simp at h
 | cons o os ih =>
  intro k h i p hp e he hb;simp only [Zcz, Bool.and_eq_true] at h;cases i with
  | zero =>
   simp only [List.getElem?_cons_zero, Option.some.injEq] at hp; subst hp;have := List.all_eq_true.1 h.1 e he;rw [hb] at this;have := ZaF this;omega
  | succ i =>
   have := ih (k + 1) h.2 i p (by simpa using hp) e he hb
   omega
theorem ZjL (B : Tr Nat) (i : Nat) (names : List Tmp) : ∀ (ps : List Oper) (k : Nat), Zlj B i names k ps = true → ∀ (j : Nat) (p : Oper), ps[j]? = some p → Zli B i names (k + j) p.dst = true := by
 intro ps
 induction ps with
 | nil => intro k _ j p h; simp at h
 | cons q ps ih =>
  intro k h j p hp;simp only [Zlj, Bool.and_eq_true] at h;cases j with
  | zero => simp only [List.getElem?_cons_zero, Option.some.injEq] at hp; subst hp; exact h.1
  | succ j =>
   have := ih (k + 1) h.2 j p (by simpa using hp)
   have e1 : k + 1 + j = k + (j + 1) := by omega
   rw [e1] at this; exact this
theorem Zh1 (B : Tr Nat) (all : Array Oper) : ∀ (os : List Oper) (k : Nat), Zi2 B all k os = true → ∀ (i : Nat) (o : Oper), os[i]? = some o → Zlj B (k + i) (o.looksAt all) 0 all.toList = true := by
 intro os
 induction os with
 | nil => intro k _ j p h; simp at h
 | cons q os ih =>
  intro k h i o ho;simp only [Zi2, Bool.and_eq_true] at h;cases i with
  | zero => simp only [List.getElem?_cons_zero, Option.some.injEq] at ho; subst ho; exact h.1
  | succ i =>
   have := ih (k + 1) h.2 i o (by simpa using ho)
   have e1 : k + 1 + i = k + (i + 1) := by omega
   rw [e1] at this; exact this
theorem ZjM : ∀ (os : List Oper), ZmR os = true → ∀ (i j : Nat) (o p : Oper) (t : Nat), os[i]? = some o → os[j]? = some p → o.dst = some t → p.dst = some t → i = j := by
 intro os
 induction os with
 | nil => intro _ i j o p t h; simp at h
 | cons q os ih =>
  intro h;simp only [ZmR, Bool.and_eq_true] at h;have hne : ∀ (j : Nat) (p : Oper) (t : Nat), os[j]? = some p → q.dst = some t → p.dst = some t → False := by
   intro j p t hp hq hd;have := List.all_eq_true.1 h.1 p (List.mem_of_getElem? hp);simp only [Zi3, hq, hd] at this;rw [ZbK rfl] at this; cases this
  intro i j o p t hi hj ho hp;cases i with
  | zero =>
   simp only [List.getElem?_cons_zero, Option.some.injEq] at hi; subst hi;cases j with
   | zero => rfl
   | succ j => exact (hne j p t (by simpa using hj) ho hp).elim
  | succ i =>
   cases j with
   | zero =>
    simp only [List.getElem?_cons_zero, Option.some.injEq] at hj; subst hj;exact (hne i o t (by simpa using hi) hp ho).elim
   | succ j => rw [ih h.2 i j o p t (by simpa using hi) (by simpa using hj) ho hp]
structure Stat (ops : Array Oper) (B : Tr Nat) : Prop where
 bef : ∀ (i : Nat) (o : Oper), ops[i]? = some o → ∀ j, bit B i j = true → ∃ e ∈ o.after, Region.binds .any e = true ∧ (j = e.on ∨ bit B e.on j = true)
 none : ∀ i, ops.size ≤ i → ∀ j, bit B i j = false
 edge : ∀ (i : Nat) (o : Oper), ops[i]? = some o → ∀ e ∈ o.after, Region.binds .any e = true → e.on < i
 row : ∀ (i : Nat) (o : Oper) (j : Nat) (p : Oper) (t : Nat), ops[i]? = some o → ops[j]? = some p → p.dst = some t → ZkO t (o.looksAt ops) = true → (j < i → bit B i j = true) ∧ (i < j → bit B j i = true)
 dst : ∀ (i j : Nat) (o p : Oper) (t : Nat), ops[i]? = some o → ops[j]? = some p → o.dst = some t → p.dst = some t → i = j
theorem Zf8 {ops : Array Oper} (h : Zdd ops = true) : Stat ops (ZhY 0 ops.toList .nil) := by
 simp only [Zdd, Bool.and_eq_true] at h;obtain ⟨⟨h1, h2⟩, h3⟩ := h;obtain ⟨_, b2, b3⟩ := Zlr ops.toList 0 .nil (fun x _ => rfl)
 have hl : ∀ i : Nat, ops.toList[i]? = ops[i]? := fun i => by simp
 refine ⟨fun i o ho j hj => ?_, fun i hi j => ?_, fun i o ho e he hb => ?_, fun i o j p t ho hp hd hm => ?_, fun i j o p t hi hj => ?_⟩
 ·obtain ⟨e, he, h4⟩ := b3 i o (by rw [hl]; exact ho) j (by rw [Nat.zero_add]; exact hj)
  exact ⟨e, by simpa using he, h4⟩
 ·unfold bit; rw [b2 i (by simpa using hi)]; simp [Zch]
 ·have := Zez ops.toList 0 h3 i o (by rw [hl]; exact ho) e (by simpa using he) hb
  omega
 ·have h4 := Zh1 _ ops ops.toList 0 h1 i o (by rw [hl]; exact ho)
  have h5 := ZjL _ _ _ ops.toList 0 h4 j p (by rw [hl]; exact hp)
  simp only [Nat.zero_add, Zli, hd, Zqh, hm, Zaw, cond_true, ZbT] at h5;refine ⟨fun hlt => ?_, fun hlt => ?_⟩
  ·rw [decide_eq_true hlt] at h5; exact h5
  ·rw [decide_eq_false (by omega : ¬ j < i), decide_eq_true hlt] at h5; exact h5
 ·exact ZjM ops.toList h2 i j o p t (by rw [hl]; exact hi) (by rw [hl]; exact hj)
theorem Stat.lt {ops : Array Oper} {B : Tr Nat} (h : Stat ops B) : ∀ (i j : Nat), bit B i j = true → j < i := by
 intro i
 induction i using Nat.strongRecOn with
 | _ i ih =>
  intro j hj;cases ho : ops[i]? with
  | none =>
   have : ops.size ≤ i := by simpa using ho
   rw [h.none i this j] at hj; cases hj
  | some o =>
   obtain ⟨e, he, hb, h1⟩ := h.bef i o ho j hj;have h2 := h.edge i o ho e he hb;rcases h1 with rfl | h1
   ·exact h2
   ·have := ih e.on h2 j h1; omega
def ZbJ (ops : Array Oper) (recs : List RRec) (fr : Fr) (j : Nat) : Fr :=
 match ops[j]?, recs[j]? with
 | some o, some r => fr.put o.dst r.v
 | _, _ => fr
def Zf9 (ops : Array Oper) (recs : List RRec) (fr : Fr) (l : List Nat) : Fr := l.foldl (ZbJ ops recs) fr
theorem Fr.put_n (fr : Fr) (d : Option Tmp) (v : AV) : (fr.put d v).n = fr.n := by
 obtain ⟨tm, n, ds⟩ := fr;cases d with
 | none => rfl
 | some d => simp only [Fr.put, Zaw]; cases Nat.blt d n <;> rfl
theorem Fr.put_defs (fr : Fr) (d : Option Tmp) (v : AV) : (fr.put d v).defs = fr.defs := by
 obtain ⟨tm, n, ds⟩ := fr;cases d with
 | none => rfl
 | some d => simp only [Fr.put, Zaw]; cases Nat.blt d n <;> rfl
theorem Fr.put_get (fr : Fr) (d : Option Tmp) (v : AV) (t : Nat) : (fr.put d v).tm.get t = if d = some t ∧ t < fr.n then some v else fr.tm.get t := by
 obtain ⟨tm, n, ds⟩ := fr;cases d with
 | none => rw [if_neg (by simp)]; rfl
 | some d =>
  simp only [Fr.put, Zaw, ZbT]
  by_cases hd : d < n
  ·rw [decide_eq_true hd];show (tm.set d (some v)).get t = _;rw [Tr.get_set]
   by_cases ht : t = d
   ·subst ht; rw [if_pos rfl, if_pos ⟨rfl, hd⟩]
   ·rw [if_neg ht, if_neg (by rintro ⟨h1, _⟩; cases h1; exact ht rfl)]
  ·rw [decide_eq_false hd];show tm.get t = _;rw [if_neg (by rintro ⟨h1, h2⟩; cases h1; exact hd h2)]
section
variable {ops : Array Oper} {recs : List RRec}
theorem Zi8 (fr : Fr) (j : Nat) : (ZbJ ops recs fr j).n = fr.n := by
 unfold ZbJ; split
 ·exact Fr.put_n ..
 ·rfl
theorem Zh2 (fr : Fr) (j : Nat) : (ZbJ ops recs fr j).defs = fr.defs := by
 unfold ZbJ; split
 ·exact Fr.put_defs ..
 ·rfl
theorem Zol (fr : Fr) (l : List Nat) : (Zf9 ops recs fr l).n = fr.n := by
 induction l generalizing fr with
 | nil => rfl
 | cons j l ih => exact (ih _).trans (Zi8 fr j)
theorem ZgU (fr : Fr) (l : List Nat) : (Zf9 ops recs fr l).defs = fr.defs := by
 induction l generalizing fr with
 | nil => rfl
 | cons j l ih => exact (ih _).trans (Zh2 fr j)
theorem Zel {t : Nat} {V : AV} (hV : ∀ (j : Nat) p, ops[j]? = some p → p.dst = some t → ∃ r, recs[j]? = some r ∧ r.v = V) (l : List Nat) (fr : Fr) :
 ((t < fr.n ∧ ∃ j ∈ l, ∃ p, ops[j]? = some p ∧ p.dst = some t) → (Zf9 ops recs fr l).tm.get t = some V) ∧
 (¬ (t < fr.n ∧ ∃ j ∈ l, ∃ p, ops[j]? = some p ∧ p.dst = some t) → (Zf9 ops recs fr l).tm.get t = fr.tm.get t) := by
 induction l generalizing fr with
 | nil => exact ⟨fun ⟨_, j, hj, _⟩ => by simp at hj, fun _ => rfl⟩
 | cons j l ih =>
  obtain ⟨h1, h2⟩ := ih (ZbJ ops recs fr j);rw [Zi8] at h1 h2;have hone : (t < fr.n ∧ ∃ p, ops[j]? = some p ∧ p.dst = some t) → (ZbJ ops recs fr j).tm.get t = some V := by
   rintro ⟨hlt, p, hp, hd⟩;obtain ⟨r, hr, hv⟩ := hV j p hp hd;unfold ZbJ; rw [hp, hr];simp only;rw [Fr.put_get, if_pos ⟨hd, hlt⟩, hv]
  have hno : ¬ (t < fr.n ∧ ∃ p, ops[j]? = some p ∧ p.dst = some t) → (ZbJ ops recs fr j).tm.get t = fr.tm.get t := by
   intro hn;unfold ZbJ
   split
   ·rename_i o r ho hr;rw [Fr.put_get, if_neg];rintro ⟨hd, hlt⟩;exact hn ⟨hlt, o, ho, hd⟩
   ·rfl
  show _ ∧ _
  by_cases hl : t < fr.n ∧ ∃ j ∈ l, ∃ p, ops[j]? = some p ∧ p.dst = some t
  ·refine ⟨fun _ => h1 hl, fun hn => (hn ?_).elim⟩
   obtain ⟨hlt, i, hi, hp⟩ := hl;exact ⟨hlt, i, List.mem_cons_of_mem _ hi, hp⟩
  ·have h3 := h2 hl;refine ⟨fun hh => ?_, fun hn => ?_⟩
   ·obtain ⟨hlt, i, hi, hp⟩ := hh;rcases List.mem_cons.1 hi with rfl | hi
    ·exact h3.trans (hone ⟨hlt, hp⟩)
    ·exact (hl ⟨hlt, i, hi, hp⟩).elim
   ·refine h3.trans (hno ?_);rintro ⟨hlt, hp⟩;exact hn ⟨hlt, j, List.mem_cons_self .., hp⟩
theorem Zfr {B : Tr Nat} (hs : Stat ops B) (hlen : recs.length = ops.size) {t : Nat} {l l' : List Nat} (fr : Fr) (h : ∀ (j : Nat) p, ops[j]? = some p → p.dst = some t → (j ∈ l ↔ j ∈ l')) :
 (Zf9 ops recs fr l).tm.get t = (Zf9 ops recs fr l').tm.get t := by
 by_cases hex : ∃ (j : Nat) (p : Oper), ops[j]? = some p ∧ p.dst = some t
 ·obtain ⟨j0, p0, hp0, hd0⟩ := hex;have hj0 : j0 < recs.length := by
   rw [hlen]; exact (Array.getElem?_eq_some_iff.1 hp0).1
  have hV : ∀ (j : Nat) p, ops[j]? = some p → p.dst = some t → ∃ r, recs[j]? = some r ∧ r.v = (recs[j0]).v := by
   intro j p hp hd;have := hs.dst j j0 p p0 t hp hp0 hd hd0;subst this;exact ⟨recs[j], by simp [hj0], rfl⟩
  obtain ⟨h1, h2⟩ := Zel hV l fr;obtain ⟨k1, k2⟩ := Zel hV l' fr
  by_cases hc : t < fr.n ∧ ∃ j ∈ l, ∃ p, ops[j]? = some p ∧ p.dst = some t
  ·have hc' : t < fr.n ∧ ∃ j ∈ l', ∃ p, ops[j]? = some p ∧ p.dst = some t := by
    obtain ⟨hlt, j, hj, p, hp, hd⟩ := hc;exact ⟨hlt, j, (h j p hp hd).1 hj, p, hp, hd⟩
   rw [h1 hc, k1 hc']
  ·have hc' : ¬ (t < fr.n ∧ ∃ j ∈ l', ∃ p, ops[j]? = some p ∧ p.dst = some t) := by
    rintro ⟨hlt, j, hj, p, hp, hd⟩;exact hc ⟨hlt, j, (h j p hp hd).2 hj, p, hp, hd⟩
   rw [h2 hc, k2 hc']
 ·have hV : ∀ (j : Nat) p, ops[j]? = some p → p.dst = some t → ∃ r, recs[j]? = some r ∧ r.v = AV.undef := fun j p hp hd => (hex ⟨j, p, hp, hd⟩).elim
  have hno : ∀ l : List Nat, ¬ (t < fr.n ∧ ∃ j ∈ l, ∃ p, ops[j]? = some p ∧ p.dst = some t) := by
   rintro l ⟨_, j, _, p, hp, hd⟩;exact hex ⟨j, p, hp, hd⟩
  rw [(Zel hV l fr).2 (hno l), (Zel hV l' fr).2 (hno l')]
end
theorem FR.congr {e : Env} {fr fr' : Fr} {a : Act} (h : FR e fr a) (h1 : ∀ t, fr'.tm.get t = fr.tm.get t) (h2 : fr'.n = fr.n) (h3 : fr'.defs = fr.defs) : FR e fr' a := by
 refine ⟨⟨by rw [h2]; exact h.tm.1, fun i => ?_⟩, by rw [h3]; exact h.defs⟩
 have := h.tm.2 i;unfold Tr.getU at *
 rw [h1 i]; exact this
theorem ZmV {X : XP} {e : Env} {tm tm' : Tr AV} {names : List Tmp} {ρ : Operand → Value} (h : Ze9 e (Zdy X tm) ρ) (hn : ∀ t, ZkO t names = true → tm.get t = tm'.get t) : Ze9 e (Zew X tm' names) ρ := by
 intro x v hx;cases x with
 | tmp t =>
  simp only [Zew, Zaw] at hx;cases hm : ZkO t names with
  | false => rw [hm] at hx; cases hx
  | true =>
   rw [hm] at hx;refine h (.tmp t) v ?_;simp only [cond_true, Zdy] at hx ⊢;rw [hn t hm]; exact hx
 | const c => exact h _ _ hx
 | global g => exact h _ _ hx
 | func f => exact h _ _ hx
theorem ZjN {names : List Tmp} {ops : List Oper} {tm tm' : Tr AV} {g : Option (Nat × Bool)} {b : Bool} (h : ZcT names ops tm' g = some b) (hn : ∀ t, ZkO t names = true → tm.get t = tm'.get t) : ZcS ops tm g = some b := by
 cases g with
 | none => exact h
 | some jw =>
  obtain ⟨j, want⟩ := jw;simp only [ZcT, Zaw] at h;simp only [ZcS];cases hg : Zex names ops[j]? with
  | false => rw [hg] at h; cases h
  | true =>
   rw [hg] at h;simp only [cond_true] at h;rw [← h];cases ho : ops[j]? with
   | none => rfl
   | some o =>
    rw [ho] at hg;obtain ⟨dst, op, ty, pos, after, guard⟩ := o;cases dst with
    | none => rfl
    | some d =>
     simp only [Zex] at hg;simp only [ZdA];rw [hn d hg]
end
end Go.X
