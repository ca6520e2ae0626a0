/- The operations that write memory, together; the operations that fork. -/
import Derived.Test.YtnmkiflnonafbaaGreatDoorE6
import Derived.Laws.RangeString
set_option linter.unusedVariables false
namespace Go.X
noncomputable section
set_option linter.unusedSectionVars false
def NextIs (n : Next) (y : Value) : Prop := n = .value y ∨ (n = .skip ∧ y = Go.undef)
section
variable {P : Program} {X : XP} (ok : XPok P X) (w : World) {e : Env} {L : Loops} {H : AHeap} {nx : Nat} {NG : GP} (hH : HR NG e L H.objs.get nx w)
theorem evals_two {ev : Operand → Option AV} {ρ : Operand → Value} (hev : EvOk e ev ρ) {args : Array Operand} {a b : AV} (h : evals ev args.toList = some [a, b]) : ∃ x y, cv e a = some x ∧ cv e b = some y ∧ args.map ρ = #[x, y] := by
 have := evals_cvs hev h;obtain ⟨x, z, hx, hz, he⟩ := cvs_cons this;obtain ⟨y, z', hy, hz', rfl⟩ := cvs_cons hz;simp only [cvs, Option.some.injEq] at hz'; subst hz';refine ⟨x, y, hx, hy, ?_⟩;apply Array.ext';simpa using he
include ok hH in
theorem storeV_run {t b off : Nat} {v : AV} {y : Value} (hv : cv e v = some y) {H' : AHeap} (h : storeV X H t b off v = some H') {x : Nat × Nat} (hx : e.f b = some x) :
 ∃ w', (storeVar t ⟨x.1, off, none⟩ y).run P w = .ok () w' ∧ HR NG e L H'.objs.get nx w' ∧ Tran e H.objs.get nx w e H'.objs.get nx w' ∧ H'.next = H.next := by
 unfold storeV at h;cases ht : X.tys.get t with
 | none => rw [ht] at h; cases h
 | some ti =>
  rw [ht] at h;simp only [brec] at h;cases hb : Nat.beq v.cells.length ti.size with
  | false => rw [hb] at h; cases h
  | true =>
   rw [hb] at h; simp only [cond_true] at h;have hlen := nbeq_of hb;have hns : ∀ i, v ≠ .sym i := by
    intro i hi; subst hi;unfold putCells at h
    split at h
    ·simp [AV.cells, AV.isCell] at h
    ·cases h
   have hc := cv_cells hv hns;obtain ⟨x', w', hx', hrun, h1, h2, h3⟩ := putCells_run (P := P) hH h hc;rw [hx] at hx'; cases hx';refine ⟨w', ?_, h1, h2, h3⟩;have hsz : y.cells.size = ti.size := by have := cvs_length hc; simp at this; omega
   simp [storeVar, run_sizeOf' w (ok.tys t ti ht), hsz, hrun]
theorem srcCells_run {es n : Nat} {x : AV} {vx : Value} (hx : cv e x = some vx) {xs : List AV} (h : srcCells H es n x = some xs) (hl : ∃ m, lenA x = some m ∧ n ≤ m) (hH : HR NG e L H.objs.get nx w) :
 ∃ ys, cvs e xs = some ys ∧ ys.length = n * es ∧ ∀ W : World, W.heap = w.heap → (Builtin.firstCells es n vx).run P W = .ok ys.toArray W := by
 obtain ⟨m, hm, hnm⟩ := hl;unfold srcCells at h
 split at h
 ·simp only [brec] at h;cases hb : Nat.beq n 0 with
  | false => rw [hb] at h; cases h
  | true =>
   rw [hb] at h; simp only [cond_true, Option.some.injEq] at h; subst h;have := nbeq_of hb; subst this;simp only [cv, Option.some.injEq] at hx; subst hx;exact ⟨[], rfl, by simp, fun W _ => by simp [Builtin.firstCells]⟩
 ·rename_i b off len c;obtain ⟨x0, hx0, rfl⟩ := cv_sl hx;obtain ⟨x', os, hx', hos, hol, hcell⟩ := getCells_cv hH h;rw [hx0] at hx'; cases hx';refine ⟨os, hos, hol, fun W hW => ?_⟩
  have hr := run_loadCells_list (P := P) W ⟨x0.1, off, none⟩ os (fun j u hj => by
   rw [add_none];have := hcell j u hj;simp only [World.cell?] at this ⊢
   rw [hW]; exact this)
  rw [hol] at hr;simp only [Builtin.firstCells, hr]
 ·rename_i s;obtain ⟨hs, rfl⟩ := cv_str hx;simp only [lenA, Option.some.injEq] at hm; subst hm;simp only [brec] at h;cases hb1 : Nat.beq es 1 with
  | false => rw [hb1] at h; cases h
  | true =>
  have h1 := nbeq_of hb1;subst h1;rw [hb1] at h;simp only [cond_true, Option.some.injEq] at h; subst h;refine ⟨(s.take n).map (fun (b : Nat) => Value.int .u8 (b : Int)), ?_, by simp; omega, fun W _ => ?_⟩
  ·have key : ∀ l : List Nat, cvs e (l.map fun b => AV.int .u8 (.ofNat b)) = some (l.map fun (b : Nat) => Value.int .u8 (b : Int)) := by
    intro l
    induction l with
    | nil => rfl
    | cons b l ih => exact cvs_mk rfl ih
   exact key _
  ·simp only [Builtin.firstCells, Sem.run_pure]
   congr 1
   apply Array.ext';simp only [bytesOf, ByteArray.data_extract, Array.toList_map, Array.toList_extract];simp only [List.extract_eq_take_drop, List.drop_zero, Nat.sub_zero, List.map_take, List.map_map]
   congr 1
   apply List.map_congr_left;intro b hb;have := hs b hb;simp; omega
 ·cases h
theorem lenA_run {x : AV} {vx : Value} (hx : cv e x = some vx) {n : Nat} (h : lenA x = some n) : ∀ W : World, (Builtin.lenOf vx).run P W = .ok n W := by
 intro W;unfold lenA at h
 split at h
 ·simp only [cv, Option.some.injEq] at hx; subst hx; simp only [Option.some.injEq] at h; subst h; rfl
 ·obtain ⟨x0, _, rfl⟩ := cv_sl hx; simp only [Option.some.injEq] at h; subst h; rfl
 ·obtain ⟨_, rfl⟩ := cv_str hx; simp only [Option.some.injEq] at h; subst h; simp [Builtin.lenOf, bytesOf_size]
 ·cases h
theorem tk_src {t : TypeId} {ti : TyI} (ht : TyOk P t ti) (hk : (∃ e', ti.k = .slice e') ∨ ti.k = .str) : ∃ d, P.underlying t = some d ∧ ((∃ e', d = .slice e') ∨ d = .string) := by
 rcases hk with ⟨e', h⟩ | h
 ·exact ⟨_, tk_slice ht h, .inl ⟨e', rfl⟩⟩
 ·exact ⟨_, tk_str ht h, .inr rfl⟩
theorem zeroCells_eq {z : Value} {n size : Nat} (hz : z.cells.size = size) : Builtin.zeroCells z.cells n = (Array.range (n * size)).map (fun i => z.cells[i % size]!) := by
 simp only [Builtin.zeroCells, hz]
include ok hH in
theorem wAppend_run {ev : Operand → Option AV} {ρ : Operand → Value} (hev : EvOk e ev ρ) {args : Array Operand} {ts : Array TypeId} {nid n0 : Nat} {v : AV} {H' : AHeap}
 (h : wAppend X H nid (ty0 X ts 0) (ty0 X ts 1) (evals ev args.toList) = some (v, H')) (hn : e.f nid = none) (hlt : nid < nx) (hn0 : n0 ≤ nid) (ty : TypeId) :
 ∃ e' y w', (Builtin.append_ ts ty (args.map ρ)).run P w = .ok y w' ∧ cv e' v = some y ∧ HR NG e' L H'.objs.get nx w' ∧ Tran e H.objs.get n0 w e' H'.objs.get nx w' ∧ H'.next = H.next := by
 unfold wAppend at h
 split at h
 ·rename_i ti ui s x ht hu' ha;obtain ⟨vs, vx, hvs, hvx, hargs⟩ := evals_two hev ha;have ht0 : ∃ t, ts[0]? = some t ∧ X.tys.get t = some ti := by
   unfold ty0 at ht; cases h0 : ts[0]? with
   | none => rw [h0] at ht; cases ht
   | some t => rw [h0] at ht; exact ⟨t, rfl, ht⟩
  have ht1 : ∃ t, ts[1]? = some t ∧ X.tys.get t = some ui := by
   unfold ty0 at hu'; cases h0 : ts[1]? with
   | none => rw [h0] at hu'; cases hu'
   | some t => rw [h0] at hu'; exact ⟨t, rfl, hu'⟩
  obtain ⟨t, h0, htt⟩ := ht0;obtain ⟨u, h1, huu⟩ := ht1;have hkt := ok.tys t ti htt;have hku := ok.tys u ui huu;rw [hargs];unfold wAppend2 at h
  split at h
  ·rename_i el htk;have hut := tk_slice hkt htk;cases hel : X.tys.get el with
   | none => rw [hel] at h; simp [wAppend3] at h
   | some ei =>
    rw [hel] at h;have hke := ok.tys el ei hel;have viaCells : (∃ e', ui.k = .slice e') ∨ ui.k = .str → wAppendSrc H nid el ei s x (lenA x) = some (v, H') →
     ∃ e' y w', (Builtin.append_ ts ty #[vs, vx]).run P w = .ok y w' ∧ cv e' v = some y ∧ HR NG e' L H'.objs.get nx w' ∧ Tran e H.objs.get n0 w e' H'.objs.get nx w' ∧ H'.next = H.next := by
     intro hkk hh;obtain ⟨d, hd, hdd⟩ := tk_src hku hkk;unfold wAppendSrc at hh
     split at hh
     ·rename_i n hln;cases hsc : srcCells H ei.size n x with
      | none => rw [hsc] at hh; simp [wAppendCells] at hh
      | some xs =>
       rw [hsc] at hh;simp only [wAppendCells, brec] at hh;cases hok : apOk ei n (lenA s) with
       | false => rw [hok] at hh; cases hh
       | true =>
        rw [hok] at hh; simp only [cond_true] at hh;obtain ⟨ys, hys, hlen, hrun⟩ := srcCells_run (P := P) w hvx hsc ⟨n, hln, Nat.le_refl _⟩ hH;exact appendA_run ok w hH h0 hut hel hys hlen (Src.cells u d h1 hd hdd (lenA_run hvx hln) hrun) hvs hok hh hn hlt hn0
     ·cases hh
    unfold wAppend3 at h
    split at h
    ·rename_i ei' k heq hk';simp only [Option.some.injEq] at heq; subst heq;unfold wAppendZeros at h
     split at h
     ·rename_i k' n;simp only [brec] at h;cases hok : apOk ei n (lenA s) with
      | false => rw [hok] at h; cases h
      | true =>
       rw [hok] at h; simp only [cond_true] at h;have hbd : n < 1048576 ∧ ei.bytes ≤ 1048576 := by
        unfold apOk at hok
        split at hok
        ·simp only [Bool.and_eq_true] at hok;exact ⟨by have := nblt_of hok.1.1; omega, nble_of hok.1.2⟩
        ·cases hok
       obtain ⟨inf, hinf, hs1, hs2, z, hz, hzc⟩ := hke.info;have hzcv := (ofConsts_cvs e hzc).1;have hzl : z.cells.size = ei.size := by have := cvs_length hzcv; simp at this; rw [this, hke.len]
       have hzeros := zeros_cvs hzcv n;rw [hzl] at hzeros;refine appendA_run ok w hH h0 hut hel hzeros (by simp) (Src.zeros u k k' h1 (tk_int hku hk') (cv_int hvx) hbd.1 z (fun W => by simp [zeroValue, run_typeInfo' W hinf, hz]) inf (fun W => run_typeInfo' W hinf) (by rw [hs2]; exact hbd.2) ?_ ?_) hvs hok h hn hlt hn0
       ·intro h00; rw [h00]; simp
       ·intro _; rw [zeroCells_eq hzl]
     ·cases h
    ·rename_i ei' e' heq hk';simp only [Option.some.injEq] at heq; subst heq;exact viaCells (.inl ⟨_, hk'⟩) h
    ·rename_i ei' heq hk';simp only [Option.some.injEq] at heq; subst heq;exact viaCells (.inr hk') h
    ·cases h
  ·cases h
 ·cases h
end
end
end Go.X

/- The operations that write maps, walk over them, or turn bytes into a string. -/
namespace Go.X
noncomputable section
set_option linter.unusedSectionVars false
theorem MEsOk.append {e : Env} : ∀ {ms : List ME} {xs : List MapEntry}, MEsOk e ms xs → ∀ {m : ME} {x : MapEntry}, cv e m.key = some x.key → cv e m.val = some x.val → x.born = m.born → MEsOk e (ms ++ [m]) (xs ++ [x])
 | [], [], _, _, _, h1, h2, h3 => ⟨⟨h1, h2, h3⟩, trivial⟩
 | _ :: _, _ :: _, h, _, _, h1, h2, h3 => ⟨h.1, MEsOk.append h.2 h1 h2 h3⟩
 | [], _ :: _, h, _, _, _, _, _ => h.elim
 | _ :: _, [], h, _, _, _, _, _ => h.elim
theorem MEsOk.get {e : Env} : ∀ {ms : List ME} {xs : List MapEntry}, MEsOk e ms xs → ∀ {i : Nat} {m : ME}, ms[i]? = some m → ∃ x, xs[i]? = some x ∧ cv e m.key = some x.key ∧ cv e m.val = some x.val ∧ x.born = m.born
 | [], [], _, _, _, h => by simp at h
 | m :: ms, x :: xs, hm, 0, _, h => by simp at h; subst h; exact ⟨x, by simp, hm.1⟩
 | m :: ms, x :: xs, hm, i + 1, _, h => by simp at h; simpa using MEsOk.get hm.2 h
 | [], _ :: _, h, _, _, _ => h.elim
 | _ :: _, [], h, _, _, _ => h.elim
theorem findA_at {tk : TK} {k : AV} : ∀ {es : List ME} {j : Nat} {p : Nat × AV}, findA tk k j es = some (some p) → j ≤ p.1 ∧ ∃ m, es[p.1 - j]? = some m ∧ sameA tk k m.key = some true ∧ m.val = p.2
 | [], j, p, h => by simp [findA] at h
 | m :: es, j, p, h => by
  simp only [findA] at h;cases hs : sameA tk k m.key with
  | none => rw [hs] at h; cases h
  | some b =>
   rw [hs] at h;cases b with
   | true => simp only [findK, Option.some.injEq] at h; subst h; exact ⟨Nat.le_refl _, m, by simp, hs, rfl⟩
   | false =>
    simp only [findK] at h;obtain ⟨h1, m', h2, h3, h4⟩ := findA_at h;refine ⟨by omega, m', ?_, h3, h4⟩
    rw [show p.1 - j = (p.1 - (j + 1)) + 1 by omega]; simpa using h2
theorem strEq_bytes {a b : List Nat} (ha : ∀ x ∈ a, x < 256) (hb : ∀ x ∈ b, x < 256) (h : strEq a b = true) : (Value.string (bytesOf a)) = .string (bytesOf b) := by
 rw [strEq_eq a b ha hb, beq_iff_eq] at h;unfold bytesOf; rw [h]
theorem sameA_eq {tk : TK} {k m : AV} (h : sameA tk k m = some true) {e : Env} {vk vm : Value} (hk : cv e k = some vk) (hm : cv e m = some vm) : vk = vm ∧ Instr.sameBits 10000 vm vk = true := by
 unfold sameA at h
 split at h
 ·cases cv_int hk; cases cv_int hm;rename_i k1 a k2 c;simp only [brec] at h;cases hkk : kEq k1 k2 with
  | false => rw [hkk] at h; cases h
  | true =>
   rw [hkk] at h; simp only [cond_true, Option.some.injEq, iEq_eq, beq_iff_eq] at h;obtain rfl := kEq_of hkk;subst h;exact ⟨rfl, by unfold Instr.sameBits; simp⟩
 ·obtain ⟨ha, rfl⟩ := cv_str hk;obtain ⟨hb, rfl⟩ := cv_str hm;simp only [Option.some.injEq] at h;have hEq := strEq_bytes ha hb h;refine ⟨hEq, ?_⟩;rw [← hEq];unfold Instr.sameBits;rw [beq_toListBytes]; simp
 ·cases h
section
variable {P : Program} {X : XP} (ok : XPok P X) (w : World) {e : Env} {L : Loops} {H : AHeap} {nx : Nat} {NG : GP} (hH : HR NG e L H.objs.get nx w)
theorem keyStays {old new : Value} (h : old = new) (hs : Instr.sameBits 10000 old new = true) : (Instr.keyThatStays old new).run P w = .ok old w := by
 subst h; unfold Instr.keyThatStays; rw [if_pos hs]; rfl
theorem setME_ok {key : Value} : ∀ {ms : List ME} {xs : List MapEntry}, MEsOk e ms xs → ∀ (i : Nat) {v : AV} {y : Value}, cv e v = some y → (∀ m, ms[i]? = some m → cv e m.key = some key) → MEsOk e (setME v i ms) (xs.modify i fun x => { x with key := key, val := y })
 | [], [], _, i, _, _, _, _ => by cases i <;> exact trivial
 | m :: ms, x :: xs, h, 0, _, _, hy, hk => ⟨⟨hk m (by simp), hy, h.1.2.2⟩, h.2⟩
 | m :: ms, x :: xs, h, i + 1, _, _, hy, hk => ⟨h.1, setME_ok h.2 i hy (fun m hm => hk m (by simpa using hm))⟩
 | [], _ :: _, h, _, _, _, _, _ => h.elim
 | _ :: _, [], h, _, _, _, _, _ => h.elim
theorem delME_ok : ∀ {ms : List ME} {xs : List MapEntry}, MEsOk e ms xs → ∀ (i : Nat), MEsOk e (delME i ms) (xs.eraseIdx i)
 | [], [], _, i => by cases i <;> exact trivial
 | m :: ms, x :: xs, h, 0 => h.2
 | m :: ms, x :: xs, h, i + 1 => ⟨h.1, delME_ok h.2 i⟩
 | [], _ :: _, h, _ => h.elim
 | _ :: _, [], h, _ => h.elim
include hH in
theorem setObj_run {b : Nat} {o o' : AObj} {x : Nat × Nat} {ob ob' : Obj} (hb : H.objs.get b = some o) (hx : e.f b = some x) (hob : w.heap[x.1]? = some ob) (hw : o.wr = true) (hw' : o'.wr = true)
 (ho : ObjR e L b x { w with heap := w.heap.setIfInBounds x.1 ob' } o') :
 HR NG e L (H.set b (some o')).objs.get nx { w with heap := w.heap.setIfInBounds x.1 ob' } ∧ Tran e H.objs.get nx w e (H.set b (some o')).objs.get nx { w with heap := w.heap.setIfInBounds x.1 ob' } := by
 have hset : (H.set b (some o')).objs.get = X.upd H.objs.get b (some o') := by
  show (H.objs.set b _).get = _; rw [get_set_upd]
 rw [hset]
 exact ⟨hH.upd hb hx hw (fun B hB => by simp only; rw [Array.getElem?_setIfInBounds_ne (fun h => hB h.symm)]) ho,
  Tran.upd hb hx hw hw' (fun B hB => by simp only; rw [Array.getElem?_setIfInBounds_ne (fun h => hB h.symm)]) (by simp) rfl rfl rfl⟩
theorem mobj_set {b : Nat} {x : Nat × Nat} {xs : Array MapEntry} {c : Nat} {es : List ME} (hlt : x.1 < w.heap.size) (hm : MEsOk e es xs.toList) : ObjR e L b x { w with heap := w.heap.setIfInBounds x.1 (.map xs c) } (.mobj es c) :=
 ⟨xs, by simp [hlt], hm⟩
include ok hH in
theorem wUpd_run {t : TypeId} {am ak ax v : AV} {vm vk vx : Value} {H' : AHeap} (hm : cv e am = some vm) (hk : cv e ak = some vk) (hx : cv e ax = some vx) (h : wUpd X H (X.tys.get t) (some am) (some ak) (some ax) = some (v, H')) :
 ∃ w', (Instr.mapUpdate t vm vk vx).run P w = .ok () w' ∧ v = .undef ∧ HR NG e L H'.objs.get nx w' ∧ Tran e H.objs.get nx w e H'.objs.get nx w' ∧ H'.next = H.next := by
 unfold wUpd at h
 split at h
 ·rename_i ti b k' x' ht h1 h2 h3;cases h1; cases h2; cases h3;obtain ⟨x, hx0, rfl⟩ := cv_mpr hm;have kt := ok.tys _ _ ht;unfold wUpd2 at h
  split at h
  ·rename_i kty el htk;have hu := tk_map kt htk;cases hki : X.tys.get kty with
   | none => rw [hki] at h; cases h
   | some ki =>
    rw [hki] at h;have kk := ok.tys _ _ hki;simp only at h;unfold wUpd3 at h
    split at h
    ·rename_i es c hob;simp only [brec] at h;cases hkey : isKey ki.k with
     | false => rw [hkey] at h; cases h
     | true =>
      rw [hkey] at h; simp only [cond_true] at h;obtain ⟨x', hx', xs, g1, g2⟩ := hH.live _ _ hob;rw [hx0] at hx'; cases hx';have hlt : x.1 < w.heap.size := ObjR.lt (L := L) (e := e) (b := b) (o := .mobj es c) ⟨xs, g1, g2⟩;have hck := isKey_plain (P := P) w kk hkey false vk;have hget := getObj_at (P := P) w g1;cases hf : findA ki.k ak 0 es with
      | none => rw [hf] at h; cases h
      | some r =>
       rw [hf] at h;obtain ⟨r', hr', hR⟩ := findKey_run (P := P) w kk hk g2 hf;cases r with
       | none =>
        simp only [FindR] at hR; subst hR;simp only [wUpd4, Option.some.injEq, Prod.mk.injEq] at h;obtain ⟨rfl, rfl⟩ := h;have hset := setObj_at (P := P) w g1 (o' := .map (xs.push { key := vk, val := vx, born := c }) (c + 1));have hs := setObj_run (ob' := .map (xs.push { key := vk, val := vx, born := c }) (c + 1)) w hH hob hx0 g1 rfl rfl (o' := .mobj (es ++ [⟨ak, ax, c⟩]) (c + 1)) (mobj_set w hlt (by rw [Array.toList_push]; exact g2.append hk hx rfl))
        refine ⟨_, ?_, rfl, hs.1, hs.2, rfl⟩;simp only [Instr.mapUpdate, Sem.run_bind, run_underlying hu, Result.andThen_ok, hget, hck, hr', hset]
       | some p =>
        obtain ⟨y, rfl, hy⟩ := hR;simp only [wUpd4, Option.some.injEq, Prod.mk.injEq] at h;obtain ⟨rfl, rfl⟩ := h;obtain ⟨_, m, hm1, hm2, hm3⟩ := findA_at hf;rw [Nat.sub_zero] at hm1;obtain ⟨z, hz1, hz2, hz3, hz4⟩ := g2.get hm1;obtain ⟨heq, hbits⟩ := sameA_eq hm2 hk hz2;have hzk : ((xs[p.1]?).map (·.key)).getD vk = z.key := by
         have : xs[p.1]? = some z := by rw [← Array.getElem?_toList]; exact hz1
         rw [this]; rfl
        have hstay := keyStays (P := P) w heq.symm hbits;have hset := setObj_at (P := P) w g1 (o' := .map (xs.modify p.1 fun e => { e with key := z.key, val := vx }) c)
        have hs := setObj_run (ob' := .map (xs.modify p.1 fun e => { e with key := z.key, val := vx }) c) w hH hob hx0 g1 rfl rfl (o' := .mobj (setME ax p.1 es) c) (mobj_set w hlt (by
         rw [Array.toList_modify]
         exact setME_ok g2 p.1 hx (fun m' hm' => by rw [hm1] at hm'; cases hm'; exact hz2)))
        refine ⟨_, ?_, rfl, hs.1, hs.2, rfl⟩;simp only [Instr.mapUpdate, Sem.run_bind, run_underlying hu, Result.andThen_ok, hget, hck, hr', hzk, hstay, hset]
    ·cases h
  ·cases h
 ·cases h
include ok hH in
theorem wDelete_run {ev : Operand → Option AV} {ρ : Operand → Value} (hev : EvOk e ev ρ) {args : Array Operand} {ts : Array TypeId} {v : AV} {H' : AHeap}
 (h : wDelete X H (ty0 X ts 0) (evals ev args.toList) = some (v, H')) (ty : TypeId) :
 ∃ y w', (Builtin.delete_ ts ty (args.map ρ)).run P w = .ok y w' ∧ cv e v = some y ∧ HR NG e L H'.objs.get nx w' ∧ Tran e H.objs.get nx w e H'.objs.get nx w' ∧ H'.next = H.next := by
 unfold wDelete at h
 split at h
 ·rename_i ti b ak ht ha;unfold ty0 at ht;cases ht0 : ts[0]? with
  | none => rw [ht0] at ht; cases ht
  | some t =>
  rw [ht0] at ht;simp only at ht;have kt := ok.tys _ _ ht;have hcs := evals_cvs hev ha;obtain ⟨vm, q, hm, hq, he⟩ := cvs_cons hcs;obtain ⟨vk, q2, hk, hq2, rfl⟩ := cvs_cons hq;simp only [cvs, Option.some.injEq] at hq2; subst hq2;have hargs : args.map ρ = #[vm, vk] := by apply Array.ext'; simpa using he
  obtain ⟨x, hx0, rfl⟩ := cv_mpr hm;unfold wDel2 at h
  split at h
  ·rename_i kty el htk;have hu := tk_map kt htk;cases hki : X.tys.get kty with
   | none => rw [hki] at h; cases h
   | some ki =>
    rw [hki] at h;have kk := ok.tys _ _ hki;simp only at h;unfold wDel3 at h
    split at h
    ·rename_i es c hob;simp only [brec] at h;cases hkey : isKey ki.k with
     | false => rw [hkey] at h; cases h
     | true =>
      rw [hkey] at h; simp only [cond_true] at h;obtain ⟨x', hx', xs, g1, g2⟩ := hH.live _ _ hob;rw [hx0] at hx'; cases hx';have hlt : x.1 < w.heap.size := ObjR.lt (L := L) (e := e) (b := b) (o := .mobj es c) ⟨xs, g1, g2⟩;have hck := fun bb => isKey_plain (P := P) w kk hkey bb vk
      have hget := getObj_at (P := P) w g1;rw [hargs];cases hf : findA ki.k ak 0 es with
      | none => rw [hf] at h; cases h
      | some r =>
       rw [hf] at h;obtain ⟨r', hr', hR⟩ := findKey_run (P := P) w kk hk g2 hf;cases r with
       | none =>
        simp only [FindR] at hR; subst hR;simp only [wDel4, Option.some.injEq, Prod.mk.injEq] at h;obtain ⟨rfl, rfl⟩ := h;have hset := setObj_at (P := P) w g1 (o' := .map xs c);have hsame : { w with heap := w.heap.setIfInBounds x.1 (.map xs c) } = w := by
         have : w.heap.setIfInBounds x.1 (.map xs c) = w.heap := by
          apply Array.ext_getElem?;intro i
          by_cases hi : i = x.1
          ·subst hi; rw [Array.getElem?_setIfInBounds_self_of_lt hlt, g1]
          ·rw [Array.getElem?_setIfInBounds_ne (fun hh => hi hh.symm)]
         rw [this]
        rw [hsame] at hset;refine ⟨Go.undef, w, ?_, rfl, hH, Tran.refl _ _ _ _, rfl⟩;simp only [Builtin.delete_, ht0, List.getElem?_toArray, List.getElem?_cons_zero, List.getElem?_cons_succ, Sem.run_bind, run_underlying hu, Result.andThen_ok, hget, hck, hr', hset, Sem.run_pure];rfl
       | some p =>
        obtain ⟨y, rfl, hy⟩ := hR;simp only [wDel4, Option.some.injEq, Prod.mk.injEq] at h;obtain ⟨rfl, rfl⟩ := h;have hset := setObj_at (P := P) w g1 (o' := .map (xs.eraseIdxIfInBounds p.1) c)
        have hs := setObj_run (ob' := .map (xs.eraseIdxIfInBounds p.1) c) w hH hob hx0 g1 rfl rfl (o' := .mobj (delME p.1 es) c) (mobj_set w hlt (by
         have : (xs.eraseIdxIfInBounds p.1).toList = xs.toList.eraseIdx p.1 := by simp
         rw [this]
         exact delME_ok g2 p.1))
        refine ⟨Go.undef, _, ?_, rfl, hs.1, hs.2, rfl⟩;simp only [Builtin.delete_, ht0, List.getElem?_toArray, List.getElem?_cons_zero, List.getElem?_cons_succ, Sem.run_bind, run_underlying hu, Result.andThen_ok, hget, hck, hr', hset, Sem.run_pure];rfl
    ·cases h
  ·cases h
 ·cases h
end
end
end Go.X

/- Ranging over strings and maps; the next entry of a map; bytes that become a string. -/
namespace Go.X
noncomputable section
set_option linter.unusedSectionVars false
section
variable {P : Program} {X : XP} (ok : XPok P X) (w : World) {e : Env} {L : Loops} {H : AHeap} {nx : Nat} {NG : GP} (hH : HR NG e L H.objs.get nx w)
include ok hH in
theorem wRange_run {t : TypeId} {a v : AV} {va : Value} {H' : AHeap} {nid n0 : Nat} (ha : cv e a = some va) (h : wRange H nid (X.tys.get t) (some a) = some (v, H')) (hn : e.f nid = none) (hlt : nid < nx) (hn0 : n0 ≤ nid) :
 ∃ e' y w', (Instr.range t va).run P w = .ok y w' ∧ cv e' v = some y ∧ HR NG e' L H'.objs.get nx w' ∧ Tran e H.objs.get n0 w e' H'.objs.get nx w' ∧ H'.next = H.next := by
 have fin : ∀ (o : AObj) (ob : Obj), o.wr = true → ObjR (e.ext nid (w.heap.size, 0)) L nid (w.heap.size, 0) { w with heap := w.heap.push ob } o →
  (Instr.range t va).run P w = .ok (.pointer (some ⟨w.heap.size, 0, none⟩)) { w with heap := w.heap.push ob } → wRange2 H nid (some o) = some (v, H') →
  ∃ e' y w', (Instr.range t va).run P w = .ok y w' ∧ cv e' v = some y ∧ HR NG e' L H'.objs.get nx w' ∧ Tran e H.objs.get n0 w e' H'.objs.get nx w' ∧ H'.next = H.next := by
  intro o ob hw hO hrun hh;simp only [wRange2, Option.some.injEq, Prod.mk.injEq] at hh;obtain ⟨rfl, rfl⟩ := hh;refine ⟨e.ext nid (w.heap.size, 0), _, _, hrun, by simp only [cv, Env.ext_same], ?_, ?_, rfl⟩
  ·show HR NG _ L (H.objs.set nid _).get nx _;rw [get_set_upd];exact HR.alloc hH hn hlt rfl hO
  ·show Tran _ _ _ _ _ (H.objs.set nid _).get nx _;rw [get_set_upd];exact Tran.alloc hn hn0 (by omega) hw rfl rfl rfl rfl
 unfold wRange at h
 split at h
 ·rename_i ti a' ht h1;cases h1;have kt := ok.tys _ _ ht;unfold wRange1 at h
  split at h
  ·rename_i s htk;obtain ⟨hs, rfl⟩ := cv_str ha;exact fin _ (.stringIter (bytesOf s) 0) rfl (by simp [ObjR]) (by simp only [Instr.range, Sem.run_bind, run_underlying (tk_str kt htk), Result.andThen_ok, Sem.run_pure, run_newObj]) h
  ·rename_i k el htk;simp only [cv, Option.some.injEq] at ha; subst ha;exact fin (.miter none 0 [] 0) (.mapIter none 0 #[] 0) rfl ⟨none, by simp, rfl⟩ (by simp only [Instr.range, Sem.run_bind, run_underlying (tk_map kt htk), Result.andThen_ok, Sem.run_pure, run_newObj]) h
  ·rename_i k el b htk;obtain ⟨x, hx, rfl⟩ := cv_mpr ha;unfold miterOf at h
   split at h
   ·rename_i o b' es c hob;obtain ⟨x', hx', xs, g1, g2⟩ := hH.live _ _ hob;rw [hx] at hx'; cases hx';exact fin (.miter (some _) c [] c) (.mapIter (some x.1) c #[] c) rfl ⟨some x.1, by simp, x, (Env.le_ext hn _).1 _ _ hx, rfl⟩ (by simp only [Instr.range, Sem.run_bind, run_underlying (tk_map kt htk), Result.andThen_ok, getObj_at (P := P) w g1, Sem.run_pure, run_newObj]) h
   ·cases h
  ·cases h
 ·cases h
theorem memN_dec (t : Nat) : ∀ (l : List Nat), memN t l = decide (t ∈ l)
 | [] => by simp [memN]
 | u :: l => by
  simp only [memN, brec, memN_dec t l]
  by_cases h : t = u
  ·subst h; rw [nbeq_t rfl]; simp
  ·rw [nbeq_f h]; simp [h]
theorem leftME_ok {seen : List Nat} : ∀ {ms : List ME} {xs : List MapEntry}, MEsOk e ms xs → MEsOk e (leftME seen ms) (xs.filter fun x => !seen.toArray.contains x.born)
 | [], [], _ => trivial
 | m :: ms, x :: xs, h => by
  have ih := leftME_ok (seen := seen) h.2;have hc : seen.toArray.contains x.born = memN m.born seen := by
   rw [h.1.2.2, memN_dec];simp
  simp only [leftME, brec, List.filter_cons, hc];cases memN m.born seen with
  | true => exact ih
  | false => exact ⟨h.1, ih⟩
 | [], _ :: _, h => h.elim
 | _ :: _, [], h => h.elim
theorem oldME_ok {since : Nat} {b : Bool} : ∀ {ms : List ME} {xs : List MapEntry}, MEsOk e ms xs → MEsOk e (oldME since b ms) (xs.filter fun x => decide (x.born < since) == b)
 | [], [], _ => trivial
 | m :: ms, x :: xs, h => by
  have ih := oldME_ok (since := since) (b := b) h.2;have hc : (Nat.blt m.born since == b) = (decide (x.born < since) == b) := by rw [h.1.2.2, nblt_eq]
  simp only [oldME, brec, List.filter_cons, hc];cases (decide (x.born < since) == b) with
  | true => exact ⟨h.1, ih⟩
  | false => exact ih
 | [], _ :: _, h => h.elim
 | _ :: _, [], h => h.elim
theorem allNewME_eq {last : Nat} : ∀ {ms : List ME} {xs : List MapEntry}, MEsOk e ms xs → allNewME last ms = xs.all fun x => decide (x.born ≥ last)
 | [], [], _ => rfl
 | m :: ms, x :: xs, h => by
  have ih := allNewME_eq (last := last) h.2;simp only [allNewME, List.all_cons, ih, h.1.2.2]
  congr 1
  by_cases hh : last ≤ m.born
  ·rw [decide_eq_true hh]; exact Nat.ble_eq_true_of_le hh
  ·rw [decide_eq_false hh];cases hb : Nat.ble last m.born with
   | false => rfl
   | true => exact absurd (nble_of hb) hh
 | [], _ :: _, h => h.elim
 | _ :: _, [], h => h.elim
theorem choose_next {n : Nat} (hn : 0 < n) : ∃ j w1, (choose (.mapNext n)).run P w = .ok j w1 ∧ j < n ∧ w1.heap = w.heap ∧ w1.os = w.os ∧ w1.tape = w.tape ∧ w1.output = w.output := by
 rw [run_choose]
 by_cases hf : (Question.mapNext n).forced = true
 ·exact ⟨0, w, by rw [if_pos hf], hn, rfl, rfl, rfl, rfl⟩
 ·exact ⟨w.tape w.drawn (.mapNext n) % n, { w with drawn := w.drawn + 1 }, by rw [if_neg hf]; rfl, Nat.mod_lt _ hn, rfl, rfl, rfl, rfl⟩
theorem Tran.ofSame {G : Nat → Option AObj} {n : Nat} {w1 : World} (h1 : w1.heap = w.heap) (h2 : w1.os = w.os) (h3 : w1.tape = w.tape) (h4 : w1.output = w.output) : Tran e G n w e G n w1 :=
 ⟨Env.le_refl e, fun _ _ => rfl, Nat.le_refl _, by rw [h1]; exact Nat.le_refl _, fun _ _ _ => by rw [h1], fun _ h _ => h, fun _ o h hr => ⟨o, h, hr⟩, h2, h3, h4⟩
theorem nextEs_get {r b since c : Nat} {seen : List Nat} : ∀ {ms : List ME} {i : Nat} {m : ME}, ms[i]? = some m → (nextV m, H.set r (some (.miter (some b) since (seen ++ [m.born]) c))) ∈ nextEs H r b since c seen ms
 | [], _, _, h => by simp at h
 | m :: ms, 0, _, h => by simp at h; subst h; exact List.mem_cons_self ..
 | m :: ms, i + 1, _, h => by simp at h; exact List.mem_cons_of_mem _ (nextEs_get h)
theorem MEsOk.app {e : Env} : ∀ {a : List ME} {x : List MapEntry}, MEsOk e a x → ∀ {b : List ME} {y : List MapEntry}, MEsOk e b y → MEsOk e (a ++ b) (x ++ y)
 | [], [], _, _, _, h => h
 | _ :: _, _ :: _, h, _, _, k => ⟨h.1, MEsOk.app h.2 k⟩
 | [], _ :: _, h, _, _, _ => h.elim
 | _ :: _, [], h, _, _, _ => h.elim
theorem MEsOk.back {e : Env} : ∀ {ms : List ME} {xs : List MapEntry}, MEsOk e ms xs → ∀ {i : Nat} {x : MapEntry}, xs[i]? = some x → ∃ m, ms[i]? = some m ∧ cv e m.key = some x.key ∧ cv e m.val = some x.val ∧ x.born = m.born
 | [], [], _, _, _, h => by simp at h
 | m :: ms, x :: xs, hm, 0, _, h => by simp at h; subst h; exact ⟨m, by simp, hm.1⟩
 | m :: ms, x :: xs, hm, i + 1, _, h => by simp at h; simpa using MEsOk.back hm.2 h
 | [], _ :: _, h, _, _, _ => h.elim
 | _ :: _, [], h, _, _, _ => h.elim
include hH in
theorem forkNext_run {it : AV} {vi : Value} (hi : cv e it = some vi) {outs : List (AV × AHeap)} (h : forkNext H (some it) = some outs) (ty : TypeId) :
 ∃ v H', (v, H') ∈ outs ∧ ∃ y w', (Instr.next vi false ty).run P w = .ok y w' ∧ cv e v = some y ∧ HR NG e L H'.objs.get nx w' ∧ Tran e H.objs.get nx w e H'.objs.get nx w' ∧ H'.next = H.next := by
 unfold forkNext at h
 split at h
 ·rename_i r heq;simp only [Option.some.injEq] at heq; subst heq;obtain ⟨x, hx, rfl⟩ := cv_ptr hi;unfold nextA at h
  split at h
  ·rename_i since seen last hob;obtain ⟨x', hx', ro, h1, h2⟩ := hH.live r _ hob;rw [hx] at hx'; cases hx';simp only [IterM] at h2; subst h2;simp only [Option.some.injEq] at h; subst h;refine ⟨_, _, List.mem_cons_self .., .tuple #[.bool false], w, ?_, rfl, hH, Tran.refl _ _ _ _, rfl⟩;simp only [Instr.next, Sem.run_bind, getObj_at (P := P) w h1, Result.andThen_ok, Sem.run_pure]
  ·rename_i b since seen last hob;obtain ⟨x', hx', ro, h1, y, hy, rfl⟩ := hH.live r _ hob;rw [hx] at hx'; cases hx';unfold nextM at h
   split at h
   ·rename_i es c hb;obtain ⟨y', hy', xs, g1, g2⟩ := hH.live b _ hb;rw [hy] at hy'; cases hy';simp only [brec] at h;have hcond : (!seen.toArray.isEmpty && !xs.isEmpty && xs.all (fun x => decide (x.born ≥ last))) = (!seen.isEmpty && !es.isEmpty && allNewME last es) := by
     have e1 : seen.toArray.isEmpty = seen.isEmpty := by simp
     have e2 : xs.isEmpty = es.isEmpty := by
      have hl := g2.length;cases es with
      | nil => simp at hl; rw [Array.eq_empty_of_size_eq_zero hl.symm]; rfl
      | cons m ms =>
       have : xs ≠ #[] := by intro hh; rw [hh] at hl; simp at hl
       simp [this]
     have e3 : xs.all (fun x => decide (x.born ≥ last)) = allNewME last es := by rw [allNewME_eq g2, ← Array.all_toList]
     rw [e1, e2, e3]
    cases hc : (!seen.isEmpty && !es.isEmpty && allNewME last es) with
    | true => rw [hc] at h; cases h
    | false =>
     rw [hc] at h hcond; simp only [cond_false, Option.some.injEq] at h; subst h;have hleft := leftME_ok (seen := seen) g2;have hold := oldME_ok (since := since) (b := true) hleft;have hnew := oldME_ok (since := since) (b := false) hleft;generalize hL : xs.filter (fun x => !seen.toArray.contains x.born) = left
     have hLl : left.toList = xs.toList.filter (fun x => !seen.toArray.contains x.born) := by rw [← hL]; simp
     generalize hO : left.filter (fun x => decide (x.born < since)) = old
     have hOl : old.toList = (xs.toList.filter (fun x => !seen.toArray.contains x.born)).filter (fun x => decide (x.born < since) == true) := by rw [← hO, ← hLl]; simp
     generalize hN : left.filter (fun x => decide (x.born ≥ since)) = new
     have hNl : new.toList = (xs.toList.filter (fun x => !seen.toArray.contains x.born)).filter (fun x => decide (x.born < since) == false) := by
      rw [← hN, ← hLl]; simp only [Array.toList_filter]
      congr 1; funext x
      by_cases hh : x.born < since
      ·have : ¬ x.born ≥ since := by omega
       simp [hh, this]
      ·have : x.born ≥ since := by omega
       simp [hh, this]
     rw [← hOl] at hold;rw [← hNl] at hnew;have hboth := hold.app hnew;generalize oldME since true (leftME seen es) = ol at hold hboth ⊢;generalize oldME since false (leftME seen es) = nw at hnew hboth ⊢;have hnext : ∀ j w1, (choose (.mapNext ((if old.isEmpty then #[none] else #[]) ++ (old ++ new).map some).size)).run P w = .ok j w1 →
      (Instr.next (.pointer (some ⟨x.1, 0, none⟩)) false ty).run P w = (match ((if old.isEmpty then #[none] else #[]) ++ (old ++ new).map some)[j]? with
        | some (some e) => do
         setObj x.1 (.mapIter (some y.1) since (seen.toArray.push e.born) c)
         pure (.tuple #[.bool true, e.key, e.val])
        | some none => pure (.tuple #[.bool false])
        | none => stuck "Next: no such candidate" : Sem Value).run P w1 := by
      intro j w1 hj;simp only [Instr.next, Sem.run_bind, getObj_at (P := P) w h1, Result.andThen_ok, getObj_at (P := P) w g1, hcond, Bool.false_eq_true, if_false, hL, hO, hN, hj];rfl
     have hone : ∀ w1 : World, w1.heap = w.heap → w1.os = w.os → w1.tape = w.tape → w1.output = w.output → ∀ (i : Nat) (z : MapEntry), (old ++ new)[i]? = some z → ∃ v H', (v, H') ∈ nextEs H r b since c seen (ol ++ nw) ∧ ∃ yy w',
      (do setObj x.1 (.mapIter (some y.1) since (seen.toArray.push z.born) c); pure (Value.tuple #[.bool true, z.key, z.val]) : Sem Value).run P w1 = .ok yy w' ∧ cv e v = some yy ∧ HR NG e L H'.objs.get nx w' ∧ Tran e H.objs.get nx w e H'.objs.get nx w' ∧ H'.next = H.next := by
      intro w1 k1 k2 k3 k4 i z hz;have hz' : (old.toList ++ new.toList)[i]? = some z := by rw [← Array.toList_append, Array.getElem?_toList]; exact hz
      obtain ⟨m, hm, m1, m2, m3⟩ := hboth.back hz';have hH1 : HR NG e L H.objs.get nx w1 := hH.same k1;have h1' : w1.heap[x.1]? = some (.mapIter (some y.1) since seen.toArray last) := by rw [k1]; exact h1
      have hlt : x.1 < w1.heap.size := by
       rcases Nat.lt_or_ge x.1 w1.heap.size with hh | hh
       ·exact hh
       ·rw [Array.getElem?_eq_none hh] at h1'; cases h1'
      have hset := setObj_at (P := P) w1 h1' (o' := .mapIter (some y.1) since (seen.toArray.push z.born) c);have hs := setObj_run (ob' := .mapIter (some y.1) since (seen.toArray.push z.born) c) w1 hH1 hob hx h1' rfl rfl (o' := .miter (some b) since (seen ++ [m.born]) c) ⟨some y.1, by simp [hlt, m3], y, hy, rfl⟩
      refine ⟨_, _, nextEs_get hm, .tuple #[.bool true, z.key, z.val], _, by rw [Sem.run_bind, hset]; rfl, by simp only [nextV, cv, cvs, m1, m2], hs.1, ?_, rfl⟩
      exact (Tran.ofSame w k1 k2 k3 k4).trans hs.2
     cases hoe : old.toList with
     | nil =>
      have ho0 : old = #[] := by apply Array.ext'; simpa using hoe
      have hol : ol = [] := by have := hold.length; rw [hoe] at this; simpa using this
      obtain ⟨j, w1, hj, hjlt, k1, k2, k3, k4⟩ := choose_next (P := P) w (n := ((if old.isEmpty then #[none] else #[]) ++ (old ++ new).map some).size) (by rw [ho0]; simp; omega)
      rw [hnext j w1 hj];cases j with
      | zero =>
       have hcz : ((if old.isEmpty then #[none] else #[]) ++ (old ++ new).map some)[0]? = some none := by rw [ho0]; simp [Array.getElem?_append]
       rw [hcz];refine ⟨_, _, by rw [hol]; exact List.mem_cons_self .., .tuple #[.bool false], w1, rfl, rfl, hH.same k1, Tran.ofSame w k1 k2 k3 k4, rfl⟩
      | succ j =>
       have hcz : ((if old.isEmpty then #[none] else #[]) ++ (old ++ new).map some)[j + 1]? = (old ++ new)[j]?.map some := by
        rw [ho0]; simp [Array.getElem?_append]
       rw [hcz];have hjl : j < (old ++ new).size := by rw [ho0] at hjlt ⊢; simp at hjlt ⊢; omega
       have hz : (old ++ new)[j]? = some ((old ++ new)[j]'hjl) := Array.getElem?_eq_getElem hjl;rw [hz];obtain ⟨v, H', q1, q2⟩ := hone w1 k1 k2 k3 k4 j _ hz;refine ⟨v, H', by rw [hol] at q1 ⊢; exact List.mem_cons_of_mem _ q1, q2⟩
     | cons z0 zs =>
      have ho0 : old.isEmpty = false := by
       have : old ≠ #[] := by intro hh; rw [hh] at hoe; cases hoe
       simp [this]
      have hol : ∃ m0 ms0, ol = m0 :: ms0 := by
       have := hold.length; rw [hoe] at this;cases ol with
       | nil => simp at this
       | cons m0 ms0 => exact ⟨m0, ms0, rfl⟩
      obtain ⟨m0, ms0, hol⟩ := hol;have hsz : 0 < old.size := by rw [← Array.length_toList, hoe]; simp
      obtain ⟨j, w1, hj, hjlt, k1, k2, k3, k4⟩ := choose_next (P := P) w (n := ((if old.isEmpty then #[none] else #[]) ++ (old ++ new).map some).size) (by rw [ho0]; simp; omega)
      rw [hnext j w1 hj];have hcz : ((if old.isEmpty then #[none] else #[]) ++ (old ++ new).map some)[j]? = (old ++ new)[j]?.map some := by rw [ho0]; simp only [Bool.false_eq_true, if_false, Array.empty_append, Array.getElem?_map]
      rw [hcz];have hjl : j < (old ++ new).size := by rw [ho0] at hjlt; simpa using hjlt
      have hz : (old ++ new)[j]? = some ((old ++ new)[j]'hjl) := Array.getElem?_eq_getElem hjl;rw [hz];obtain ⟨v, H', q1, q2⟩ := hone w1 k1 k2 k3 k4 j _ hz;exact ⟨v, H', by rw [hol] at q1 ⊢; exact q1, q2⟩
   ·cases h
  ·cases h
 ·cases h
theorem sameLayout_bytes {t u : TypeId} (ht : P.underlying t = some (.int .u8)) (hu : P.underlying u = some (.int .u8)) : sameLayout P P.depth t u = true := by
 have hd : P.depth = (P.depth - 1) + 1 := by simp [Program.depth]
 rw [hd];simp [sameLayout, ht, hu]
theorem liesAt_bytes {t u count off n : Nat} (ht : P.underlying t = some (.int .u8)) (hu : P.underlying u = some (.int .u8)) (hc : P.cellsOf t = 1) (h : off + n ≤ count) : liesAt P P.depth t count off u n = true := by
 have hd : P.depth = (P.depth - 1) + 1 := by simp [Program.depth]
 have hs := sameLayout_bytes (P := P) ht hu;rw [hd];simp only [liesAt, Bool.or_eq_true];left;have key : ∀ m, rowAt P (sameLayout P P.depth · u) (m + 1) t count off n = true := by
  intro m;simp only [rowAt, hc, Nat.one_ne_zero, if_false, Nat.div_one, Nat.mod_one, Bool.or_eq_true, beq_self_eq_true, Bool.true_and, Bool.and_eq_true, decide_eq_true_eq];exact .inl ⟨h, hs⟩
 rw [hd] at key ⊢;exact key _
theorem loadBytes_run {B : Nat} : ∀ (ns : List Int) (off : Nat) (acc : ByteArray), (∀ j v, (ns.map (Value.int .u8))[j]? = some v → w.cell? ⟨B, off + j, none⟩ = some v) →
 (loadBytes ⟨B, off, none⟩ acc ns.length).run P w = .ok (ns.foldl (fun r n => r.push (UInt8.ofNat n.toNat)) acc) w
 | [], off, acc, _ => rfl
 | n :: ns, off, acc, h => by
  have h0 := h 0 (.int .u8 n) (by simp)
  rw [Nat.add_zero] at h0;have hl : (load ⟨B, off, none⟩).run P w = .ok (.int .u8 n) w := by rw [run_load, h0]
  show (loadBytes ⟨B, off, none⟩ acc (ns.length + 1)).run P w = _;simp only [loadBytes, Sem.run_bind, hl, Result.andThen_ok, add_none]
  rw [loadBytes_run ns (off + 1) _ (fun j v hj => by
   have := h (j + 1) v (by simpa using hj)
   rw [show off + 1 + j = off + (j + 1) by omega]; exact this)]
  rfl
include hH in
theorem HR.forget {w' : World} {b : Nat} {o : AObj} {x : Nat × Nat} (hb : H.objs.get b = some o) (hx : e.f b = some x) (hw : o.wr = true) (hsame : ∀ B, B ≠ x.1 → w'.heap[B]? = w.heap[B]?) (hsz : w'.heap.size = w.heap.size)
 (hos : w'.os = w.os) (htp : w'.tape = w.tape) (hout : w'.output = w.output) :
 HR NG e L (H.set b none).objs.get nx w' ∧ Tran e H.objs.get nx w e (H.set b none).objs.get nx w' := by
 have hset : (H.set b none).objs.get = X.upd H.objs.get b none := by
  show (H.objs.set b _).get = _; rw [get_set_upd]
 rw [hset];refine ⟨⟨hH.dom, ?_, ?_, hH.glob, hH.ora⟩, ⟨Env.le_refl e, fun _ _ => rfl, Nat.le_refl _, by omega, ?_, ?_, ?_, hos, htp, hout⟩⟩
 ·intro c p hc
  by_cases e1 : c = b
  ·subst e1; rw [upd_same] at hc; cases hc
  ·rw [upd_ne _ _ e1] at hc;obtain ⟨y, hy, hO⟩ := hH.live c p hc;exact ⟨y, hy, hO.keep (Env.le_refl e) (hsame _ fun he => e1 (hH.inj c b p o y x hc hb (.inr hw) hy hx he)) rfl⟩
 ·intro c d p q y z hc hd;exact hH.inj c d p q y z (Sub.drop _ b _ _ hc) (Sub.drop _ b _ _ hd)
 ·intro B _ hf;exact hsame B fun he => hf ⟨b, o, x, hb, hw, hx, he.symm⟩
 ·intro B hf _;exact hf.mono (Sub.drop _ b)
 ·intro c p hc hr;exact ⟨p, Sub.drop _ b _ _ hc, hr⟩
theorem evals_two2 {ev : Operand → Option AV} {ρ : Operand → Value} (hev : EvOk e ev ρ) {args : Array Operand} {u v : AV} (h : evals ev args.toList = some [u, v]) : ∃ y z, cv e u = some y ∧ cv e v = some z ∧ args.map ρ = #[y, z] := by
 have := evals_cvs hev h;obtain ⟨y, q, hy, hq, he⟩ := cvs_cons this;obtain ⟨z, q2, hz, hq2, rfl⟩ := cvs_cons hq;simp only [cvs, Option.some.injEq] at hq2; subst hq2;exact ⟨y, z, hy, hz, by apply Array.ext'; simpa using he⟩
theorem unsafeString_eq (ts : Array TypeId) (ty : TypeId) (p : Option Addr) (k : IntKind) (n : Int) (pt el : TypeId) (h0 : ts[0]? = some pt) (hp : P.underlying pt = some (.pointer el)) (hn : 0 ≤ n) (hmax : n < 4611686018427387904) :
 (Builtin.unsafeString_ ts ty #[.pointer p, .int k n]).run P w = (match p with
   | none => if n = 0 then .ok (.string .empty) w else (runtimePanic (.error "unsafe.String: ptr is nil and len is not zero") : Sem Value).run P w
   | some a => if n = 0 then .ok (.string .empty) w else ((variablesAt a el n.toNat).run P w).andThen fun is w => (if is = true then (do
    let s ← loadBytes a .empty n.toNat
    freeze a n.toNat
    pure (.string s) : Sem Value) else unsupported (.unsafePointer "String: not so many bytes at ptr")).run P w) := by
 have h1 : ¬ n < 0 := by omega
 have h2 : ¬ n > IntKind.i64.max := by simp [IntKind.max, IntKind.signed, IntKind.bits]; omega
 have hel : ∀ W : World, (elemOf pt).run P W = .ok el W := fun W => by simp [elemOf, run_underlying hp]
 have : Builtin.unsafeString_ ts ty #[.pointer p, .int k n] = (do
  let n ← asInt (.int k n)
  let some pt := ts[0]? | stuck "unsafe.String: no argument types"
  if n < 0 then runtimePanic (.error "unsafe.String: len out of range")
  if n > IntKind.i64.max then unsupported (.unsafePointer "String: a length above the largest int")
  match p with
  | none =>
   if n = 0 then pure (.string .empty)
   else runtimePanic (.error "unsafe.String: ptr is nil and len is not zero")
  | some a =>
   if n = 0 then pure (.string .empty)
   else if ← variablesAt a (← elemOf pt) n.toNat then do
    let s ← loadBytes a .empty n.toNat
    freeze a n.toNat
    pure (.string s)
   else unsupported (.unsafePointer "String: not so many bytes at ptr")) := rfl
 rw [this];simp only [asInt, asIntOf, Sem.run_bind, Sem.run_pure, Result.andThen_ok, h0, if_neg h1, if_neg h2];cases p with
 | none => by_cases hz : n = 0 <;> simp [hz]
 | some a => by_cases hz : n = 0 <;> simp [hz, hel]
include ok hH in
theorem wString_run {ev : Operand → Option AV} {ρ : Operand → Value} (hev : EvOk e ev ρ) {args : Array Operand} {ts : Array TypeId} {v : AV} {H' : AHeap}
 (h : wString X H (ty0 X ts 0) (evals ev args.toList) = some (v, H')) (ty : TypeId) :
 ∃ y w', (Builtin.unsafeString_ ts ty (args.map ρ)).run P w = .ok y w' ∧ cv e v = some y ∧ HR NG e L H'.objs.get nx w' ∧ Tran e H.objs.get nx w e H'.objs.get nx w' ∧ H'.next = H.next := by
 have hpt : ∀ {q : Bool}, (ptrByte X (ty0 X ts 0) && q) = true → ∃ pt el, ts[0]? = some pt ∧ P.underlying pt = some (.pointer el) ∧ P.underlying el = some (.int .u8) := by
  intro q hq;simp only [Bool.and_eq_true] at hq;have hq := hq.1;unfold ptrByte at hq
  split at hq
  ·rename_i e' size bytes zero cmp heq;unfold ty0 at heq;cases ht0 : ts[0]? with
   | none => rw [ht0] at heq; cases heq
   | some t =>
    rw [ht0] at heq;exact ⟨t, e', rfl, tk_ptr (ok.tys t _ heq) rfl, isByte_und ok hq⟩
  ·cases hq
 unfold wString at h
 split at h
 ·rename_i k n ha;obtain ⟨y, z, hy, hz, hargs⟩ := evals_two2 hev ha;simp only [cv, Option.some.injEq] at hy hz; subst hy; subst hz;simp only [brec] at h;cases hc : (ptrByte X (ty0 X ts 0) && Nat.beq n 0) with
  | false => rw [hc] at h; cases h
  | true =>
   rw [hc] at h; simp only [cond_true, Option.some.injEq, Prod.mk.injEq] at h;obtain ⟨rfl, rfl⟩ := h;obtain ⟨pt, el, h0, h1, h2⟩ := hpt hc;simp only [Bool.and_eq_true] at hc;obtain rfl := nbeq_of hc.2;rw [hargs];exact ⟨.string (bytesOf []), w, by rw [unsafeString_eq w ts ty none k _ pt el h0 h1 (by decide) (by decide)]; rfl, rfl, hH, Tran.refl _ _ _ _, rfl⟩
 ·rename_i b off k n ha;obtain ⟨y, z, hy, hz, hargs⟩ := evals_two2 hev ha;simp only [cv, Option.some.injEq] at hz; subst hz;obtain ⟨x, hx, rfl⟩ := cv_ptr hy;simp only [brec] at h;cases hc : (ptrByte X (ty0 X ts 0) && Nat.blt n 4611686018427387904) with
  | false => rw [hc] at h; cases h
  | true =>
   rw [hc] at h; simp only [cond_true] at h;obtain ⟨pt, el, h0, h1, h2⟩ := hpt hc;simp only [Bool.and_eq_true] at hc;have hlt := nblt_of hc.2;rw [hargs];have heq := unsafeString_eq (P := P) w ts ty (some ⟨x.1, off, none⟩) k (Int.ofNat n) pt el h0 h1 (by simp) (by simp; omega)
   by_cases hn : n = 0
   ·subst hn;rw [nbeq_t rfl] at h; simp only [cond_true, Option.some.injEq, Prod.mk.injEq] at h;obtain ⟨rfl, rfl⟩ := h;exact ⟨.string (bytesOf []), w, by rw [heq]; rfl, rfl, hH, Tran.refl _ _ _ _, rfl⟩
   ·rw [nbeq_f hn] at h; simp only [cond_false] at h;unfold wStr2 at h
    split at h
    ·rename_i bel sz cells hob;simp only [brec] at h;cases hb : (isByte (X.tys.get bel) && oneCell (X.tys.get bel)) with
     | false => rw [hb] at h; cases h
     | true =>
      rw [hb] at h; simp only [cond_true] at h;simp only [Bool.and_eq_true] at hb;have hbu := isByte_und ok hb.1;have hone : P.cellsOf bel = 1 := by
       have h3 := hb.2;cases hbt : X.tys.get bel with
       | none => rw [hbt] at h3; cases h3
       | some bi => rw [hbt] at h3; rw [cellsOf_of (ok.tys _ _ hbt)]; exact nbeq_of h3
      cases hg : getCells H b off n with
      | none => rw [hg] at h; simp [wStr3] at h
      | some cs =>
       rw [hg] at h;simp only [wStr3] at h;cases hl : bytesOfCells cs with
       | none => rw [hl] at h; simp [wStr4] at h
       | some l =>
        rw [hl] at h;simp only [wStr4, Option.some.injEq, Prod.mk.injEq] at h;obtain ⟨rfl, rfl⟩ := h;obtain ⟨x', xs, hx', hxs, hnn, hcell⟩ := getCells_cv hH hg;rw [hx] at hx'; cases hx';obtain ⟨ns, hns, rfl⟩ := bytesOfCells_of (e := e) hl;rw [hxs] at hns; simp only [Option.some.injEq] at hns; subst hns;have hnl : ns.length = n := by simpa using hnn
        obtain ⟨x'', hx'', c, fz, g1, g2, g3, g4⟩ := hH.live b _ hob;rw [hx] at hx''; cases hx'';have hfits : off + n ≤ c.size := by
         have hlast : (ns.map (Value.int .u8))[n - 1]? = some ((ns.map (Value.int .u8))[n - 1]'(by simp; omega)) := List.getElem?_eq_getElem _
         have hcc := hcell _ _ hlast;simp only [World.cell?, g1] at hcc;have := (Array.getElem?_eq_some_iff.1 hcc).1;omega
        have hvar : (variablesAt ⟨x.1, off, none⟩ el n).run P w = .ok true w := by
         simp only [variablesAt, Sem.run_bind, run_program, Result.andThen_ok, run_shape, World.shape?, g1, Sem.run_pure, Env.elR, hone, Nat.div_one];rw [liesAt_bytes hbu h2 hone hfits]
        have hload := loadBytes_run (P := P) (B := x.1) w ns off .empty hcell;rw [hnl, strOfNums_bytes] at hload;have hw' : ∀ B, B ≠ x.1 → (w.freeze ⟨x.1, off, none⟩ n).heap[B]? = w.heap[B]? := by
         intro B hB;simp only [World.freeze, if_neg hn, Array.getElem?_modify];rw [if_neg (fun hh => hB hh.symm)]
        obtain ⟨k1, k2⟩ := HR.forget (w' := w.freeze ⟨x.1, off, none⟩ n) w hH hob hx rfl hw' (by simp [World.freeze, hn]) (by simp [World.freeze, hn]) (by simp [World.freeze, hn]) (by simp [World.freeze, hn])
        refine ⟨.string (bytesOf (ns.map (fun n => n.toNat % 256))), w.freeze ⟨x.1, off, none⟩ n, ?_, cv_str_mk e (fun b hb => by simp at hb; obtain ⟨n, _, rfl⟩ := hb; omega), k1, k2, rfl⟩
        rw [heq];have hn0 : ¬ ((n : Int) = 0) := by omega
        simp only [Int.ofNat_eq_natCast, if_neg hn0, Int.toNat_natCast, hvar, Result.andThen_ok, if_true, Sem.run_bind, hload, run_freeze, Sem.run_pure]
    ·cases h
 ·cases h
end
end
end Go.X

/- The operations that write memory, together; the operations that fork. -/
namespace Go.X
noncomputable section
set_option linter.unusedSectionVars false
section
variable {P : Program} {X : XP} (ok : XPok P X) (w : World) {e : Env} {L : Loops} {H : AHeap} {nx : Nat} {NG : GP} (hH : HR NG e L H.objs.get nx w)
theorem Tran.lower {e e' : Env} {G G' : Nat → Option AObj} {n0 n n' : Nat} {w w' : World} (h : Tran e G n w e' G' n' w') (h0 : n0 ≤ n) : Tran e G n0 w e' G' n' w' :=
 { h with old := fun b hb => h.old b (by omega), nx := Nat.le_trans h0 h.nx }
include ok hH in
theorem wCopy_run {ev : Operand → Option AV} {ρ : Operand → Value} (hev : EvOk e ev ρ) {args : Array Operand} {ts : Array TypeId} {v : AV} {H' : AHeap}
 (h : wCopy X H (ty0 X ts 0) (evals ev args.toList) = some (v, H')) (ty : TypeId) :
 ∃ y w', (Builtin.copy_ ts ty (args.map ρ)).run P w = .ok y w' ∧ cv e v = some y ∧ HR NG e L H'.objs.get nx w' ∧ Tran e H.objs.get nx w e H'.objs.get nx w' ∧ H'.next = H.next := by
 unfold wCopy at h
 split at h
 ·rename_i ti d s ht ha;obtain ⟨vd, vs, hvd, hvs, hargs⟩ := evals_two hev ha;have ht0 : ∃ t, ts[0]? = some t ∧ X.tys.get t = some ti := by
   unfold ty0 at ht; cases h0 : ts[0]? with
   | none => rw [h0] at ht; cases ht
   | some t => rw [h0] at ht; exact ⟨t, rfl, ht⟩
  obtain ⟨t, h0, htt⟩ := ht0;have hkt := ok.tys t ti htt;rw [hargs];unfold wCopy1 at h
  split at h
  ·rename_i el htk;have hut := tk_slice hkt htk;unfold wCopy2 at h
   split at h
   ·rename_i ei ns hel hln;simp only [Option.some.injEq, Prod.mk.injEq] at h;obtain ⟨rfl, rfl⟩ := h;simp only [cv, Option.some.injEq] at hvd; subst hvd;have hke := ok.tys el ei hel;have hl := lenA_run (P := P) hvs hln;have hf : (Builtin.firstCells ei.size 0 vs).run P w = .ok #[] w := by
     unfold lenA at hln
     split at hln
     ·simp only [cv, Option.some.injEq] at hvs; subst hvs; rfl
     ·obtain ⟨x0, _, rfl⟩ := cv_sl hvs; simp [Builtin.firstCells, loadCells, loadCellsFrom]
     ·obtain ⟨_, rfl⟩ := cv_str hvs; simp [Builtin.firstCells]
     ·cases hln
    refine ⟨.int .i64 0, w, ?_, rfl, hH, Tran.refl _ _ _ _, rfl⟩;simp only [Builtin.copy_, h0, List.getElem?_toArray, List.getElem?_cons_zero, List.getElem?_cons_succ, Sem.run_bind, run_underlying hut, Result.andThen_ok, hl, run_sizeOf' w hke, Nat.min_zero];rw [hf]; rfl
   ·rename_i ei ns b off nd c hel hln;have hke := ok.tys el ei hel;obtain ⟨x0, hx0, rfl⟩ := cv_sl hvd;cases hsc : srcCells H ei.size (Nat.min ns nd) s with
    | none => rw [hsc] at h; simp [wCopy3] at h
    | some xs =>
     rw [hsc] at h;simp only [wCopy3] at h;cases hp : putCells H b off xs with
     | none => rw [hp] at h; cases h
     | some H1 =>
      rw [hp] at h;simp only [Option.some.injEq, Prod.mk.injEq] at h;obtain ⟨rfl, rfl⟩ := h;obtain ⟨ys, hys, hlen, hrun⟩ := srcCells_run (P := P) w hvs hsc ⟨ns, hln, Nat.min_le_left _ _⟩ hH;obtain ⟨x', w', hx', hst, hHR, hT, hnx⟩ := putCells_run (P := P) hH hp hys;rw [hx0] at hx'; cases hx';have hl := lenA_run (P := P) hvs hln;refine ⟨.int .i64 (Nat.min ns nd : Nat), w', ?_, rfl, hHR, hT, hnx⟩;simp only [Builtin.copy_, h0, List.getElem?_toArray, List.getElem?_cons_zero, List.getElem?_cons_succ, Sem.run_bind, run_underlying hut, Result.andThen_ok, hl, run_sizeOf' w hke, hrun w rfl, hst];rfl
   ·cases h
  ·cases h
 ·cases h
include ok hH in
theorem wClear_run {ev : Operand → Option AV} {ρ : Operand → Value} (hev : EvOk e ev ρ) {args : Array Operand} {ts : Array TypeId} {v : AV} {H' : AHeap}
 (h : wClear X H (ty0 X ts 0) (evals ev args.toList) = some (v, H')) (ty : TypeId) :
 ∃ y w', (Builtin.clear_ ts ty (args.map ρ)).run P w = .ok y w' ∧ cv e v = some y ∧ HR NG e L H'.objs.get nx w' ∧ Tran e H.objs.get nx w e H'.objs.get nx w' ∧ H'.next = H.next := by
 unfold wClear at h
 split at h
 ·rename_i ti d ht ha;obtain ⟨vd, hvd, hargs⟩ := evals_one hev ha;have ht0 : ∃ t, ts[0]? = some t ∧ X.tys.get t = some ti := by
   unfold ty0 at ht; cases h0 : ts[0]? with
   | none => rw [h0] at ht; cases ht
   | some t => rw [h0] at ht; exact ⟨t, rfl, ht⟩
  obtain ⟨t, h0, htt⟩ := ht0;have hkt := ok.tys t ti htt;rw [hargs];unfold wClear1 at h
  split at h
  ·rename_i el htk;have hut := tk_slice hkt htk;unfold wClear2 at h
   split at h
   ·rename_i ei hel;simp only [Option.some.injEq, Prod.mk.injEq] at h;obtain ⟨rfl, rfl⟩ := h;simp only [cv, Option.some.injEq] at hvd; subst hvd;refine ⟨.tuple #[], w, ?_, rfl, hH, Tran.refl _ _ _ _, rfl⟩;simp [Builtin.clear_, h0, run_underlying hut]
   ·rename_i ei b off n c hel;have hke := ok.tys el ei hel;obtain ⟨x0, hx0, rfl⟩ := cv_sl hvd;cases hp : putCells H b off (zeros ei.zero n) with
    | none => rw [hp] at h; cases h
    | some H1 =>
     rw [hp] at h;simp only [Option.some.injEq, Prod.mk.injEq] at h;obtain ⟨rfl, rfl⟩ := h;obtain ⟨z, hz, hzc, _⟩ := run_zeroValue' w hke e;have hzl : z.cells.size = ei.size := by have := cvs_length hzc; simp at this; rw [this, hke.len]
     have hzeros := zeros_cvs hzc n;rw [hzl] at hzeros;obtain ⟨x', w', hx', hst, hHR, hT, hnx⟩ := putCells_run (P := P) hH hp hzeros;rw [hx0] at hx'; cases hx';refine ⟨.tuple #[], w', ?_, rfl, hHR, hT, hnx⟩;cases n with
     | zero =>
      have : w' = w := by
       have h0' : (Array.map (fun i => z.cells[i % ei.size]!) (Array.range (0 * ei.size))).toList = [] := by simp
       rw [h0'] at hst;simp [storeCells] at hst; exact hst.symm
      subst this;simp [Builtin.clear_, h0, run_underlying hut]
     | succ n =>
      simp only [Builtin.clear_, h0, List.getElem?_toArray, List.getElem?_cons_zero, Sem.run_bind, run_underlying hut, Result.andThen_ok, hz, zeroCells_eq hzl, hst, Sem.run_pure]
   ·cases h
  ·cases h
 ·cases h
include ok hH in
theorem wNext_run {it : AV} {vi : Value} (hi : cv e it = some vi) {v : AV} {H' : AHeap} (h : wNext H (some it) = some (v, H')) (ty : TypeId) :
 ∃ y w', (Instr.next vi true ty).run P w = .ok y w' ∧ cv e v = some y ∧ HR NG e L H'.objs.get nx w' ∧ Tran e H.objs.get nx w e H'.objs.get nx w' ∧ H'.next = H.next := by
 unfold wNext at h
 split at h
 ·rename_i r heq;simp only [Option.some.injEq] at heq; subst heq;obtain ⟨x, hx, rfl⟩ := cv_ptr hi;unfold wNext2 at h
  split at h
  ·rename_i s pos hob;obtain ⟨x', hx', hO⟩ := hH.live r _ hob;rw [hx] at hx'; cases hx';simp only [ObjR] at hO;have hget : (getObj x.1).run P w = .ok (.stringIter (bytesOf s) pos) w := by simp [getObj, Sem.run, hO]
   cases hs : s[pos]? with
   | none =>
    rw [hs] at h;simp only [wNext3, Option.some.injEq, Prod.mk.injEq] at h;obtain ⟨rfl, rfl⟩ := h;have hge : ¬ pos < (bytesOf s).size := by rw [bytesOf_size]; have := List.getElem?_eq_none_iff.1 hs; omega
    refine ⟨.tuple #[.bool false], w, ?_, rfl, hH, Tran.refl _ _ _ _, rfl⟩;simp only [Instr.next, Sem.run_bind, hget, Result.andThen_ok, if_neg hge, Sem.run_pure]
   | some c =>
    rw [hs] at h;simp only [wNext3, brec] at h;cases hb : Nat.blt c 128 with
    | false => rw [hb] at h; cases h
    | true =>
     rw [hb] at h; simp only [cond_true, Option.some.injEq, Prod.mk.injEq] at h;obtain ⟨rfl, rfl⟩ := h;have hc := nblt_of hb;have hlt : pos < (bytesOf s).size := by rw [bytesOf_size]; exact (List.getElem?_eq_some_iff.1 hs).1
     have hbyte : ((bytesOf s)[pos]'hlt).toNat = c := by
      show ((bytesOf s).data[pos]).toNat = c;simp only [bytesOf, List.getElem_toArray, List.getElem_map];have : s[pos]'(by rw [bytesOf_size] at hlt; exact hlt) = c := (List.getElem?_eq_some_iff.1 hs).2
      rw [this]; simp; omega
     have hdec := decode_ascii (bytesOf s) pos hlt (by rw [hbyte]; exact hc)
     rw [hbyte] at hdec;have hset : (setObj x.1 (.stringIter (bytesOf s) (pos + 1))).run P w = .ok () { w with heap := w.heap.setIfInBounds x.1 (.stringIter (bytesOf s) (pos + 1)) } := by simp [setObj, Sem.run, hO]
     have hxlt : x.1 < w.heap.size := (hH.live r _ hob).elim fun y hy => by
      have := hy.1; rw [hx] at this; cases this; exact hy.2.lt
     refine ⟨.tuple #[.bool true, goInt pos, .int .i32 c], { w with heap := w.heap.setIfInBounds x.1 (.stringIter (bytesOf s) (pos + 1)) }, ?_, rfl, ?_, ?_, rfl⟩
     ·simp only [Instr.next, Sem.run_bind, hget, Result.andThen_ok, if_pos hlt, hdec, hset, Sem.run_pure]
     ·show HR NG e L (H.objs.set r _).get nx _;rw [get_set_upd];exact hH.upd hob hx rfl (fun B hB => by simp only; rw [Array.getElem?_setIfInBounds_ne (fun h => hB h.symm)]) (by simp [ObjR, hxlt])
     ·show Tran e H.objs.get nx w e (H.objs.set r _).get nx _;rw [get_set_upd];exact Tran.upd hob hx rfl rfl (fun B hB => by simp only; rw [Array.getElem?_setIfInBounds_ne (fun h => hB h.symm)]) (by simp) rfl rfl rfl
  ·cases h
 ·cases h
theorem mark_run {P : Program} {w : World} {s ee : TypeId} {B n : Nat} {c : Array Value} {el : TypeId} (hs : P.underlying s = some (.slice ee)) (he : P.underlying ee = some (.int .u8)) (hB : w.heap[B]? = some (.cells c el (0, 0))) :
 ∃ w', (convert s s (.slice (some ⟨B, 0, none⟩) n n)).run P w = .ok (.slice (some ⟨B, 0, none⟩) n n) w' ∧ w'.heap[B]? = some (.cells c el (c.size, c.size + 1)) ∧ (∀ B', B' ≠ B → w'.heap[B']? = w.heap[B']?) ∧ w'.heap.size = w.heap.size ∧
  w'.os = w.os ∧ w'.tape = w.tape ∧ w'.output = w.output := by
 have hsh : w.shape? B = some (el, c.size) := by unfold World.shape?; rw [hB]
 refine ⟨w.freeze ⟨B, c.size, none⟩ 1, ?_, ?_, ?_, ?_, ?_, ?_, ?_⟩
 ·simp [convert, run_underlying hs, run_underlying he, markStringish, hsh]
 ·have hlt : B < w.heap.size := (Array.getElem?_eq_some_iff.1 hB).1;have hv : w.heap[B] = .cells c el (0, 0) := (Array.getElem?_eq_some_iff.1 hB).2;unfold World.freeze;rw [if_neg (by decide), Array.getElem?_eq_getElem (by simpa using hlt), Array.getElem_modify]
  simp [hv]
 ·intro B' h';unfold World.freeze;rw [if_neg (by decide)]
  simp [Array.getElem?_modify, Ne.symm h']
 ·unfold World.freeze; rw [if_neg (by decide)]; simp
 ·unfold World.freeze; rw [if_neg (by decide)]
 ·unfold World.freeze; rw [if_neg (by decide)]
 ·unfold World.freeze; rw [if_neg (by decide)]
include ok hH in
theorem wConv_run {s d : TypeId} {a v : AV} {va : Value} (ha : cv e a = some va) {nid n0 : Nat} {H' : AHeap} (h : wConv X H nid s d (some a) = some (v, H')) (hn : e.f nid = none) (hlt : nid < nx) (hn0 : n0 ≤ nid) :
 ∃ e' y w', (convert s d va).run P w = .ok y w' ∧ cv e' v = some y ∧ HR NG e' L H'.objs.get nx w' ∧ Tran e H.objs.get n0 w e' H'.objs.get nx w' ∧ H'.next = H.next := by
 have quiet : wQuiet H (qConvert X H (X.tys.get s) (X.tys.get d) (some a)) = some (v, H') → ∃ e' y w', (convert s d va).run P w = .ok y w' ∧ cv e' v = some y ∧ HR NG e' L H'.objs.get nx w' ∧ Tran e H.objs.get n0 w e' H'.objs.get nx w' ∧ H'.next = H.next := by
  intro h;cases hq : qConvert X H (X.tys.get s) (X.tys.get d) (some a) with
  | none => rw [hq] at h; cases h
  | some u =>
   rw [hq] at h;simp only [wQuiet, Option.some.injEq, Prod.mk.injEq] at h;obtain ⟨rfl, rfl⟩ := h;obtain ⟨y, hy, hr⟩ := qConvert_run ok w hH ha hq;exact ⟨e, y, w, hr, hy, hH, (Tran.refl e _ nx w).lower (by omega), rfl⟩
 cases a with
 | sl b off n c =>
  simp only [wConv, brec] at h;cases hc : (Nat.beq s d && byteSl X (X.tys.get s)) with
  | false => rw [hc] at h; cases h
  | true =>
   rw [hc] at h; simp only [cond_true] at h;simp only [Bool.and_eq_true] at hc;obtain rfl := nbeq_of hc.1;have hb := hc.2;unfold byteSl at hb
   split at hb
   ·rename_i kk ee sz by' z cm heq
    have hks := ok.tys _ _ heq;have hsl := tk_slice hks rfl;unfold isByte at hb
    split at hb
    ·rename_i heq2;have hke := ok.tys _ _ heq2;unfold wMark at h
     split at h
     ·rename_i c el m cells hob;simp only [brec] at h;cases hd : (Nat.beq off 0 && Nat.beq c n && Nat.beq m n) with
      | false => rw [hd] at h; cases h
      | true =>
       rw [hd] at h; simp only [cond_true, Option.some.injEq, Prod.mk.injEq] at h;obtain ⟨rfl, rfl⟩ := h;simp only [Bool.and_eq_true] at hd;obtain rfl := nbeq_of hd.1.1;obtain rfl := nbeq_of hd.1.2;obtain rfl := nbeq_of hd.2;obtain ⟨x, hx, rfl⟩ := cv_sl ha;obtain ⟨y, hy, cc, fz, g1, g2, g3, g4⟩ := hH.live b _ hob;rw [hx] at hy; cases hy;have hfz : fz = (0, 0) := (g2 rfl).plain rfl;subst hfz;have hsz : cc.size = m := g3;obtain ⟨w', s2, s1, s3, s4, s5, s6, s7⟩ := mark_run (P := P) (n := m) hsl (tk_int hke rfl) g1;have hle := Env.le_ext hn (x.1, m);have hO : ObjR (e.ext nid (x.1, m)) L nid (x.1, m) w' (.blk el false (.opn m (some (m + 1)) 1) cells) := by
        refine ⟨_, _, s1, fun _ => .inr ⟨Nat.le_refl _, rfl⟩, ⟨by rw [hsz]; omega, Nat.le_refl _, fun h hh => by cases hh; exact Nat.lt_succ_self _⟩, ?_⟩
        intro i a ha;obtain ⟨y, hy, hxx⟩ := g4 i a ha;exact ⟨y, cv_le hle _ _ hy, hxx⟩
       refine ⟨e.ext nid (x.1, m), _, w', s2, by simp only [cv, Env.ext_same, Cap.val, Nat.sub_zero], ?_, ?_, rfl⟩
       ·show HR NG _ L ((H.objs.set b none).set nid _).get nx _;rw [get_set_upd, get_set_upd];exact hH.rebindK (x := x) rfl hob hx rfl hn hlt s3 hO
       ·show Tran e H.objs.get n0 w _ ((H.objs.set b none).set nid _).get nx _;rw [get_set_upd, get_set_upd];exact Tran.rebindK (x := x) rfl hob hx rfl rfl hn hn0 (by omega) s3 s4 s5 s6 s7
     ·cases h
    ·cases hb
   ·cases hb
 | _ => exact quiet h
include ok hH in
theorem wop_run {ev : Operand → Option AV} {ρ : Operand → Value} (hev : EvOk e ev ρ) (o : Oper) {nid n0 : Nat} {v : AV} {H' : AHeap} (h : wop X ev nid H o.op = some (v, H')) (hn : e.f nid = none) (hlt : nid < nx) (hn0 : n0 ≤ nid) :
 ∃ e' y nxt w', (execOp ρ o).run P w = .ok nxt w' ∧ NextIs nxt y ∧ cv e' v = some y ∧ HR NG e' L H'.objs.get nx w' ∧ Tran e H.objs.get n0 w e' H'.objs.get nx w' ∧ H'.next = H.next := by
 unfold wop at h
 split at h
 ·rename_i s d x ho;cases hx : ev x with
  | none => rw [hx] at h; simp [wConv, wQuiet, qConvert] at h
  | some vx =>
   rw [hx] at h;obtain ⟨e', y, w', hr, hy, h1, h2, h3⟩ := wConv_run ok w hH (hev _ _ hx) h hn hlt hn0;refine ⟨e', y, .value y, w', ?_, .inl rfl, hy, h1, h2, h3⟩;simp only [execOp, ho, Sem.run_bind, hr]; rfl
 ·rename_i t a x ho;unfold wStore at h
  split at h
  ·rename_i b off v' ha hx;cases hs : storeV X H t b off v' with
   | none => rw [hs] at h; cases h
   | some H1 =>
    rw [hs] at h;simp only [Option.some.injEq, Prod.mk.injEq] at h;obtain ⟨rfl, rfl⟩ := h;obtain ⟨x0, hx0, hρa⟩ := cv_ptr (hev _ _ ha);obtain ⟨w', hr, h1, h2, h3⟩ := storeV_run (P := P) ok w hH (hev _ _ hx) hs hx0;refine ⟨e, Go.undef, .skip, w', ?_, .inr ⟨rfl, rfl⟩, rfl, h1, h2.lower (by omega), h3⟩
    simp only [execOp, ho, hρa, Instr.storeAt, Instr.sureAddr, Sem.run_bind, Sem.run_pure, Result.andThen_ok, hr]
  ·cases h
 ·rename_i it ho;cases hi : ev it with
  | none => rw [hi] at h; simp [wNext] at h
  | some vi =>
   rw [hi] at h;obtain ⟨y, w', hr, hy, h1, h2, h3⟩ := wNext_run (P := P) ok w hH (hev _ _ hi) h o.type;refine ⟨e, y, .value y, w', ?_, .inl rfl, hy, h1, h2.lower (by omega), h3⟩
   simp only [execOp, ho, Sem.run_bind, hr]; rfl
 ·rename_i t x ho;cases hx : ev x with
  | none => rw [hx] at h; unfold wRange at h; split at h <;> simp_all
  | some vx =>
   rw [hx] at h;obtain ⟨e', y, w', hr, hy, h1, h2, h3⟩ := wRange_run ok w hH (hev _ _ hx) h hn hlt hn0;refine ⟨e', y, .value y, w', ?_, .inl rfl, hy, h1, h2, h3⟩;simp only [execOp, ho, Sem.run_bind, hr]; rfl
 ·rename_i t m k x ho;cases hm : ev m with
  | none => rw [hm] at h; unfold wUpd at h; split at h <;> simp_all
  | some vm =>
  cases hk : ev k with
  | none => rw [hk] at h; unfold wUpd at h; split at h <;> simp_all
  | some vk =>
  cases hx : ev x with
  | none => rw [hx] at h; unfold wUpd at h; split at h <;> simp_all
  | some vx =>
   rw [hm, hk, hx] at h;obtain ⟨w', hr, rfl, h1, h2, h3⟩ := wUpd_run ok w hH (hev _ _ hm) (hev _ _ hk) (hev _ _ hx) h;refine ⟨e, Go.undef, .skip, w', ?_, .inr ⟨rfl, rfl⟩, rfl, h1, h2.lower (by omega), h3⟩
   simp only [execOp, ho, Sem.run_bind, hr]; rfl
 ·rename_i t m k x ho;cases hm : ev m with
  | none => rw [hm] at h; unfold wUpd at h; split at h <;> simp_all
  | some vm =>
  cases hk : ev k with
  | none => rw [hk] at h; unfold wUpd at h; split at h <;> simp_all
  | some vk =>
  cases hx : ev x with
  | none => rw [hx] at h; unfold wUpd at h; split at h <;> simp_all
  | some vx =>
   rw [hm, hk, hx] at h;obtain ⟨w', hr, rfl, h1, h2, h3⟩ := wUpd_run ok w hH (hev _ _ hm) (hev _ _ hk) (hev _ _ hx) h;refine ⟨e, Go.undef, .skip, w', ?_, .inr ⟨rfl, rfl⟩, rfl, h1, h2.lower (by omega), h3⟩
   simp only [execOp, ho, Sem.run_bind, hr]; rfl
 ·rename_i c ho;obtain ⟨callee, args, ts⟩ := c;simp only at h;cases callee with
  | builtin b =>
   simp only [wCall] at h;have key : ∀ {s : Sem Value} {y : Value} {w' : World}, (∀ cs, builtin b ts o.type cs (args.map ρ) = do pure (Next.value (← s))) → s.run P w = .ok y w' → (execOp ρ o).run P w = .ok (.value y) w' := by
    intro s y w' hs hr;simp only [execOp, ho, resolve, Sem.run_bind, Sem.run_pure, Result.andThen_ok, invoke];rw [hs _, Sem.run_bind, hr]; rfl
   unfold wBuiltin at h
   split at h
   ·obtain ⟨e', y, w', hr, hy, h1, h2, h3⟩ := wAppend_run ok w hH hev h hn hlt hn0 o.type;exact ⟨e', y, _, w', key (fun _ => rfl) hr, .inl rfl, hy, h1, h2, h3⟩
   ·obtain ⟨y, w', hr, hy, h1, h2, h3⟩ := wCopy_run ok w hH hev h o.type;exact ⟨e, y, _, w', key (fun _ => rfl) hr, .inl rfl, hy, h1, h2.lower (by omega), h3⟩
   ·obtain ⟨y, w', hr, hy, h1, h2, h3⟩ := wClear_run ok w hH hev h o.type;exact ⟨e, y, _, w', key (fun _ => rfl) hr, .inl rfl, hy, h1, h2.lower (by omega), h3⟩
   ·obtain ⟨y, w', hr, hy, h1, h2, h3⟩ := wDelete_run ok w hH hev h o.type;exact ⟨e, y, _, w', key (fun _ => rfl) hr, .inl rfl, hy, h1, h2.lower (by omega), h3⟩
   ·obtain ⟨y, w', hr, hy, h1, h2, h3⟩ := wString_run ok w hH hev h o.type;exact ⟨e, y, _, w', key (fun _ => rfl) hr, .inl rfl, hy, h1, h2.lower (by omega), h3⟩
   ·cases h
  | _ => simp [wCall] at h
 ·cases h
include hH in
theorem sharpen {b : Nat} {x : Nat × Nat} {el : TypeId} {lo es : Nat} {hi : Option Nat} {cells : Tr AV} (hob : H.objs.get b = some (.blk el false (.opn lo hi es) cells)) (hx : e.f b = some x)
 {lo' : Nat} {hi' : Option Nat} (h1 : lo' ≤ x.2) (h2 : ∀ h, hi' = some h → x.2 < h) :
 HR NG e L (H.set b (some (.blk el false (.opn lo' hi' es) cells))).objs.get nx w ∧ Tran e H.objs.get nx w e (H.set b (some (.blk el false (.opn lo' hi' es) cells))).objs.get nx w := by
 have hset : (H.set b (some (.blk el false (.opn lo' hi' es) cells))).objs.get = X.upd H.objs.get b (some (.blk el false (.opn lo' hi' es) cells)) := by
  show (H.objs.set b _).get = _; rw [get_set_upd]
 rw [hset];obtain ⟨x', hx', c, fz, b1, b2, ⟨b3, b4, b5⟩, b6⟩ := hH.live b _ hob;rw [hx] at hx'; cases hx';refine ⟨hH.upd hob hx rfl (fun _ _ => rfl) ⟨c, fz, b1, b2, ⟨b3, h1, h2⟩, b6⟩, ?_⟩
 refine ⟨Env.le_refl e, fun _ _ => rfl, Nat.le_refl _, Nat.le_refl _, fun _ _ _ => rfl, ?_, ?_, rfl, rfl, rfl⟩
 ·rintro B ⟨d, p, y, hd, hp, hy, hB⟩ _
  by_cases e1 : d = b
  ·subst e1; rw [upd_same] at hd; cases hd; exact ⟨d, _, y, hob, hp, hy, hB⟩
  ·rw [upd_ne _ _ e1] at hd; exact ⟨d, p, y, hd, hp, hy, hB⟩
 ·intro d p hd hp
  by_cases e1 : d = b
  ·subst e1; rw [upd_same] at hd; cases hd; cases hp
  ·rw [upd_ne _ _ e1] at hd; exact ⟨p, hd, hp⟩
include ok hH in
theorem forkOp_run {ev : Operand → Option AV} {ρ : Operand → Value} (hev : EvOk e ev ρ) (o : Oper) {outs : List (AV × AHeap)} (h : forkOp X ev H o.op = some outs) :
 ∃ v H', (v, H') ∈ outs ∧ ∃ y, (execOp ρ o).run P w = .ok (.value y) w ∧ cv e v = some y ∧ HR NG e L H'.objs.get nx w ∧ Tran e H.objs.get nx w e H'.objs.get nx w ∧ H'.next = H.next := by
 unfold forkOp at h
 split at h
 ·rename_i t x y yt ho;unfold fkBin at h
  split at h
  ·rename_i n b k hx hy;have hρx := cv_int (hev _ _ hx);have hcy := hev _ _ hy;simp only [cv] at hcy;cases hb : e.f b with
   | none => rw [hb] at hcy; cases hcy
   | some x0 =>
    rw [hb] at hcy;simp only [Option.some.injEq] at hcy;unfold fkCmp at h
    split at h
    ·rename_i el lo hi es cells hob;simp only [brec] at h;cases hkl : Nat.ble k lo with
     | false => rw [hkl] at h; cases h
     | true =>
     rw [hkl] at h;simp only [cond_true, Option.some.injEq] at h; subst h;have hkle := nble_of hkl;have hrun : (execOp ρ o).run P w = .ok (.value (.bool (decide ((n : Int) > ((x0.2 - k : Nat) : Int))))) w := by
      simp only [execOp, ho, hρx, ← hcy];refine val_run w ?_;rw [Sem.run_bind, eqGuard_plain w (by simp) (by simp), Result.andThen_ok]
      simp [binOp, Op.intCmp]
     obtain ⟨x', hx', c, fz, b1, b2, ⟨b3, b4, b5⟩, b6⟩ := hH.live b _ hob;rw [hb] at hx'; cases hx'
     by_cases hgt : (n : Int) > ((x0.2 - k : Nat) : Int)
     ·by_cases hk0 : x0.2 < n + k
      ·have hs := sharpen w hH hob hb (lo' := lo) (hi' := some (n + k)) b4 (fun h hh => by cases hh; exact hk0)
       exact ⟨_, _, List.mem_cons_self .., _, hrun, by rw [decide_eq_true hgt]; rfl, hs.1, hs.2, rfl⟩
      ·omega
     ·have hs := sharpen w hH hob hb (lo' := Nat.max lo (n + k)) (hi' := hi) (by
       apply Nat.max_le.2;refine ⟨b4, ?_⟩
       omega) b5
      exact ⟨_, _, List.mem_cons_of_mem _ (List.mem_cons_self ..), _, hrun, by rw [decide_eq_false hgt]; rfl, hs.1, hs.2, rfl⟩
    ·cases h
  ·cases h
 ·rename_i t x lo ho;unfold fkSlice at h
  split at h
  ·rename_i ti v l ht hx hl;unfold fkSlice1 at h
   split at h
   ·rename_i el b off len k htk;cases hel : X.tys.get el with
    | none => rw [hel] at h; simp [fkSlice2] at h
    | some ei =>
     rw [hel] at h;simp only [fkSlice2, brec] at h;cases hb1 : Nat.beq (l.getD 0) len with
     | false => rw [hb1] at h; cases h
     | true =>
      rw [hb1] at h; simp only [cond_true] at h;have hlen := nbeq_of hb1;unfold fkSlice3 at h
      split at h
      ·rename_i el' low hi es' cells hob;simp only [brec] at h;cases hb2 : Nat.beq (k + l.getD 0) low with
       | false => rw [hb2] at h; cases h
       | true =>
        rw [hb2] at h; simp only [cond_true, Option.some.injEq] at h; subst h;have hlow := nbeq_of hb2;obtain ⟨x0, hx0, hρ⟩ := cv_sl (hev _ _ hx);have hu := tk_slice (ok.tys t ti ht) htk;have hsz := run_sizeOf' w (ok.tys el ei hel);obtain ⟨x', hx', c, fz, b1, b2, ⟨b3, b4, b5⟩, b6⟩ := hH.live b _ hob;rw [hx0] at hx'; cases hx';have hbd := sliceBounds_run (P := P) w hev hl (hi := none) (h := none) rfl (mx := none) (m := none) rfl true len (x0.2 - k) (by simp) (by simp; omega) (by simp; omega) (by simp)
        simp only [Option.getD_none, Option.map_none] at hbd;have hrun : ∀ a : Nat, a = (if x0.2 - k = l.getD 0 then off else off + l.getD 0 * ei.size) → (execOp ρ o).run P w = .ok (.value (.slice (some ⟨x0.1, a, none⟩) (len - l.getD 0) (x0.2 - k - l.getD 0))) w := by
         intro a ha;simp only [execOp, ho, hρ];refine val_run w ?_;simp only [Instr.sliceAt, Sem.run_bind, run_underlying hu, Result.andThen_ok, Instr.slice, Cap.val, Option.map_none, hbd, hsz, Sem.run_pure, Option.map_some, add_none];rw [ha]
         congr 3
         split <;> rfl
        by_cases heq : x0.2 - k = l.getD 0
        ·have hs := sharpen w hH hob hx0 (lo' := low) (hi' := some (low + 1)) b4 (fun h hh => by cases hh; omega)
         refine ⟨_, _, List.mem_cons_of_mem _ (List.mem_cons_self ..), _, hrun off (by rw [if_pos heq]), ?_, hs.1, hs.2, rfl⟩
         simp only [cv, hx0, Cap.val]
         congr 2 <;> omega
        ·have hs := sharpen w hH hob hx0 (lo' := low + 1) (hi' := hi) (by omega) b5
         refine ⟨_, _, List.mem_cons_self .., _, hrun (off + l.getD 0 * ei.size) (by rw [if_neg heq]), ?_, hs.1, hs.2, rfl⟩
         simp only [cv, hx0, Cap.val]
         congr 2 <;> omega
      ·cases h
   ·cases h
  ·cases h
 ·cases h
include hH in
theorem forkW_run {ev : Operand → Option AV} {ρ : Operand → Value} (hev : EvOk e ev ρ) (o : Oper) {outs : List (AV × AHeap)} (h : forkW ev H o.op = some outs) :
 ∃ v H', (v, H') ∈ outs ∧ ∃ y w', (execOp ρ o).run P w = .ok (.value y) w' ∧ cv e v = some y ∧ HR NG e L H'.objs.get nx w' ∧ Tran e H.objs.get nx w e H'.objs.get nx w' ∧ H'.next = H.next := by
 unfold forkW at h
 split at h
 ·rename_i it ho;cases hi : ev it with
  | none => rw [hi] at h; simp [forkNext] at h
  | some vi =>
   rw [hi] at h;obtain ⟨v, H', hm, y, w', hr, h1, h2, h3, h4⟩ := forkNext_run (P := P) w hH (hev _ _ hi) h o.type;refine ⟨v, H', hm, y, w', ?_, h1, h2, h3, h4⟩;simp only [execOp, ho, Sem.run_bind, hr]; rfl
 ·cases h
end
end
end Go.X
