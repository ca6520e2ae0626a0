/- The operations that write memory, together; the operations that fork. -/
import Derived.Test.YtnmkiflnonafbaaGreatDoorE6
import Derived.Laws.RangeString
set_option linter.unusedVariables false
set_option linter.unusedSimpArgs false
namespace Go.X
noncomputable section
set_option linter.unusedSectionVars false
def Zos (n : Next) (y : Value) : Prop := n = .value y ∨ (n = .skip ∧ y = Go.undef)
section
variable {P : Program} {X : XP} (ok : XPok P X) (w : World) {e : Env} {L : Zag} {H : AHeap} {nx NG : Nat} (hH : HR NG e L H.objs.get nx w)
theorem Zhb {ev : Operand → Option AV} {ρ : Operand → Value} (hev : Ze9 e ev ρ) {args : Array Operand} {a b : AV} (h : ZbF ev args.toList = some [a, b]) : ∃ x y, cv e a = some x ∧ cv e b = some y ∧ args.map ρ = #[x, y] := by
 have := ZbA hev h;obtain ⟨x, z, hx, hz, he⟩ := Zap this;obtain ⟨y, z', hy, hz', rfl⟩ := Zap hz;simp only [cvs, Option.some.injEq] at hz'; subst hz';refine ⟨x, y, hx, hy, ?_⟩;apply Array.ext';simpa using he
include ok hH in
theorem Zkb {t b off : Nat} {v : AV} {y : Value} (hv : cv e v = some y) {H' : AHeap} (h : ZiN X H t b off v = some H') {x : Nat × Nat} (hx : e.f b = some x) :
 ∃ w', (storeVar t ⟨x.1, off, none⟩ y).run P w = .ok () w' ∧ HR NG e L H'.objs.get nx w' ∧ Tran e H.objs.get nx w e H'.objs.get nx w' ∧ H'.next = H.next := by
 unfold ZiN at h;cases ht : X.tys.get t with
 | none => rw [ht] at h; cases h
 | some ti =>
  rw [ht] at h;simp only [Zaw] at h;cases hb : Nat.beq v.cells.length ti.size with
  | false => rw [hb] at h; cases h
  | true =>
   rw [hb] at h; simp only [cond_true] at h;have hlen := Zab hb;have hns : ∀ i, v ≠ .sym i := by
    intro i hi; subst hi;unfold putCells at h
    split at h
    ·simp [AV.cells, AV.isCell] at h
    ·cases h
   have hc := Zgd hv hns;obtain ⟨x', w', hx', hrun, h1, h2, h3⟩ := ZbM (P := P) hH h hc;rw [hx] at hx'; cases hx';refine ⟨w', ?_, h1, h2, h3⟩;have hsz : y.cells.size = ti.size := by have := Zal hc; simp at this; omega
   simp [storeVar, Zae w (ok.tys t ti ht), hsz, hrun]
theorem Zd6 {es n : Nat} {x : AV} {vx : Value} (hx : cv e x = some vx) {xs : List AV} (h : Zcw H es n x = some xs) (hl : ∃ m, ZfT x = some m ∧ n ≤ m) (hH : HR NG e L H.objs.get nx w) :
 ∃ ys, cvs e xs = some ys ∧ ys.length = n * es ∧ ∀ W : World, W.heap = w.heap → (Builtin.firstCells es n vx).run P W = .ok ys.toArray W := by
 obtain ⟨m, hm, hnm⟩ := hl;unfold Zcw at h
 split at h
 ·simp only [Zaw] at h;cases hb : Nat.beq n 0 with
  | false => rw [hb] at h; cases h
  | true =>
   rw [hb] at h; simp only [cond_true, Option.some.injEq] at h; subst h;have := Zab hb; subst this;simp only [cv, Option.some.injEq] at hx; subst hx;exact ⟨[], rfl, by simp, fun W _ => by simp [Builtin.firstCells]⟩
 ·rename_i b off len c;obtain ⟨x0, hx0, rfl⟩ := Zbk hx;obtain ⟨x', os, hx', hos, hol, hcell⟩ := Za9 hH h;rw [hx0] at hx'; cases hx';refine ⟨os, hos, hol, fun W hW => ?_⟩
  have hr := run_loadCells_list (P := P) W ⟨x0.1, off, none⟩ os (fun j u hj => by
   rw [ZaE];have := hcell j u hj;simp only [World.cell?] at this ⊢
   rw [hW]; exact this)
  rw [hol] at hr;simp only [Builtin.firstCells, hr]
 ·rename_i s;obtain ⟨hs, rfl⟩ := Zbh hx;simp only [ZfT, Option.some.injEq] at hm; subst hm;simp only [Zaw] at h;cases hb1 : Nat.beq es 1 with
  | false => rw [hb1] at h; cases h
  | true =>
  have h1 := Zab hb1;subst h1;rw [hb1] at h;simp only [cond_true, Option.some.injEq] at h; subst h;refine ⟨(s.take n).map (fun (b : Nat) => Value.int .u8 (b : Int)), ?_, by simp; omega, fun W _ => ?_⟩
  ·have key : ∀ l : List Nat, cvs e (l.map fun b => AV.int .u8 (.ofNat b)) = some (l.map fun (b : Nat) => Value.int .u8 (b : Int)) := by
    intro l
    induction l with
    | nil => rfl
    | cons b l ih => exact Za2 rfl ih
   exact key _
  ·simp only [Builtin.firstCells, Sem.run_pure]
   congr 1
   apply Array.ext';simp only [bytesOf, ByteArray.data_extract, Array.toList_map, Array.toList_extract];simp only [List.extract_eq_take_drop, List.drop_zero, Nat.sub_zero, List.map_take, List.map_map]
   congr 1
   apply List.map_congr_left;intro b hb;have := hs b hb;simp; omega
 ·cases h
theorem Zge {x : AV} {vx : Value} (hx : cv e x = some vx) {n : Nat} (h : ZfT x = some n) : ∀ W : World, (Builtin.lenOf vx).run P W = .ok n W := by
 intro W;unfold ZfT at h
 split at h
 ·simp only [cv, Option.some.injEq] at hx; subst hx; simp only [Option.some.injEq] at h; subst h; rfl
 ·obtain ⟨x0, _, rfl⟩ := Zbk hx; simp only [Option.some.injEq] at h; subst h; rfl
 ·obtain ⟨_, rfl⟩ := Zbh hx; simp only [Option.some.injEq] at h; subst h; simp [Builtin.lenOf, Zai]
 ·cases h
theorem Zqt {t : TypeId} {ti : TyI} (ht : TyOk P t ti) (hk : (∃ e', ti.k = .slice e') ∨ ti.k = .str) : ∃ d, P.underlying t = some d ∧ ((∃ e', d = .slice e') ∨ d = .string) := by
 rcases hk with ⟨e', h⟩ | h
 ·exact ⟨_, Zay ht h, .inl ⟨e', rfl⟩⟩
 ·exact ⟨_, Zdj ht h, .inr rfl⟩
theorem Zd7 {z : Value} {n size : Nat} (hz : z.cells.size = size) : Builtin.zeroCells z.cells n = (Array.range (n * size)).map (fun i => z.cells[i % size]!) := by
 simp only [Builtin.zeroCells, hz]
include ok hH in
theorem Zic {ev : Operand → Option AV} {ρ : Operand → Value} (hev : Ze9 e ev ρ) {args : Array Operand} {ts : Array TypeId} {nid n0 : Nat} {v : AV} {H' : AHeap}
 (h : ZhU X H nid (ty0 X ts 0) (ty0 X ts 1) (ZbF ev args.toList) = some (v, H')) (hn : e.f nid = none) (hlt : nid < nx) (hn0 : n0 ≤ nid) (ty : TypeId) :
 ∃ e' y w', (Builtin.append_ ts ty (args.map ρ)).run P w = .ok y w' ∧ cv e' v = some y ∧ HR NG e' L H'.objs.get nx w' ∧ Tran e H.objs.get n0 w e' H'.objs.get nx w' ∧ H'.next = H.next := by
 unfold ZhU at h
 split at h
 ·rename_i ti ui s x ht hu' ha;obtain ⟨vs, vx, hvs, hvx, hargs⟩ := Zhb hev ha;have ht0 : ∃ t, ts[0]? = some t ∧ X.tys.get t = some ti := by
   unfold ty0 at ht; cases h0 : ts[0]? with
   | none => rw [h0] at ht; cases ht
   | some t => rw [h0] at ht; exact ⟨t, rfl, ht⟩
  have ht1 : ∃ t, ts[1]? = some t ∧ X.tys.get t = some ui := by
   unfold ty0 at hu'; cases h0 : ts[1]? with
   | none => rw [h0] at hu'; cases hu'
   | some t => rw [h0] at hu'; exact ⟨t, rfl, hu'⟩
  obtain ⟨t, h0, htt⟩ := ht0;obtain ⟨u, h1, huu⟩ := ht1;have hkt := ok.tys t ti htt;have hku := ok.tys u ui huu;rw [hargs];unfold ZiT at h
  split at h
  ·rename_i el htk;have hut := Zay hkt htk;cases hel : X.tys.get el with
   | none => rw [hel] at h; simp [ZfW] at h
   | some ei =>
    rw [hel] at h;have hke := ok.tys el ei hel;have viaCells : (∃ e', ui.k = .slice e') ∨ ui.k = .str → Zcx H nid el ei s x (ZfT x) = some (v, H') →
     ∃ e' y w', (Builtin.append_ ts ty #[vs, vx]).run P w = .ok y w' ∧ cv e' v = some y ∧ HR NG e' L H'.objs.get nx w' ∧ Tran e H.objs.get n0 w e' H'.objs.get nx w' ∧ H'.next = H.next := by
     intro hkk hh;obtain ⟨d, hd, hdd⟩ := Zqt hku hkk;unfold Zcx at hh
     split at hh
     ·rename_i n hln;cases hsc : Zcw H ei.size n x with
      | none => rw [hsc] at hh; simp [Zcg] at hh
      | some xs =>
       rw [hsc] at hh;simp only [Zcg, Zaw] at hh;cases hok : ZoL ei n (ZfT s) with
       | false => rw [hok] at hh; cases hh
       | true =>
        rw [hok] at hh; simp only [cond_true] at hh;obtain ⟨ys, hys, hlen, hrun⟩ := Zd6 (P := P) w hvx hsc ⟨n, hln, Nat.le_refl _⟩ hH;exact ZeL ok w hH h0 hut hel hys hlen (Src.cells u d h1 hd hdd (Zge hvx hln) hrun) hvs hok hh hn hlt hn0
     ·cases hh
    unfold ZfW at h
    split at h
    ·rename_i ei' k heq hk';simp only [Option.some.injEq] at heq; subst heq;unfold ZdY at h
     split at h
     ·rename_i k' n;simp only [Zaw] at h;cases hok : ZoL ei n (ZfT s) with
      | false => rw [hok] at h; cases h
      | true =>
       rw [hok] at h; simp only [cond_true] at h;have hbd : n < 1048576 ∧ ei.bytes ≤ 1048576 := by
        unfold ZoL at hok
        split at hok
        ·simp only [Bool.and_eq_true] at hok;exact ⟨by have := ZaF hok.1.1; omega, Zak hok.1.2⟩
        ·cases hok
       obtain ⟨inf, hinf, hs1, hs2, z, hz, hzc⟩ := hke.info;have hzcv := (Zbc e hzc).1;have hzl : z.cells.size = ei.size := by have := Zal hzcv; simp at this; rw [this, hke.len]
       have hzeros := Zdl hzcv n;rw [hzl] at hzeros;refine ZeL ok w hH h0 hut hel hzeros (by simp) (Src.zeros u k k' h1 (Zjk hku hk') (Za8 hvx) hbd.1 z (fun W => by simp [zeroValue, Zax W hinf, hz]) inf (fun W => Zax W hinf) (by rw [hs2]; exact hbd.2) ?_ ?_) hvs hok h hn hlt hn0
       ·intro h00; rw [h00]; simp
       ·intro _; rw [Zd7 hzl]
     ·cases h
    ·rename_i ei' e' heq hk';simp only [Option.some.injEq] at heq; subst heq;exact viaCells (.inl ⟨_, hk'⟩) h
    ·rename_i ei' heq hk';simp only [Option.some.injEq] at heq; subst heq;exact viaCells (.inr hk') h
    ·cases h
  ·cases h
 ·cases h
end
end
end Go.X

/- The operations that write memory, together; the operations that fork. -/
namespace Go.X
noncomputable section
set_option linter.unusedSectionVars false
section
variable {P : Program} {X : XP} (ok : XPok P X) (w : World) {e : Env} {L : Zag} {H : AHeap} {nx NG : Nat} (hH : HR NG e L H.objs.get nx w)
theorem Tran.lower {e e' : Env} {G G' : Nat → Option AObj} {n0 n n' : Nat} {w w' : World} (h : Tran e G n w e' G' n' w') (h0 : n0 ≤ n) : Tran e G n0 w e' G' n' w' :=
 { h with old := fun b hb => h.old b (by omega), nx := Nat.le_trans h0 h.nx }
include ok hH in
theorem ZlI {ev : Operand → Option AV} {ρ : Operand → Value} (hev : Ze9 e ev ρ) {args : Array Operand} {ts : Array TypeId} {v : AV} {H' : AHeap}
 (h : ZoM X H (ty0 X ts 0) (ZbF ev args.toList) = some (v, H')) (ty : TypeId) :
 ∃ y w', (Builtin.copy_ ts ty (args.map ρ)).run P w = .ok y w' ∧ cv e v = some y ∧ HR NG e L H'.objs.get nx w' ∧ Tran e H.objs.get nx w e H'.objs.get nx w' ∧ H'.next = H.next := by
 unfold ZoM at h
 split at h
 ·rename_i ti d s ht ha;obtain ⟨vd, vs, hvd, hvs, hargs⟩ := Zhb hev ha;have ht0 : ∃ t, ts[0]? = some t ∧ X.tys.get t = some ti := by
   unfold ty0 at ht; cases h0 : ts[0]? with
   | none => rw [h0] at ht; cases ht
   | some t => rw [h0] at ht; exact ⟨t, rfl, ht⟩
  obtain ⟨t, h0, htt⟩ := ht0;have hkt := ok.tys t ti htt;rw [hargs];unfold Zod at h
  split at h
  ·rename_i el htk;have hut := Zay hkt htk;unfold Zoc at h
   split at h
   ·rename_i ei ns hel hln;simp only [Option.some.injEq, Prod.mk.injEq] at h;obtain ⟨rfl, rfl⟩ := h;simp only [cv, Option.some.injEq] at hvd; subst hvd;have hke := ok.tys el ei hel;have hl := Zge (P := P) hvs hln;have hf : (Builtin.firstCells ei.size 0 vs).run P w = .ok #[] w := by
     unfold ZfT at hln
     split at hln
     ·simp only [cv, Option.some.injEq] at hvs; subst hvs; rfl
     ·obtain ⟨x0, _, rfl⟩ := Zbk hvs; simp [Builtin.firstCells, loadCells, loadCellsFrom]
     ·obtain ⟨_, rfl⟩ := Zbh hvs; simp [Builtin.firstCells]
     ·cases hln
    refine ⟨.int .i64 0, w, ?_, rfl, hH, Tran.refl _ _ _ _, rfl⟩;simp only [Builtin.copy_, h0, List.getElem?_toArray, List.getElem?_cons_zero, List.getElem?_cons_succ, Sem.run_bind, run_underlying hut, Result.andThen_ok, hl, Zae w hke, Nat.min_zero];rw [hf]; rfl
   ·rename_i ei ns b off nd c hel hln;have hke := ok.tys el ei hel;obtain ⟨x0, hx0, rfl⟩ := Zbk hvd;cases hsc : Zcw H ei.size (Nat.min ns nd) s with
    | none => rw [hsc] at h; simp [Zk5] at h
    | some xs =>
     rw [hsc] at h;simp only [Zk5] at h;cases hp : putCells H b off xs with
     | none => rw [hp] at h; cases h
     | some H1 =>
      rw [hp] at h;simp only [Option.some.injEq, Prod.mk.injEq] at h;obtain ⟨rfl, rfl⟩ := h;obtain ⟨ys, hys, hlen, hrun⟩ := Zd6 (P := P) w hvs hsc ⟨ns, hln, Nat.min_le_left _ _⟩ hH;obtain ⟨x', w', hx', hst, hHR, hT, hnx⟩ := ZbM (P := P) hH hp hys;rw [hx0] at hx'; cases hx';have hl := Zge (P := P) hvs hln;refine ⟨.int .i64 (Nat.min ns nd : Nat), w', ?_, rfl, hHR, hT, hnx⟩;simp only [Builtin.copy_, h0, List.getElem?_toArray, List.getElem?_cons_zero, List.getElem?_cons_succ, Sem.run_bind, run_underlying hut, Result.andThen_ok, hl, Zae w hke, hrun w rfl, hst];rfl
   ·cases h
  ·cases h
 ·cases h
include ok hH in
theorem Zkc {ev : Operand → Option AV} {ρ : Operand → Value} (hev : Ze9 e ev ρ) {args : Array Operand} {ts : Array TypeId} {v : AV} {H' : AHeap}
 (h : Zk8 X H (ty0 X ts 0) (ZbF ev args.toList) = some (v, H')) (ty : TypeId) :
 ∃ y w', (Builtin.clear_ ts ty (args.map ρ)).run P w = .ok y w' ∧ cv e v = some y ∧ HR NG e L H'.objs.get nx w' ∧ Tran e H.objs.get nx w e H'.objs.get nx w' ∧ H'.next = H.next := by
 unfold Zk8 at h
 split at h
 ·rename_i ti d ht ha;obtain ⟨vd, hvd, hargs⟩ := ZeJ hev ha;have ht0 : ∃ t, ts[0]? = some t ∧ X.tys.get t = some ti := by
   unfold ty0 at ht; cases h0 : ts[0]? with
   | none => rw [h0] at ht; cases ht
   | some t => rw [h0] at ht; exact ⟨t, rfl, ht⟩
  obtain ⟨t, h0, htt⟩ := ht0;have hkt := ok.tys t ti htt;rw [hargs];unfold Zk7 at h
  split at h
  ·rename_i el htk;have hut := Zay hkt htk;unfold Zk6 at h
   split at h
   ·rename_i ei hel;simp only [Option.some.injEq, Prod.mk.injEq] at h;obtain ⟨rfl, rfl⟩ := h;simp only [cv, Option.some.injEq] at hvd; subst hvd;refine ⟨.tuple #[], w, ?_, rfl, hH, Tran.refl _ _ _ _, rfl⟩;simp [Builtin.clear_, h0, run_underlying hut]
   ·rename_i ei b off n c hel;have hke := ok.tys el ei hel;obtain ⟨x0, hx0, rfl⟩ := Zbk hvd;cases hp : putCells H b off (zeros ei.zero n) with
    | none => rw [hp] at h; cases h
    | some H1 =>
     rw [hp] at h;simp only [Option.some.injEq, Prod.mk.injEq] at h;obtain ⟨rfl, rfl⟩ := h;obtain ⟨z, hz, hzc, _⟩ := ZaT w hke e;have hzl : z.cells.size = ei.size := by have := Zal hzc; simp at this; rw [this, hke.len]
     have hzeros := Zdl hzc n;rw [hzl] at hzeros;obtain ⟨x', w', hx', hst, hHR, hT, hnx⟩ := ZbM (P := P) hH hp hzeros;rw [hx0] at hx'; cases hx';refine ⟨.tuple #[], w', ?_, rfl, hHR, hT, hnx⟩;cases n with
     | zero =>
      have : w' = w := by
       have h0' : (Array.map (fun i => z.cells[i % ei.size]!) (Array.range (0 * ei.size))).toList = [] := by simp
       rw [h0'] at hst;simp [storeCells] at hst; exact hst.symm
      subst this;simp [Builtin.clear_, h0, run_underlying hut]
     | succ n =>
      simp only [Builtin.clear_, h0, List.getElem?_toArray, List.getElem?_cons_zero, Sem.run_bind, run_underlying hut, Result.andThen_ok, hz, Zd7 hzl, hst, Sem.run_pure]
   ·cases h
  ·cases h
 ·cases h
include ok hH in
theorem ZlJ {it : AV} {vi : Value} (hi : cv e it = some vi) {v : AV} {H' : AHeap} (h : ZmQ H (some it) = some (v, H')) (ty : TypeId) :
 ∃ y w', (Instr.next vi true ty).run P w = .ok y w' ∧ cv e v = some y ∧ HR NG e L H'.objs.get nx w' ∧ Tran e H.objs.get nx w e H'.objs.get nx w' ∧ H'.next = H.next := by
 unfold ZmQ at h
 split at h
 ·rename_i r heq;simp only [Option.some.injEq] at heq; subst heq;obtain ⟨x, hx, rfl⟩ := Zbz hi;unfold Zob at h
  split at h
  ·rename_i s pos hob;obtain ⟨x', hx', hO⟩ := hH.live r _ hob;rw [hx] at hx'; cases hx';simp only [Zdx] at hO;have hget : (getObj x.1).run P w = .ok (.stringIter (bytesOf s) pos) w := by simp [getObj, Sem.run, hO]
   cases hs : s[pos]? with
   | none =>
    rw [hs] at h;simp only [Zk4, Option.some.injEq, Prod.mk.injEq] at h;obtain ⟨rfl, rfl⟩ := h;have hge : ¬ pos < (bytesOf s).size := by rw [Zai]; have := List.getElem?_eq_none_iff.1 hs; omega
    refine ⟨.tuple #[.bool false], w, ?_, rfl, hH, Tran.refl _ _ _ _, rfl⟩;simp only [Instr.next, Sem.run_bind, hget, Result.andThen_ok, if_neg hge, Sem.run_pure]
   | some c =>
    rw [hs] at h;simp only [Zk4, Zaw] at h;cases hb : Nat.blt c 128 with
    | false => rw [hb] at h; cases h
    | true =>
     rw [hb] at h; simp only [cond_true, Option.some.injEq, Prod.mk.injEq] at h;obtain ⟨rfl, rfl⟩ := h;have hc := ZaF hb;have hlt : pos < (bytesOf s).size := by rw [Zai]; exact (List.getElem?_eq_some_iff.1 hs).1
     have hbyte : ((bytesOf s)[pos]'hlt).toNat = c := by
      show ((bytesOf s).data[pos]).toNat = c;simp only [bytesOf, List.getElem_toArray, List.getElem_map];have : s[pos]'(by rw [Zai] at hlt; exact hlt) = c := (List.getElem?_eq_some_iff.1 hs).2
      rw [this]; simp; omega
     have hdec := decode_ascii (bytesOf s) pos hlt (by rw [hbyte]; exact hc)
     rw [hbyte] at hdec;have hset : (setObj x.1 (.stringIter (bytesOf s) (pos + 1))).run P w = .ok () { w with heap := w.heap.setIfInBounds x.1 (.stringIter (bytesOf s) (pos + 1)) } := by simp [setObj, Sem.run, hO]
     have hxlt : x.1 < w.heap.size := (hH.live r _ hob).elim fun y hy => by
      have := hy.1; rw [hx] at this; cases this; exact hy.2.lt
     refine ⟨.tuple #[.bool true, goInt pos, .int .i32 c], { w with heap := w.heap.setIfInBounds x.1 (.stringIter (bytesOf s) (pos + 1)) }, ?_, rfl, ?_, ?_, rfl⟩
     ·simp only [Instr.next, Sem.run_bind, hget, Result.andThen_ok, if_pos hlt, hdec, hset, Sem.run_pure]
     ·show HR NG e L (H.objs.set r _).get nx _;rw [Zad];exact hH.upd hob hx (fun B hB => by simp only; rw [Array.getElem?_setIfInBounds_ne (fun h => hB h.symm)]) (by simp [Zdx, hxlt])
     ·show Tran e H.objs.get nx w e (H.objs.set r _).get nx _;rw [Zad];exact Tran.upd hob hx rfl rfl (fun B hB => by simp only; rw [Array.getElem?_setIfInBounds_ne (fun h => hB h.symm)]) (by simp) rfl rfl rfl
  ·cases h
 ·cases h
include ok hH in
theorem Zo4 {ev : Operand → Option AV} {ρ : Operand → Value} (hev : Ze9 e ev ρ) (o : Oper) {nid n0 : Nat} {v : AV} {H' : AHeap} (h : wop X ev nid H o.op = some (v, H')) (hn : e.f nid = none) (hlt : nid < nx) (hn0 : n0 ≤ nid) :
 ∃ e' y nxt w', (execOp ρ o).run P w = .ok nxt w' ∧ Zos nxt y ∧ cv e' v = some y ∧ HR NG e' L H'.objs.get nx w' ∧ Tran e H.objs.get n0 w e' H'.objs.get nx w' ∧ H'.next = H.next := by
 unfold wop at h
 split at h
 ·rename_i t a x ho;unfold Zoa at h
  split at h
  ·rename_i b off v' ha hx;cases hs : ZiN X H t b off v' with
   | none => rw [hs] at h; cases h
   | some H1 =>
    rw [hs] at h;simp only [Option.some.injEq, Prod.mk.injEq] at h;obtain ⟨rfl, rfl⟩ := h;obtain ⟨x0, hx0, hρa⟩ := Zbz (hev _ _ ha);obtain ⟨w', hr, h1, h2, h3⟩ := Zkb (P := P) ok w hH (hev _ _ hx) hs hx0;refine ⟨e, Go.undef, .skip, w', ?_, .inr ⟨rfl, rfl⟩, rfl, h1, h2.lower (by omega), h3⟩
    simp only [execOp, ho, hρa, Instr.storeAt, Instr.sureAddr, Sem.run_bind, Sem.run_pure, Result.andThen_ok, hr]
  ·cases h
 ·rename_i it ho;cases hi : ev it with
  | none => rw [hi] at h; simp [ZmQ] at h
  | some vi =>
   rw [hi] at h;obtain ⟨y, w', hr, hy, h1, h2, h3⟩ := ZlJ (P := P) ok w hH (hev _ _ hi) h o.type;refine ⟨e, y, .value y, w', ?_, .inl rfl, hy, h1, h2.lower (by omega), h3⟩
   simp only [execOp, ho, Sem.run_bind, hr]; rfl
 ·rename_i c ho;obtain ⟨callee, args, ts⟩ := c;simp only at h;cases callee with
  | builtin b =>
   simp only [ZoN] at h;have key : ∀ {s : Sem Value} {y : Value} {w' : World}, (∀ cs, builtin b ts o.type cs (args.map ρ) = do pure (Next.value (← s))) → s.run P w = .ok y w' → (execOp ρ o).run P w = .ok (.value y) w' := by
    intro s y w' hs hr;simp only [execOp, ho, resolve, Sem.run_bind, Sem.run_pure, Result.andThen_ok, invoke];rw [hs _, Sem.run_bind, hr]; rfl
   unfold ZiU at h
   split at h
   ·obtain ⟨e', y, w', hr, hy, h1, h2, h3⟩ := Zic ok w hH hev h hn hlt hn0 o.type;exact ⟨e', y, _, w', key (fun _ => rfl) hr, .inl rfl, hy, h1, h2, h3⟩
   ·obtain ⟨y, w', hr, hy, h1, h2, h3⟩ := ZlI ok w hH hev h o.type;exact ⟨e, y, _, w', key (fun _ => rfl) hr, .inl rfl, hy, h1, h2.lower (by omega), h3⟩
   ·obtain ⟨y, w', hr, hy, h1, h2, h3⟩ := Zkc ok w hH hev h o.type;exact ⟨e, y, _, w', key (fun _ => rfl) hr, .inl rfl, hy, h1, h2.lower (by omega), h3⟩
   ·cases h
  | _ => simp [ZoN] at h
 ·cases h
include hH in
theorem ZeM {b : Nat} {x : Nat × Nat} {el : TypeId} {lo es : Nat} {hi : Option Nat} {cells : Tr AV} (hob : H.objs.get b = some (.blk el false (.opn lo hi es) cells)) (hx : e.f b = some x)
 {lo' : Nat} {hi' : Option Nat} (h1 : lo' ≤ x.2) (h2 : ∀ h, hi' = some h → x.2 < h) :
 HR NG e L (H.set b (some (.blk el false (.opn lo' hi' es) cells))).objs.get nx w ∧ Tran e H.objs.get nx w e (H.set b (some (.blk el false (.opn lo' hi' es) cells))).objs.get nx w := by
 have hset : (H.set b (some (.blk el false (.opn lo' hi' es) cells))).objs.get = X.upd H.objs.get b (some (.blk el false (.opn lo' hi' es) cells)) := by
  show (H.objs.set b _).get = _; rw [Zad]
 rw [hset];obtain ⟨x', hx', c, fz, b1, b2, ⟨b3, b4, b5⟩, b6⟩ := hH.live b _ hob;rw [hx] at hx'; cases hx';refine ⟨hH.upd hob hx (fun _ _ => rfl) ⟨c, fz, b1, b2, ⟨b3, h1, h2⟩, b6⟩, ?_⟩
 refine ⟨Env.le_refl e, fun _ _ => rfl, Nat.le_refl _, Nat.le_refl _, fun _ _ _ => rfl, ?_, ?_, rfl, rfl, rfl⟩
 ·rintro B ⟨d, p, y, hd, hp, hy, hB⟩ _
  by_cases e1 : d = b
  ·subst e1; rw [upd_same] at hd; cases hd; exact ⟨d, _, y, hob, hp, hy, hB⟩
  ·rw [upd_ne _ _ e1] at hd; exact ⟨d, p, y, hd, hp, hy, hB⟩
 ·intro d p hd hp
  by_cases e1 : d = b
  ·subst e1; rw [upd_same] at hd; cases hd; cases hp
  ·rw [upd_ne _ _ e1] at hd; exact ⟨p, hd, hp⟩
include ok hH in
theorem Zkd {ev : Operand → Option AV} {ρ : Operand → Value} (hev : Ze9 e ev ρ) (o : Oper) {outs : List (AV × AHeap)} (h : ZiX X ev H o.op = some outs) :
 ∃ v H', (v, H') ∈ outs ∧ ∃ y, (execOp ρ o).run P w = .ok (.value y) w ∧ cv e v = some y ∧ HR NG e L H'.objs.get nx w ∧ Tran e H.objs.get nx w e H'.objs.get nx w ∧ H'.next = H.next := by
 unfold ZiX at h
 split at h
 ·rename_i t x y yt ho;unfold Zqc at h
  split at h
  ·rename_i n b k hx hy;have hρx := Za8 (hev _ _ hx);have hcy := hev _ _ hy;simp only [cv] at hcy;cases hb : e.f b with
   | none => rw [hb] at hcy; cases hcy
   | some x0 =>
    rw [hb] at hcy;simp only [Option.some.injEq] at hcy;unfold Zqb at h
    split at h
    ·rename_i el lo hi es cells hob;simp only [Zaw] at h;cases hkl : Nat.ble k lo with
     | false => rw [hkl] at h; cases h
     | true =>
     rw [hkl] at h;simp only [cond_true, Option.some.injEq] at h; subst h;have hkle := Zak hkl;have hrun : (execOp ρ o).run P w = .ok (.value (.bool (decide ((n : Int) > ((x0.2 - k : Nat) : Int))))) w := by
      simp only [execOp, ho, hρx, ← hcy];refine ZaW w ?_;rw [Sem.run_bind, Zbl w (by simp) (by simp), Result.andThen_ok]
      simp [binOp, Op.intCmp]
     obtain ⟨x', hx', c, fz, b1, b2, ⟨b3, b4, b5⟩, b6⟩ := hH.live b _ hob;rw [hb] at hx'; cases hx'
     by_cases hgt : (n : Int) > ((x0.2 - k : Nat) : Int)
     ·by_cases hk0 : x0.2 < n + k
      ·have hs := ZeM w hH hob hb (lo' := lo) (hi' := some (n + k)) b4 (fun h hh => by cases hh; exact hk0)
       exact ⟨_, _, List.mem_cons_self .., _, hrun, by rw [decide_eq_true hgt]; rfl, hs.1, hs.2, rfl⟩
      ·omega
     ·have hs := ZeM w hH hob hb (lo' := Nat.max lo (n + k)) (hi' := hi) (by
       apply Nat.max_le.2;refine ⟨b4, ?_⟩
       omega) b5
      exact ⟨_, _, List.mem_cons_of_mem _ (List.mem_cons_self ..), _, hrun, by rw [decide_eq_false hgt]; rfl, hs.1, hs.2, rfl⟩
    ·cases h
  ·cases h
 ·rename_i t x lo ho;unfold Zk9 at h
  split at h
  ·rename_i ti v l ht hx hl;unfold ZiW at h
   split at h
   ·rename_i el b off len k htk;cases hel : X.tys.get el with
    | none => rw [hel] at h; simp [ZfX] at h
    | some ei =>
     rw [hel] at h;simp only [ZfX, Zaw] at h;cases hb1 : Nat.beq (l.getD 0) len with
     | false => rw [hb1] at h; cases h
     | true =>
      rw [hb1] at h; simp only [cond_true] at h;have hlen := Zab hb1;unfold ZiV at h
      split at h
      ·rename_i el' low es' cells hob;simp only [Zaw] at h;cases hb2 : Nat.beq (k + l.getD 0) low with
       | false => rw [hb2] at h; cases h
       | true =>
        rw [hb2] at h; simp only [cond_true, Option.some.injEq] at h; subst h;have hlow := Zab hb2;obtain ⟨x0, hx0, hρ⟩ := Zbk (hev _ _ hx);have hu := Zay (ok.tys t ti ht) htk;have hsz := Zae w (ok.tys el ei hel);obtain ⟨x', hx', c, fz, b1, b2, ⟨b3, b4, b5⟩, b6⟩ := hH.live b _ hob;rw [hx0] at hx'; cases hx';have hbd := Zar (P := P) w hev hl (hi := none) (h := none) rfl (mx := none) (m := none) rfl true len (x0.2 - k) (by simp) (by simp; omega) (by simp; omega) (by simp)
        simp only [Option.getD_none, Option.map_none] at hbd;have hrun : ∀ a : Nat, a = (if x0.2 - k = l.getD 0 then off else off + l.getD 0 * ei.size) → (execOp ρ o).run P w = .ok (.value (.slice (some ⟨x0.1, a, none⟩) (len - l.getD 0) (x0.2 - k - l.getD 0))) w := by
         intro a ha;simp only [execOp, ho, hρ];refine ZaW w ?_;simp only [Instr.sliceAt, Sem.run_bind, run_underlying hu, Result.andThen_ok, Instr.slice, Cap.val, Option.map_none, hbd, hsz, Sem.run_pure, Option.map_some, ZaE];rw [ha]
         congr 3
         split <;> rfl
        by_cases heq : x0.2 - k = l.getD 0
        ·have hs := ZeM w hH hob hx0 (lo' := low) (hi' := some (low + 1)) b4 (fun h hh => by cases hh; omega)
         refine ⟨_, _, List.mem_cons_of_mem _ (List.mem_cons_self ..), _, hrun off (by rw [if_pos heq]), ?_, hs.1, hs.2, rfl⟩
         simp only [cv, hx0, Cap.val]
         congr 2 <;> omega
        ·have hs := ZeM w hH hob hx0 (lo' := low + 1) (hi' := none) (by omega) (fun h hh => by cases hh)
         refine ⟨_, _, List.mem_cons_self .., _, hrun (off + l.getD 0 * ei.size) (by rw [if_neg heq]), ?_, hs.1, hs.2, rfl⟩
         simp only [cv, hx0, Cap.val]
         congr 2 <;> omega
      ·cases h
   ·cases h
  ·cases h
 ·cases h
end
end
end Go.X
