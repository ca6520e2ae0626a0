/- The operations that write memory, together; the operations that fork. -/
import Derived.Test.YtdhcjepgihfplaaGreatDoorDxL
import Derived.Laws.RangeString
namespace Go.X
noncomputable section
set_option linter.unusedSectionVars false

def NextIs (n : Next) (y : Value) : Prop := n = .value y ∨ (n = .skip ∧ y = Go.undef)

section
variable {P : Program} {X : XP} (ok : XPok P X) (w : World) {e : Env} {L : Loops} {H : AHeap} {nx : Nat} {NG : GP} (hH : HR NG e L H.objs.get nx w)

theorem evals_two {ev : Operand → Option AV} {ρ : Operand → Value} (hev : EvOk e ev ρ) {args : Array Operand} {a b : AV} (h : evals ev args.toList = some [a, b]) : ∃ x y, cv e a = some x ∧ cv e b = some y ∧ args.map ρ = #[x, y] := by
  have := evals_cvs hev h
  obtain ⟨x, z, hx, hz, he⟩ := cvs_cons this
  obtain ⟨y, z', hy, hz', rfl⟩ := cvs_cons hz
  simp only [cvs, Option.some.injEq] at hz'; subst hz'
  refine ⟨x, y, hx, hy, ?_⟩
  apply Array.ext'
  simpa using he

include ok hH in
theorem storeV_run {t b off : Nat} {v : AV} {y : Value} (hv : cv e v = some y) {H' : AHeap} (h : storeV X H t b off v = some H') {x : Nat × Nat} (hx : e.f b = some x) :
    ∃ w', (storeVar t ⟨x.1, off, none⟩ y).run P w = .ok () w' ∧ HR NG e L H'.objs.get nx w' ∧ Tran e H.objs.get nx w e H'.objs.get nx w' ∧ H'.next = H.next := by
  unfold storeV at h
  cases ht : X.tys.get t with
  | none => rw [ht] at h; cases h
  | some ti =>
    rw [ht] at h
    simp only [brec] at h
    cases hb : Nat.beq v.cells.length ti.size with
    | false => rw [hb] at h; cases h
    | true =>
      rw [hb] at h; simp only [cond_true] at h
      have hlen := nbeq_of hb
      have hns : ∀ i, v ≠ .sym i := by
        intro i hi; subst hi
        unfold putCells at h
        split at h
        · simp [AV.cells, AV.isCell] at h
        · cases h
      have hc := cv_cells hv hns
      obtain ⟨x', w', hx', hrun, h1, h2, h3⟩ := putCells_run (P := P) hH h hc
      rw [hx] at hx'; cases hx'
      refine ⟨w', ?_, h1, h2, h3⟩
      have hsz : y.cells.size = ti.size := by have := cvs_length hc; simp at this; omega
      simp [storeVar, run_sizeOf' w (ok.tys t ti ht), hsz, hrun]

/-- what a slice or string has, as append and copy take it -/
theorem srcCells_run {es n : Nat} {x : AV} {vx : Value} (hx : cv e x = some vx) {xs : List AV} (h : srcCells H es n x = some xs) (hl : ∃ m, lenA x = some m ∧ n ≤ m) (hH : HR NG e L H.objs.get nx w) :
    ∃ ys, cvs e xs = some ys ∧ ys.length = n * es ∧ ∀ W : World, W.heap = w.heap → (Builtin.firstCells es n vx).run P W = .ok ys.toArray W := by
  obtain ⟨m, hm, hnm⟩ := hl
  unfold srcCells at h
  split at h
  · simp only [brec] at h
    cases hb : Nat.beq n 0 with
    | false => rw [hb] at h; cases h
    | true =>
      rw [hb] at h; simp only [cond_true, Option.some.injEq] at h; subst h
      have := nbeq_of hb; subst this
      simp only [cv, Option.some.injEq] at hx; subst hx
      exact ⟨[], rfl, by simp, fun W _ => by simp [Builtin.firstCells]⟩
  · rename_i b off len c
    obtain ⟨x0, hx0, rfl⟩ := cv_sl hx
    obtain ⟨x', os, hx', hos, hol, hcell⟩ := getCells_cv hH h
    rw [hx0] at hx'; cases hx'
    refine ⟨os, hos, hol, fun W hW => ?_⟩
    have hr := run_loadCells_list (P := P) W ⟨x0.1, off, none⟩ os (fun j u hj => by
      rw [add_none]
      have := hcell j u hj
      simp only [World.cell?] at this ⊢
      rw [hW]; exact this)
    rw [hol] at hr
    simp only [Builtin.firstCells, hr]
  · rename_i s
    obtain ⟨hs, rfl⟩ := cv_str hx
    simp only [lenA, Option.some.injEq] at hm; subst hm
    simp only [brec] at h
    cases hb1 : Nat.beq es 1 with
    | false => rw [hb1] at h; cases h
    | true =>
    have h1 := nbeq_of hb1
    subst h1
    rw [hb1] at h
    simp only [cond_true, Option.some.injEq] at h; subst h
    refine ⟨(s.take n).map (fun (b : Nat) => Value.int .u8 (b : Int)), ?_, by simp; omega, fun W _ => ?_⟩
    · have key : ∀ l : List Nat, cvs e (l.map fun b => AV.int .u8 (.ofNat b)) = some (l.map fun (b : Nat) => Value.int .u8 (b : Int)) := by
        intro l
        induction l with
        | nil => rfl
        | cons b l ih => exact cvs_mk rfl ih
      exact key _
    · simp only [Builtin.firstCells, Sem.run_pure]
      congr 1
      apply Array.ext'
      simp only [bytesOf, ByteArray.data_extract, Array.toList_map, Array.toList_extract]
      simp only [List.extract_eq_take_drop, List.drop_zero, Nat.sub_zero, List.map_take, List.map_map]
      congr 1
      apply List.map_congr_left
      intro b hb
      have := hs b hb
      simp; omega
  · cases h

theorem lenA_run {x : AV} {vx : Value} (hx : cv e x = some vx) {n : Nat} (h : lenA x = some n) : ∀ W : World, (Builtin.lenOf vx).run P W = .ok n W := by
  intro W
  unfold lenA at h
  split at h
  · simp only [cv, Option.some.injEq] at hx; subst hx; simp only [Option.some.injEq] at h; subst h; rfl
  · obtain ⟨x0, _, rfl⟩ := cv_sl hx; simp only [Option.some.injEq] at h; subst h; rfl
  · obtain ⟨_, rfl⟩ := cv_str hx; simp only [Option.some.injEq] at h; subst h; simp [Builtin.lenOf, bytesOf_size]
  · cases h

theorem tk_src {t : TypeId} {ti : TyI} (ht : TyOk P t ti) (hk : (∃ e', ti.k = .slice e') ∨ ti.k = .str) : ∃ d, P.underlying t = some d ∧ ((∃ e', d = .slice e') ∨ d = .string) := by
  rcases hk with ⟨e', h⟩ | h
  · exact ⟨_, tk_slice ht h, .inl ⟨e', rfl⟩⟩
  · exact ⟨_, tk_str ht h, .inr rfl⟩

theorem zeroCells_eq {z : Value} {n size : Nat} (hz : z.cells.size = size) : Builtin.zeroCells z.cells n = (Array.range (n * size)).map (fun i => z.cells[i % size]!) := by
  simp only [Builtin.zeroCells, hz]

include ok hH in
theorem wAppend_run {ev : Operand → Option AV} {ρ : Operand → Value} (hev : EvOk e ev ρ) {args : Array Operand} {ts : Array TypeId} {nid n0 : Nat} {v : AV} {H' : AHeap}
    (h : wAppend X H nid (ty0 X ts 0) (ty0 X ts 1) (evals ev args.toList) = some (v, H')) (hn : e.f nid = none) (hlt : nid < nx) (hn0 : n0 ≤ nid) (ty : TypeId) :
    ∃ e' y w', (Builtin.append_ ts ty (args.map ρ)).run P w = .ok y w' ∧ cv e' v = some y ∧ HR NG e' L H'.objs.get nx w' ∧ Tran e H.objs.get n0 w e' H'.objs.get nx w' ∧ H'.next = H.next := by
  unfold wAppend at h
  split at h
  · rename_i ti ui s x ht hu' ha
    obtain ⟨vs, vx, hvs, hvx, hargs⟩ := evals_two hev ha
    have ht0 : ∃ t, ts[0]? = some t ∧ X.tys.get t = some ti := by
      unfold ty0 at ht; cases h0 : ts[0]? with
      | none => rw [h0] at ht; cases ht
      | some t => rw [h0] at ht; exact ⟨t, rfl, ht⟩
    have ht1 : ∃ t, ts[1]? = some t ∧ X.tys.get t = some ui := by
      unfold ty0 at hu'; cases h0 : ts[1]? with
      | none => rw [h0] at hu'; cases hu'
      | some t => rw [h0] at hu'; exact ⟨t, rfl, hu'⟩
    obtain ⟨t, h0, htt⟩ := ht0
    obtain ⟨u, h1, huu⟩ := ht1
    have hkt := ok.tys t ti htt
    have hku := ok.tys u ui huu
    rw [hargs]
    unfold wAppend2 at h
    split at h
    · rename_i el htk
      have hut := tk_slice hkt htk
      cases hel : X.tys.get el with
      | none => rw [hel] at h; simp [wAppend3] at h
      | some ei =>
        rw [hel] at h
        have hke := ok.tys el ei hel
        have viaCells : (∃ e', ui.k = .slice e') ∨ ui.k = .str → wAppendSrc H nid el ei s x (lenA x) = some (v, H') →
            ∃ e' y w', (Builtin.append_ ts ty #[vs, vx]).run P w = .ok y w' ∧ cv e' v = some y ∧ HR NG e' L H'.objs.get nx w' ∧ Tran e H.objs.get n0 w e' H'.objs.get nx w' ∧ H'.next = H.next := by
          intro hkk hh
          obtain ⟨d, hd, hdd⟩ := tk_src hku hkk
          unfold wAppendSrc at hh
          split at hh
          · rename_i n hln
            cases hsc : srcCells H ei.size n x with
            | none => rw [hsc] at hh; simp [wAppendCells] at hh
            | some xs =>
              rw [hsc] at hh
              simp only [wAppendCells, brec] at hh
              cases hok : apOk ei n (lenA s) with
              | false => rw [hok] at hh; cases hh
              | true =>
                rw [hok] at hh; simp only [cond_true] at hh
                obtain ⟨ys, hys, hlen, hrun⟩ := srcCells_run (P := P) w hvx hsc ⟨n, hln, Nat.le_refl _⟩ hH
                exact appendA_run ok w hH h0 hut hel hys hlen (Src.cells u d h1 hd hdd (lenA_run hvx hln) hrun) hvs hok hh hn hlt hn0
          · cases hh
        unfold wAppend3 at h
        split at h
        · rename_i ei' k heq hk'
          simp only [Option.some.injEq] at heq; subst heq
          unfold wAppendZeros at h
          split at h
          · rename_i k' n
            simp only [brec] at h
            cases hok : apOk ei n (lenA s) with
            | false => rw [hok] at h; cases h
            | true =>
              rw [hok] at h; simp only [cond_true] at h
              have hbd : n < 1048576 ∧ ei.bytes ≤ 1048576 := by
                unfold apOk at hok
                split at hok
                · simp only [Bool.and_eq_true] at hok
                  exact ⟨by have := nblt_of hok.1.1; omega, nble_of hok.1.2⟩
                · cases hok
              obtain ⟨inf, hinf, hs1, hs2, z, hz, hzc⟩ := hke.info
              have hzcv := (ofConsts_cvs e hzc).1
              have hzl : z.cells.size = ei.size := by have := cvs_length hzcv; simp at this; rw [this, hke.len]
              have hzeros := zeros_cvs hzcv n
              rw [hzl] at hzeros
              refine appendA_run ok w hH h0 hut hel hzeros (by simp) (Src.zeros u k k' h1 (tk_int hku hk') (cv_int hvx) hbd.1 z (fun W => by simp [zeroValue, run_typeInfo' W hinf, hz]) inf (fun W => run_typeInfo' W hinf) (by rw [hs2]; exact hbd.2) ?_ ?_) hvs hok h hn hlt hn0
              · intro h00; rw [h00]; simp
              · intro _; rw [zeroCells_eq hzl]
          · cases h
        · rename_i ei' e' heq hk'
          simp only [Option.some.injEq] at heq; subst heq
          exact viaCells (.inl ⟨_, hk'⟩) h
        · rename_i ei' heq hk'
          simp only [Option.some.injEq] at heq; subst heq
          exact viaCells (.inr hk') h
        · cases h
    · cases h
  · cases h

end
end
end Go.X
