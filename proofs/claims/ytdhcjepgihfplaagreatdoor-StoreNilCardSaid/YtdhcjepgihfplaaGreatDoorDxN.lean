/- The operations that write memory, together; the operations that fork. -/
import Derived.Test.YtdhcjepgihfplaaGreatDoorDxM
namespace Go.X
noncomputable section
set_option linter.unusedSectionVars false

section
variable {P : Program} {X : XP} (ok : XPok P X) (w : World) {e : Env} {L : Loops} {H : AHeap} {nx : Nat} {NG : GP} (hH : HR NG e L H.objs.get nx w)

theorem Tran.lower {e e' : Env} {G G' : Nat → Option AObj} {n0 n n' : Nat} {w w' : World} (h : Tran e G n w e' G' n' w') (h0 : n0 ≤ n) : Tran e G n0 w e' G' n' w' :=
  { h with old := fun b hb => h.old b (by omega), nx := Nat.le_trans h0 h.nx }

include ok hH in
theorem wCopy_run {ev : Operand → Option AV} {ρ : Operand → Value} (hev : EvOk e ev ρ) {args : Array Operand} {ts : Array TypeId} {v : AV} {H' : AHeap}
    (h : wCopy X H (ty0 X ts 0) (evals ev args.toList) = some (v, H')) (ty : TypeId) :
    ∃ y w', (Builtin.copy_ ts ty (args.map ρ)).run P w = .ok y w' ∧ cv e v = some y ∧ HR NG e L H'.objs.get nx w' ∧ Tran e H.objs.get nx w e H'.objs.get nx w' ∧ H'.next = H.next := by
  unfold wCopy at h
  split at h
  · rename_i ti d s ht ha
    obtain ⟨vd, vs, hvd, hvs, hargs⟩ := evals_two hev ha
    have ht0 : ∃ t, ts[0]? = some t ∧ X.tys.get t = some ti := by
      unfold ty0 at ht; cases h0 : ts[0]? with
      | none => rw [h0] at ht; cases ht
      | some t => rw [h0] at ht; exact ⟨t, rfl, ht⟩
    obtain ⟨t, h0, htt⟩ := ht0
    have hkt := ok.tys t ti htt
    rw [hargs]
    unfold wCopy1 at h
    split at h
    · rename_i el htk
      have hut := tk_slice hkt htk
      unfold wCopy2 at h
      split at h
      · rename_i ei ns hel hln
        simp only [Option.some.injEq, Prod.mk.injEq] at h
        obtain ⟨rfl, rfl⟩ := h
        simp only [cv, Option.some.injEq] at hvd; subst hvd
        have hke := ok.tys el ei hel
        have hl := lenA_run (P := P) hvs hln
        have hf : (Builtin.firstCells ei.size 0 vs).run P w = .ok #[] w := by
          unfold lenA at hln
          split at hln
          · simp only [cv, Option.some.injEq] at hvs; subst hvs; rfl
          · obtain ⟨x0, _, rfl⟩ := cv_sl hvs; simp [Builtin.firstCells, loadCells, loadCellsFrom]
          · obtain ⟨_, rfl⟩ := cv_str hvs; simp [Builtin.firstCells]
          · cases hln
        refine ⟨.int .i64 0, w, ?_, rfl, hH, Tran.refl _ _ _ _, rfl⟩
        simp only [Builtin.copy_, h0, List.getElem?_toArray, List.getElem?_cons_zero, List.getElem?_cons_succ, Sem.run_bind, run_underlying hut, Result.andThen_ok, hl, run_sizeOf' w hke, Nat.min_zero]
        rw [hf]; rfl
      · rename_i ei ns b off nd c hel hln
        have hke := ok.tys el ei hel
        obtain ⟨x0, hx0, rfl⟩ := cv_sl hvd
        cases hsc : srcCells H ei.size (Nat.min ns nd) s with
        | none => rw [hsc] at h; simp [wCopy3] at h
        | some xs =>
          rw [hsc] at h
          simp only [wCopy3] at h
          cases hp : putCells H b off xs with
          | none => rw [hp] at h; cases h
          | some H1 =>
            rw [hp] at h
            simp only [Option.some.injEq, Prod.mk.injEq] at h
            obtain ⟨rfl, rfl⟩ := h
            obtain ⟨ys, hys, hlen, hrun⟩ := srcCells_run (P := P) w hvs hsc ⟨ns, hln, Nat.min_le_left _ _⟩ hH
            obtain ⟨x', w', hx', hst, hHR, hT, hnx⟩ := putCells_run (P := P) hH hp hys
            rw [hx0] at hx'; cases hx'
            have hl := lenA_run (P := P) hvs hln
            refine ⟨.int .i64 (Nat.min ns nd : Nat), w', ?_, rfl, hHR, hT, hnx⟩
            simp only [Builtin.copy_, h0, List.getElem?_toArray, List.getElem?_cons_zero, List.getElem?_cons_succ, Sem.run_bind, run_underlying hut, Result.andThen_ok, hl, run_sizeOf' w hke, hrun w rfl, hst]
            rfl
      · cases h
    · cases h
  · cases h

include ok hH in
theorem wClear_run {ev : Operand → Option AV} {ρ : Operand → Value} (hev : EvOk e ev ρ) {args : Array Operand} {ts : Array TypeId} {v : AV} {H' : AHeap}
    (h : wClear X H (ty0 X ts 0) (evals ev args.toList) = some (v, H')) (ty : TypeId) :
    ∃ y w', (Builtin.clear_ ts ty (args.map ρ)).run P w = .ok y w' ∧ cv e v = some y ∧ HR NG e L H'.objs.get nx w' ∧ Tran e H.objs.get nx w e H'.objs.get nx w' ∧ H'.next = H.next := by
  unfold wClear at h
  split at h
  · rename_i ti d ht ha
    obtain ⟨vd, hvd, hargs⟩ := evals_one hev ha
    have ht0 : ∃ t, ts[0]? = some t ∧ X.tys.get t = some ti := by
      unfold ty0 at ht; cases h0 : ts[0]? with
      | none => rw [h0] at ht; cases ht
      | some t => rw [h0] at ht; exact ⟨t, rfl, ht⟩
    obtain ⟨t, h0, htt⟩ := ht0
    have hkt := ok.tys t ti htt
    rw [hargs]
    unfold wClear1 at h
    split at h
    · rename_i el htk
      have hut := tk_slice hkt htk
      unfold wClear2 at h
      split at h
      · rename_i ei hel
        simp only [Option.some.injEq, Prod.mk.injEq] at h
        obtain ⟨rfl, rfl⟩ := h
        simp only [cv, Option.some.injEq] at hvd; subst hvd
        refine ⟨.tuple #[], w, ?_, rfl, hH, Tran.refl _ _ _ _, rfl⟩
        simp [Builtin.clear_, h0, run_underlying hut]
      · rename_i ei b off n c hel
        have hke := ok.tys el ei hel
        obtain ⟨x0, hx0, rfl⟩ := cv_sl hvd
        cases hp : putCells H b off (zeros ei.zero n) with
        | none => rw [hp] at h; cases h
        | some H1 =>
          rw [hp] at h
          simp only [Option.some.injEq, Prod.mk.injEq] at h
          obtain ⟨rfl, rfl⟩ := h
          obtain ⟨z, hz, hzc, _⟩ := run_zeroValue' w hke e
          have hzl : z.cells.size = ei.size := by have := cvs_length hzc; simp at this; rw [this, hke.len]
          have hzeros := zeros_cvs hzc n
          rw [hzl] at hzeros
          obtain ⟨x', w', hx', hst, hHR, hT, hnx⟩ := putCells_run (P := P) hH hp hzeros
          rw [hx0] at hx'; cases hx'
          refine ⟨.tuple #[], w', ?_, rfl, hHR, hT, hnx⟩
          cases n with
          | zero =>
            have : w' = w := by
              have h0' : (Array.map (fun i => z.cells[i % ei.size]!) (Array.range (0 * ei.size))).toList = [] := by simp
              rw [h0'] at hst
              simp [storeCells] at hst; exact hst.symm
            subst this
            simp [Builtin.clear_, h0, run_underlying hut]
          | succ n =>
            simp only [Builtin.clear_, h0, List.getElem?_toArray, List.getElem?_cons_zero, Sem.run_bind, run_underlying hut, Result.andThen_ok, hz, zeroCells_eq hzl, hst, Sem.run_pure]
      · cases h
    · cases h
  · cases h

include ok hH in
theorem wNext_run {it : AV} {vi : Value} (hi : cv e it = some vi) {v : AV} {H' : AHeap} (h : wNext H (some it) = some (v, H')) (ty : TypeId) :
    ∃ y w', (Instr.next vi true ty).run P w = .ok y w' ∧ cv e v = some y ∧ HR NG e L H'.objs.get nx w' ∧ Tran e H.objs.get nx w e H'.objs.get nx w' ∧ H'.next = H.next := by
  unfold wNext at h
  split at h
  · rename_i r heq
    simp only [Option.some.injEq] at heq; subst heq
    obtain ⟨x, hx, rfl⟩ := cv_ptr hi
    unfold wNext2 at h
    split at h
    · rename_i s pos hob
      obtain ⟨x', hx', hO⟩ := hH.live r _ hob
      rw [hx] at hx'; cases hx'
      simp only [ObjR] at hO
      have hget : (getObj x.1).run P w = .ok (.stringIter (bytesOf s) pos) w := by simp [getObj, Sem.run, hO]
      cases hs : s[pos]? with
      | none =>
        rw [hs] at h
        simp only [wNext3, Option.some.injEq, Prod.mk.injEq] at h
        obtain ⟨rfl, rfl⟩ := h
        have hge : ¬ pos < (bytesOf s).size := by rw [bytesOf_size]; have := List.getElem?_eq_none_iff.1 hs; omega
        refine ⟨.tuple #[.bool false], w, ?_, rfl, hH, Tran.refl _ _ _ _, rfl⟩
        simp only [Instr.next, Sem.run_bind, hget, Result.andThen_ok, if_neg hge, Sem.run_pure]
      | some c =>
        rw [hs] at h
        simp only [wNext3, brec] at h
        cases hb : Nat.blt c 128 with
        | false => rw [hb] at h; cases h
        | true =>
          rw [hb] at h; simp only [cond_true, Option.some.injEq, Prod.mk.injEq] at h
          obtain ⟨rfl, rfl⟩ := h
          have hc := nblt_of hb
          have hlt : pos < (bytesOf s).size := by rw [bytesOf_size]; exact (List.getElem?_eq_some_iff.1 hs).1
          have hbyte : ((bytesOf s)[pos]'hlt).toNat = c := by
            show ((bytesOf s).data[pos]).toNat = c
            simp only [bytesOf, List.getElem_toArray, List.getElem_map]
            have : s[pos]'(by rw [bytesOf_size] at hlt; exact hlt) = c := (List.getElem?_eq_some_iff.1 hs).2
            rw [this]; simp; omega
          have hdec := decode_ascii (bytesOf s) pos hlt (by rw [hbyte]; exact hc)
          rw [hbyte] at hdec
          have hset : (setObj x.1 (.stringIter (bytesOf s) (pos + 1))).run P w = .ok () { w with heap := w.heap.setIfInBounds x.1 (.stringIter (bytesOf s) (pos + 1)) } := by simp [setObj, Sem.run, hO]
          have hxlt : x.1 < w.heap.size := (hH.live r _ hob).elim fun y hy => by
            have := hy.1; rw [hx] at this; cases this; exact hy.2.lt
          refine ⟨.tuple #[.bool true, goInt pos, .int .i32 c], { w with heap := w.heap.setIfInBounds x.1 (.stringIter (bytesOf s) (pos + 1)) }, ?_, rfl, ?_, ?_, rfl⟩
          · simp only [Instr.next, Sem.run_bind, hget, Result.andThen_ok, if_pos hlt, hdec, hset, Sem.run_pure]
          · show HR NG e L (H.objs.set r _).get nx _
            rw [get_set_upd]
            exact hH.upd hob hx (fun B hB => by simp only; rw [Array.getElem?_setIfInBounds_ne (fun h => hB h.symm)]) (by simp [ObjR, hxlt])
          · show Tran e H.objs.get nx w e (H.objs.set r _).get nx _
            rw [get_set_upd]
            exact Tran.upd hob hx rfl rfl (fun B hB => by simp only; rw [Array.getElem?_setIfInBounds_ne (fun h => hB h.symm)]) (by simp) rfl rfl rfl
    · cases h
  · cases h

include ok hH in
/-- an operation that writes memory -/
theorem wop_run {ev : Operand → Option AV} {ρ : Operand → Value} (hev : EvOk e ev ρ) (o : Oper) {nid n0 : Nat} {v : AV} {H' : AHeap} (h : wop X ev nid H o.op = some (v, H')) (hn : e.f nid = none) (hlt : nid < nx) (hn0 : n0 ≤ nid) :
    ∃ e' y nxt w', (execOp ρ o).run P w = .ok nxt w' ∧ NextIs nxt y ∧ cv e' v = some y ∧ HR NG e' L H'.objs.get nx w' ∧ Tran e H.objs.get n0 w e' H'.objs.get nx w' ∧ H'.next = H.next := by
  unfold wop at h
  split at h
  · rename_i t a x ho
    unfold wStore at h
    split at h
    · rename_i b off v' ha hx
      cases hs : storeV X H t b off v' with
      | none => rw [hs] at h; cases h
      | some H1 =>
        rw [hs] at h
        simp only [Option.some.injEq, Prod.mk.injEq] at h
        obtain ⟨rfl, rfl⟩ := h
        obtain ⟨x0, hx0, hρa⟩ := cv_ptr (hev _ _ ha)
        obtain ⟨w', hr, h1, h2, h3⟩ := storeV_run (P := P) ok w hH (hev _ _ hx) hs hx0
        refine ⟨e, Go.undef, .skip, w', ?_, .inr ⟨rfl, rfl⟩, rfl, h1, h2.lower (by omega), h3⟩
        simp only [execOp, ho, hρa, Instr.storeAt, Instr.sureAddr, Sem.run_bind, Sem.run_pure, Result.andThen_ok, hr]
    · cases h
  · rename_i it ho
    cases hi : ev it with
    | none => rw [hi] at h; simp [wNext] at h
    | some vi =>
      rw [hi] at h
      obtain ⟨y, w', hr, hy, h1, h2, h3⟩ := wNext_run (P := P) ok w hH (hev _ _ hi) h o.type
      refine ⟨e, y, .value y, w', ?_, .inl rfl, hy, h1, h2.lower (by omega), h3⟩
      simp only [execOp, ho, Sem.run_bind, hr]; rfl
  · rename_i c ho
    obtain ⟨callee, args, ts⟩ := c
    simp only at h
    cases callee with
    | builtin b =>
      simp only [wCall] at h
      have key : ∀ {s : Sem Value} {y : Value} {w' : World}, (∀ cs, builtin b ts o.type cs (args.map ρ) = do pure (Next.value (← s))) → s.run P w = .ok y w' → (execOp ρ o).run P w = .ok (.value y) w' := by
        intro s y w' hs hr
        simp only [execOp, ho, resolve, Sem.run_bind, Sem.run_pure, Result.andThen_ok, invoke]
        rw [hs _, Sem.run_bind, hr]; rfl
      unfold wBuiltin at h
      split at h
      · obtain ⟨e', y, w', hr, hy, h1, h2, h3⟩ := wAppend_run ok w hH hev h hn hlt hn0 o.type
        exact ⟨e', y, _, w', key (fun _ => rfl) hr, .inl rfl, hy, h1, h2, h3⟩
      · obtain ⟨y, w', hr, hy, h1, h2, h3⟩ := wCopy_run ok w hH hev h o.type
        exact ⟨e, y, _, w', key (fun _ => rfl) hr, .inl rfl, hy, h1, h2.lower (by omega), h3⟩
      · obtain ⟨y, w', hr, hy, h1, h2, h3⟩ := wClear_run ok w hH hev h o.type
        exact ⟨e, y, _, w', key (fun _ => rfl) hr, .inl rfl, hy, h1, h2.lower (by omega), h3⟩
      · cases h
    | _ => simp [wCall] at h
  · cases h

include hH in
/-- what is known of a block's size is made sharper -/
theorem sharpen {b : Nat} {x : Nat × Nat} {el : TypeId} {lo es : Nat} {hi : Option Nat} {cells : Tr AV} (hob : H.objs.get b = some (.blk el false (.opn lo hi es) cells)) (hx : e.f b = some x)
    {lo' : Nat} {hi' : Option Nat} (h1 : lo' ≤ x.2) (h2 : ∀ h, hi' = some h → x.2 < h) :
    HR NG e L (H.set b (some (.blk el false (.opn lo' hi' es) cells))).objs.get nx w ∧ Tran e H.objs.get nx w e (H.set b (some (.blk el false (.opn lo' hi' es) cells))).objs.get nx w := by
  have hset : (H.set b (some (.blk el false (.opn lo' hi' es) cells))).objs.get = X.upd H.objs.get b (some (.blk el false (.opn lo' hi' es) cells)) := by
    show (H.objs.set b _).get = _; rw [get_set_upd]
  rw [hset]
  obtain ⟨x', hx', c, fz, b1, b2, ⟨b3, b4, b5⟩, b6⟩ := hH.live b _ hob
  rw [hx] at hx'; cases hx'
  refine ⟨hH.upd hob hx (fun _ _ => rfl) ⟨c, fz, b1, b2, ⟨b3, h1, h2⟩, b6⟩, ?_⟩
  refine ⟨Env.le_refl e, fun _ _ => rfl, Nat.le_refl _, Nat.le_refl _, fun _ _ _ => rfl, ?_, ?_, rfl, rfl, rfl⟩
  · rintro B ⟨d, p, y, hd, hp, hy, hB⟩ _
    by_cases e1 : d = b
    · subst e1; rw [upd_same] at hd; cases hd; exact ⟨d, _, y, hob, hp, hy, hB⟩
    · rw [upd_ne _ _ e1] at hd; exact ⟨d, p, y, hd, hp, hy, hB⟩
  · intro d p hd hp
    by_cases e1 : d = b
    · subst e1; rw [upd_same] at hd; cases hd; cases hp
    · rw [upd_ne _ _ e1] at hd; exact ⟨p, hd, hp⟩

include ok hH in
/-- an operation that forks: one of the outcomes is what happens -/
theorem forkOp_run {ev : Operand → Option AV} {ρ : Operand → Value} (hev : EvOk e ev ρ) (o : Oper) {outs : List (AV × AHeap)} (h : forkOp X ev H o.op = some outs) :
    ∃ v H', (v, H') ∈ outs ∧ ∃ y, (execOp ρ o).run P w = .ok (.value y) w ∧ cv e v = some y ∧ HR NG e L H'.objs.get nx w ∧ Tran e H.objs.get nx w e H'.objs.get nx w ∧ H'.next = H.next := by
  unfold forkOp at h
  split at h
  · rename_i t x y yt ho
    unfold fkBin at h
    split at h
    · rename_i n b k hx hy
      have hρx := cv_int (hev _ _ hx)
      have hcy := hev _ _ hy
      simp only [cv] at hcy
      cases hb : e.f b with
      | none => rw [hb] at hcy; cases hcy
      | some x0 =>
        rw [hb] at hcy
        simp only [Option.some.injEq] at hcy
        unfold fkCmp at h
        split at h
        · rename_i el lo hi es cells hob
          simp only [brec] at h
          cases hkl : Nat.ble k lo with
          | false => rw [hkl] at h; cases h
          | true =>
          rw [hkl] at h
          simp only [cond_true, Option.some.injEq] at h; subst h
          have hkle := nble_of hkl
          have hrun : (execOp ρ o).run P w = .ok (.value (.bool (decide ((n : Int) > ((x0.2 - k : Nat) : Int))))) w := by
            simp only [execOp, ho, hρx, ← hcy]
            refine val_run w ?_
            rw [Sem.run_bind, eqGuard_plain w (by simp) (by simp), Result.andThen_ok]
            simp [binOp, Op.intCmp]
          obtain ⟨x', hx', c, fz, b1, b2, ⟨b3, b4, b5⟩, b6⟩ := hH.live b _ hob
          rw [hb] at hx'; cases hx'
          by_cases hgt : (n : Int) > ((x0.2 - k : Nat) : Int)
          · by_cases hk0 : x0.2 < n + k
            · have hs := sharpen w hH hob hb (lo' := lo) (hi' := some (n + k)) b4 (fun h hh => by cases hh; exact hk0)
              exact ⟨_, _, List.mem_cons_self .., _, hrun, by rw [decide_eq_true hgt]; rfl, hs.1, hs.2, rfl⟩
            · omega
          · have hs := sharpen w hH hob hb (lo' := Nat.max lo (n + k)) (hi' := hi) (by
              apply Nat.max_le.2
              refine ⟨b4, ?_⟩
              omega) b5
            exact ⟨_, _, List.mem_cons_of_mem _ (List.mem_cons_self ..), _, hrun, by rw [decide_eq_false hgt]; rfl, hs.1, hs.2, rfl⟩
        · cases h
    · cases h
  · rename_i t x lo ho
    unfold fkSlice at h
    split at h
    · rename_i ti v l ht hx hl
      unfold fkSlice1 at h
      split at h
      · rename_i el b off len k htk
        cases hel : X.tys.get el with
        | none => rw [hel] at h; simp [fkSlice2] at h
        | some ei =>
          rw [hel] at h
          simp only [fkSlice2, brec] at h
          cases hb1 : Nat.beq (l.getD 0) len with
          | false => rw [hb1] at h; cases h
          | true =>
            rw [hb1] at h; simp only [cond_true] at h
            have hlen := nbeq_of hb1
            unfold fkSlice3 at h
            split at h
            · rename_i el' low hi es' cells hob
              simp only [brec] at h
              cases hb2 : Nat.beq (k + l.getD 0) low with
              | false => rw [hb2] at h; cases h
              | true =>
                rw [hb2] at h; simp only [cond_true, Option.some.injEq] at h; subst h
                have hlow := nbeq_of hb2
                obtain ⟨x0, hx0, hρ⟩ := cv_sl (hev _ _ hx)
                have hu := tk_slice (ok.tys t ti ht) htk
                have hsz := run_sizeOf' w (ok.tys el ei hel)
                obtain ⟨x', hx', c, fz, b1, b2, ⟨b3, b4, b5⟩, b6⟩ := hH.live b _ hob
                rw [hx0] at hx'; cases hx'
                have hbd := sliceBounds_run (P := P) w hev hl (hi := none) (h := none) rfl (mx := none) (m := none) rfl true len (x0.2 - k) (by simp) (by simp; omega) (by simp; omega) (by simp)
                simp only [Option.getD_none, Option.map_none] at hbd
                have hrun : ∀ a : Nat, a = (if x0.2 - k = l.getD 0 then off else off + l.getD 0 * ei.size) → (execOp ρ o).run P w = .ok (.value (.slice (some ⟨x0.1, a, none⟩) (len - l.getD 0) (x0.2 - k - l.getD 0))) w := by
                  intro a ha
                  simp only [execOp, ho, hρ]
                  refine val_run w ?_
                  simp only [Instr.sliceAt, Sem.run_bind, run_underlying hu, Result.andThen_ok, Instr.slice, Cap.val, Option.map_none, hbd, hsz, Sem.run_pure, Option.map_some, add_none]
                  rw [ha]
                  congr 3
                  split <;> rfl
                by_cases heq : x0.2 - k = l.getD 0
                · have hs := sharpen w hH hob hx0 (lo' := low) (hi' := some (low + 1)) b4 (fun h hh => by cases hh; omega)
                  refine ⟨_, _, List.mem_cons_of_mem _ (List.mem_cons_self ..), _, hrun off (by rw [if_pos heq]), ?_, hs.1, hs.2, rfl⟩
                  simp only [cv, hx0, Cap.val]
                  congr 2 <;> omega
                · have hs := sharpen w hH hob hx0 (lo' := low + 1) (hi' := hi) (by omega) b5
                  refine ⟨_, _, List.mem_cons_self .., _, hrun (off + l.getD 0 * ei.size) (by rw [if_neg heq]), ?_, hs.1, hs.2, rfl⟩
                  simp only [cv, hx0, Cap.val]
                  congr 2 <;> omega
            · cases h
      · cases h
    · cases h
  · cases h
end
end
end Go.X
