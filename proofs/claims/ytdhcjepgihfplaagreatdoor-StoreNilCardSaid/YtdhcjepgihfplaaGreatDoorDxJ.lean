/- The operations that make a block. -/
import Derived.Test.YtdhcjepgihfplaaGreatDoorDxI
namespace Go.X
noncomputable section
set_option linter.unusedSectionVars false

theorem zeros_length (z : List AV) (n : Nat) : (zeros z n).length = n * z.length := by
  induction n with
  | zero => simp [zeros]
  | succ n ih => simp only [zeros, List.length_append, ih]; rw [Nat.add_mul]; omega

theorem zeros_get (z : List AV) : ∀ (n j : Nat), j < n * z.length → (zeros z n)[j]? = z[j % z.length]? := by
  intro n
  induction n with
  | zero => intro j h; simp at h
  | succ n ih =>
    intro j h
    simp only [zeros]
    by_cases hj : j < z.length
    · rw [List.getElem?_append_left hj, Nat.mod_eq_of_lt hj]
    · rw [List.getElem?_append_right (by omega), ih _ (by rw [Nat.add_mul] at h; omega)]
      congr 1
      rw [← Nat.mod_eq_sub_mod (by omega)]

theorem cvs_of_get {e : Env} : ∀ (l : List AV) (xs : List Value), l.length = xs.length → (∀ (i : Nat) (a : AV), l[i]? = some a → ∃ y, cv e a = some y ∧ xs[i]? = some y) → cvs e l = some xs := by
  intro l
  induction l with
  | nil => intro xs h _; cases xs with
    | nil => rfl
    | cons x xs => simp at h
  | cons a l ih =>
    intro xs h hh
    cases xs with
    | nil => simp at h
    | cons x xs =>
      obtain ⟨y, hy, hx⟩ := hh 0 a (by simp)
      simp at hx; subst hx
      exact cvs_mk hy (ih xs (by simpa using h) (fun i b hb => by have := hh (i + 1) b (by simpa using hb); simpa using this))

theorem zeros_cvs {e : Env} {z : List AV} {cs : Array Value} (h : cvs e z = some cs.toList) (n : Nat) :
    cvs e (zeros z n) = some ((Array.range (n * cs.size)).map (fun i => cs[i % cs.size]!)).toList := by
  have hl := cvs_length h
  simp only [Array.length_toList] at hl
  apply cvs_of_get
  · rw [zeros_length, ← hl]; simp
  · intro i a ha
    have hi : i < n * z.length := by rw [← zeros_length]; exact (List.getElem?_eq_some_iff.1 ha).1
    rw [zeros_get z n i hi] at ha
    obtain ⟨y, hy, hx⟩ := cvs_get h _ _ ha
    refine ⟨y, hy, ?_⟩
    have hpos : 0 < cs.size := by
      rw [hl]
      rcases Nat.eq_zero_or_pos z.length with h0 | h0
      · rw [h0] at hi; simp at hi
      · exact h0
    have hm : i % cs.size < cs.size := Nat.mod_lt _ hpos
    rw [← hl] at hx hi
    simp only [Array.getElem?_toList] at hx ⊢
    rw [Array.getElem?_map, Array.getElem?_range, if_pos hi]
    simp only [Option.map_some, Option.some.injEq]
    rw [getElem!_pos cs _ hm]
    rw [Array.getElem?_eq_getElem hm] at hx
    exact Option.some.inj hx

section
variable {P : Program} {X : XP} (ok : XPok P X) (w : World) {e : Env} {L : Loops}

theorem put_get {l : List AV} {xs : List Value} (h : cvs e l = some xs) : ∀ i v, (Tr.put .nil 0 l).get i = some v → ∃ y, cv e v = some y ∧ xs.toArray[i]? = some y := by
  intro i v hv
  rw [Tr.get_put] at hv
  split at hv
  · obtain ⟨y, hy, hx⟩ := cvs_get h _ _ hv
    exact ⟨y, hy, by simpa using hx⟩
  · simp at hv

/-- a new block of cells that are known -/
theorem objR_new {w' : World} {c : Array Value} {el : TypeId} {nid κ : Nat} {sz : Sz} {cells : Tr AV} (hheap : w'.heap = w.heap.push (.cells c el (0, 0))) (hsz : SzOk κ c.size sz)
    (hc : ∀ i v, cells.get i = some v → ∃ y, cv e v = some y ∧ c[i]? = some y) : ObjR e L nid (w.heap.size, κ) w' (.blk el false sz cells) :=
  ⟨c, (0, 0), by rw [hheap]; simp [Env.elR], fun _ => rfl, hsz, hc⟩

include ok in
/-- an operation that makes a block -/
theorem allocOp_run {ev : Operand → Option AV} {ρ : Operand → Value} (hev : EvOk e ev ρ) (o : Oper) {nid : Nat} {v : AV} {ob : AObj} (h : allocOp X ev nid o.op = some (v, ob)) (hn : e.f nid = none) :
    ∃ y w' obj, (execOp ρ o).run P w = .ok (.value y) w' ∧ w'.heap = w.heap.push obj ∧ w'.os = w.os ∧ w'.tape = w.tape ∧ w'.output = w.output ∧
      cv (e.ext nid (w.heap.size, 0)) v = some y ∧ ObjR (e.ext nid (w.heap.size, 0)) L nid (w.heap.size, 0) w' ob ∧ ob.wr = true := by
  have hle := Env.le_ext hn (w.heap.size, 0)
  have hfr : ∀ {b : Nat × Nat}, (e.ext nid b).f nid = some b := fun {b} => Env.ext_same _ _ _
  unfold allocOp at h
  split at h
  · rename_i t ho
    cases ht : X.tys.get t with
    | none => rw [ht] at h; simp [alAlloc] at h
    | some ti =>
      rw [ht] at h
      simp only [alAlloc, Option.some.injEq, Prod.mk.injEq] at h
      obtain ⟨rfl, rfl⟩ := h
      have hk := ok.tys t ti ht
      obtain ⟨z, hz, hzc, _⟩ := run_zeroValue' w hk e
      have hzl : z.cells.size = ti.size := by have := cvs_length hzc; simp at this; rw [this, hk.len]
      refine ⟨.pointer (some ⟨w.heap.size, 0, none⟩), { w with heap := w.heap.push (.cells z.cells t) }, .cells z.cells t, ?_, rfl, rfl, rfl, rfl, by simp only [cv, hfr], objR_new w rfl hzl ?_, rfl⟩
      · simp only [execOp, ho, Instr.alloc, Sem.run_bind, hz, Result.andThen_ok, newVar, newRow, run_newObj, Sem.run_pure]
      · have := put_get (cvs_le hle _ _ hzc)
        simpa using this
  · rename_i t x ho
    cases hx : ev x with
    | none => rw [hx] at h; simp [alBox] at h
    | some vx =>
      rw [hx] at h
      simp only [alBox, brec] at h
      cases hc : vx.cells.all AV.isCell with
      | false => rw [hc] at h; cases h
      | true =>
        rw [hc] at h; simp only [cond_true, Option.some.injEq, Prod.mk.injEq] at h
        obtain ⟨rfl, rfl⟩ := h
        have hcv := hev _ _ hx
        have hcells := cv_cells hcv (fun i hi => by subst hi; simp [AV.cells, AV.isCell] at hc)
        have hl := cvs_length hcells
        refine ⟨.pointer (some ⟨w.heap.size, 0, none⟩), { w with heap := w.heap.push (.cells (ρ x).cells t) }, .cells (ρ x).cells t, ?_, rfl, rfl, rfl, rfl, by simp only [cv, hfr], objR_new w rfl (by simp only [SzOk]; simpa using hl) ?_, rfl⟩
        · simp only [execOp, ho, Instr.box, Sem.run_bind, Result.andThen_ok, newVar, newRow, run_newObj, Sem.run_pure]
        · have := put_get (cvs_le hle _ _ hcells)
          simpa using this
  · rename_i t len parts ho
    unfold alBuild at h
    split at h
    · rename_i el size bytes zero cmp ps ht hp
      have hk := ok.tys t _ ht
      have hu := tk_slice hk rfl
      cases hel : X.tys.get el with
      | none => rw [hel] at h; simp [alBuild2] at h
      | some ei =>
        rw [hel] at h
        simp only [alBuild2, brec] at h
        cases hc : (Nat.ble (len * ei.size) 16777216 && ps.all (fun p => p.2.cells.all AV.isCell)) with
        | false => rw [hc] at h; cases h
        | true =>
          rw [hc] at h; simp only [cond_true] at h
          simp only [Bool.and_eq_true] at hc
          have hle24 := nble_of hc.1
          have hke := ok.tys el ei hel
          cases hf : fillA (arrPlace ei.size (len * ei.size)) (Tr.put .nil 0 (zeros ei.zero len)) ps with
          | none => rw [hf] at h; simp [alBuild3] at h
          | some c =>
            rw [hf] at h
            simp only [alBuild3, Option.some.injEq, Prod.mk.injEq] at h
            obtain ⟨rfl, rfl⟩ := h
            obtain ⟨z, hz, hzc, _⟩ := run_zeroValue' w hke e
            have hzl : z.cells.size = ei.size := by have := cvs_length hzc; simp at this; rw [this, hke.len]
            obtain ⟨qs, hqs, hp1, hp2⟩ := evalParts_cv hev hp
            have hqs' : (parts.map fun (i, x) => (i, ρ x)).toList = qs := by rw [hqs]; simp
            have hzeros := zeros_cvs hzc len
            rw [hzl] at hzeros
            have hinit := put_all hzeros
            rw [zeros_length, hke.len] at hinit
            simp only [Array.toArray_toList] at hinit
            obtain ⟨cells, h1, h2, h3, h4⟩ := fill_run (place := fun i => some (i * ei.size, ei.size)) (n := len * ei.size) (fun i off size hi => by
              simp only [arrPlace, brec] at hi
              cases hb : Nat.ble ((i + 1) * ei.size) (len * ei.size) with
              | false => rw [hb] at hi; cases hi
              | true =>
                rw [hb] at hi; simp only [cond_true, Option.some.injEq, Prod.mk.injEq] at hi
                obtain ⟨rfl, rfl⟩ := hi
                have := nble_of hb
                refine ⟨rfl, ?_⟩
                rw [Nat.add_mul] at this; omega) ps qs _ c _ hp1 hp2 (by simp) hinit (put_none (by rw [zeros_length, hke.len]; exact Nat.le_refl _)) hf
            refine ⟨.slice (some ⟨w.heap.size, 0, none⟩) len len, { w with heap := w.heap.push (.cells cells el) }, .cells cells el, ?_, rfl, rfl, rfl, rfl, by simp only [cv, hfr, Cap.val], objR_new w rfl h2 ?_, rfl⟩
            · simp only [execOp, ho]
              have hn24 : ¬ (len * ei.size > 2 ^ 24) := by omega
              by_cases h0 : len * ei.size = 0
              · have hcells0 : (Array.range (len * ei.size)).map (fun i => z.cells[i % ei.size]!) = (Array.range (len * ei.size)).map (fun i => (#[] : Array Value)[i % (#[] : Array Value).size]!) := by rw [h0]; simp
                rw [hcells0] at h1
                simp only [Instr.buildSlice, Sem.run_bind, run_underlying hu, Result.andThen_ok, run_sizeOf' w hke, if_neg hn24, Sem.run_ite, if_pos h0, Sem.run_pure, hqs', h1, newRow, run_newObj]
              · simp only [Instr.buildSlice, Sem.run_bind, run_underlying hu, Result.andThen_ok, run_sizeOf' w hke, if_neg hn24, Sem.run_ite, if_neg h0, hz, Sem.run_pure, hqs', hzl, h1, newRow, run_newObj]
            · intro i a ha
              by_cases hi : i < len * ei.size
              · obtain ⟨a', y, g1, g2, g3⟩ := h3 i hi
                rw [ha] at g1; cases g1
                exact ⟨y, cv_le hle _ _ g2, g3⟩
              · rw [h4 i (by omega)] at ha; cases ha
    · cases h
  · rename_i t l c ho
    unfold alMake at h
    split at h
    · rename_i el size bytes zero cmp k1 l' k2 c' ht hl hc
      have hk := ok.tys t _ ht
      have hu := tk_slice hk rfl
      cases hel : X.tys.get el with
      | none => rw [hel] at h; simp [alMake2] at h
      | some ei =>
        rw [hel] at h
        simp only [alMake2, brec] at h
        cases hcc : (Nat.ble l' c' && Nat.blt c' 1048576 && Nat.ble ei.bytes 1048576 && Nat.blt 0 ei.size) with
        | false => rw [hcc] at h; cases h
        | true =>
          rw [hcc] at h; simp only [cond_true, Option.some.injEq, Prod.mk.injEq] at h
          obtain ⟨rfl, rfl⟩ := h
          simp only [Bool.and_eq_true] at hcc
          have g1 := nble_of hcc.1.1.1; have g2 := nblt_of hcc.1.1.2; have g3 := nble_of hcc.1.2; have g4 := nblt_of hcc.2
          have hke := ok.tys el ei hel
          obtain ⟨z, hz, hzc, _⟩ := run_zeroValue' w hke e
          have hzl : z.cells.size = ei.size := by have := cvs_length hzc; simp at this; rw [this, hke.len]
          obtain ⟨inf, hinf, hib⟩ := run_bytesOf' w hke
          have hzeros := zeros_cvs hzc c'
          rw [hzl] at hzeros
          have hl' := cv_int (hev _ _ hl)
          have hc' := cv_int (hev _ _ hc)
          have hwl : IntKind.i64.wrap (Int.ofNat l') = (l' : Int) := by rw [wrap_def]; simp [kTop, kAll]; omega
          have hwc : IntKind.i64.wrap (Int.ofNat c') = (c' : Int) := by rw [wrap_def]; simp [kTop, kAll]; omega
          refine ⟨.slice (some ⟨w.heap.size, 0, none⟩) l' c', { w with heap := w.heap.push (.cells ((Array.range (c' * ei.size)).map (fun i => z.cells[i % ei.size]!)) el) }, .cells ((Array.range (c' * ei.size)).map (fun i => z.cells[i % ei.size]!)) el, ?_, rfl, rfl, rfl, rfl, by simp only [cv, hfr, Cap.val], objR_new w rfl (by simp [SzOk]) ?_, rfl⟩
          · have hbytes : (ei.bytes : Int) * (c' : Int) ≤ 1048576 * 1048576 := by
              have : ei.bytes * c' ≤ 1099511627776 := Nat.le_trans (Nat.mul_le_mul g3 (Nat.le_of_lt g2)) (by decide)
              rw [← Int.natCast_mul]; omega
            have htl : (decide ((c' : Int) < 0) || decide ((ei.bytes : Int) * (c' : Int) > 2 ^ 48)) = false := by simp; omega
            simp only [execOp, ho]
            by_cases h0 : c' * ei.size = 0
            · have hc0 : c' = 0 := by
                rcases Nat.mul_eq_zero.1 h0 with h | h
                · exact h
                · omega
              subst hc0
              have hl0 : l' = 0 := by omega
              subst hl0
              simp [Instr.makeSlice, run_underlying hu, hl', hc', asInt, asIntOf, hinf, run_sizeOf' w hke, newRow, IntKind.wrap, IntKind.bits, IntKind.signed]
              have h00 : Array.range 0 = #[] := rfl
              rw [h00]; simp
            · simp only [Instr.makeSlice, Sem.run_bind, run_underlying hu, Result.andThen_ok, hl', hc', asInt, asIntOf, Sem.run_pure, hinf, hib, hwl, hwc, htl, Bool.false_or]
              have hn1 : ¬ ((decide ((l' : Int) < 0) || decide ((l' : Int) > (c' : Int))) = true) := by simp; omega
              simp only [if_neg hn1, Sem.run_bind, run_askRoom, Result.andThen_ok, Int.toNat_natCast, run_sizeOf' w hke, if_neg h0, Sem.run_ite, hz, Sem.run_pure, newRow, run_newObj, hzl]
          · intro i a ha
            obtain ⟨y, hy, hx⟩ := put_get (cvs_le hle _ _ hzeros) i a ha
            rw [Array.toArray_toList] at hx
            exact ⟨y, hy, hx⟩
    · cases h
  · rename_i t x ho
    unfold alRange at h
    split at h
    · rename_i size bytes zero cmp s ht hx
      simp only [Option.some.injEq, Prod.mk.injEq] at h
      obtain ⟨rfl, rfl⟩ := h
      have hu := tk_str (ok.tys t _ ht) rfl
      obtain ⟨_, hρ⟩ := cv_str (hev _ _ hx)
      refine ⟨.pointer (some ⟨w.heap.size, 0, none⟩), { w with heap := w.heap.push (.stringIter (bytesOf s) 0) }, .stringIter (bytesOf s) 0, ?_, rfl, rfl, rfl, rfl, by simp only [cv, hfr], by simp [ObjR], rfl⟩
      simp only [execOp, ho, Instr.range, hρ, Sem.run_bind, run_underlying hu, Result.andThen_ok, Sem.run_pure, run_newObj]
    · cases h
  · cases h
end
end
end Go.X
