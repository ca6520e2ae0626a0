/- The tables of types; reading and writing cells. -/
import Derived.Test.YtdhcjepgihfplaaGreatDoorDxC
import Derived.Laws.IdiomCopy
import Derived.Laws.Cells
namespace Go.X
noncomputable section

def TKok (P : Program) : TypeDesc → TK → Prop
  | .bool, .bool => True
  | .int k, .int k' => k = k'
  | .string, .str => True
  | .pointer e, .ptr e' => e = e'
  | .slice e, .slice e' => e = e'
  | .array n e, .arr n' e' => n = n' ∧ e = e'
  | .struct fs, .struct gs => (fs.toList.map fun f => (f.offset, f.type, P.cellsOf f.type)) = gs.map (fun g => (g.off, g.ty, g.size))
  | .interface _, .iface => True
  | .func .., .func => True
  | .bool, .other | .int _, .other | .string, .other | .pointer _, .other | .slice _, .other | .func .., .other | .interface _, .other | .map .., .other | .chan .., .other | .tuple _, .other | .unsafePointer, .other | .float _, .other | .complex _, .other | .invalid, .other | .named .., .other => True
  | _, _ => False

structure TyOk (P : Program) (t : TypeId) (ti : TyI) : Prop where
  info : ∃ i, P.info? t = some i ∧ i.size = ti.size ∧ i.bytes = ti.bytes ∧ ∃ z, i.zero = some z ∧ ofConsts z.cells.toList = some ti.zero
  len : ti.zero.length = ti.size
  und : ∃ d, P.underlying t = some d ∧ TKok P d ti.k
  flds : ∀ fs, P.underlying t = some (.struct fs) → ∀ f ∈ fs, ∃ i, P.info? f.type = some i
  cmp : ti.cmp = true → P.stoodInHeld t = false ∧ P.eqGuardType P.depth t = false ∧ ∀ fs, P.underlying t = some (.struct fs) → ∀ f ∈ fs, f.name ≠ "_"

structure XPok (P : Program) (X : XP) : Prop where
  tys : ∀ t ti, X.tys.get t = some ti → TyOk P t ti
  glob : X.glob = P.globals.size

theorem ofConst1_cv (e : Env) {v : Value} {a : AV} (h : ofConst1 v = some a) : cv e a = some v ∧ a.isCell = true := by
  cases v with
  | string s =>
    simp only [ofConst1, Option.some.injEq] at h; subst h
    refine ⟨?_, rfl⟩
    have hall : (s.data.toList.map (·.toNat)).all (fun b => Nat.blt b 256) = true := by
      simp only [List.all_map, List.all_eq_true, Function.comp]
      intro x _
      rw [Nat.blt_eq]; exact UInt8.toNat_lt x
    simp only [cv, hall, if_true, bytesOf, List.map_map]
    have : (List.map (UInt8.ofNat ∘ fun x => x.toNat) s.data.toList) = s.data.toList := by
      conv => rhs; rw [← List.map_id s.data.toList]
      exact List.map_congr_left fun x _ => by simp
    rw [this]
  | pointer a => cases a <;> simp only [ofConst1, Option.some.injEq, reduceCtorEq] at h; subst h; exact ⟨rfl, rfl⟩
  | slice a n c =>
    cases a with
    | some a => simp [ofConst1] at h
    | none =>
      cases n with
      | succ n => simp [ofConst1] at h
      | zero => cases c with
        | succ c => simp [ofConst1] at h
        | zero => simp only [ofConst1, Option.some.injEq] at h; subst h; exact ⟨rfl, rfl⟩
  | map r => cases r <;> simp only [ofConst1, Option.some.injEq, reduceCtorEq] at h; subst h; exact ⟨rfl, rfl⟩
  | bool b => simp only [ofConst1, Option.some.injEq] at h; subst h; exact ⟨rfl, rfl⟩
  | int k n => simp only [ofConst1, Option.some.injEq] at h; subst h; exact ⟨rfl, rfl⟩
  | nilFunc => simp only [ofConst1, Option.some.injEq] at h; subst h; exact ⟨rfl, rfl⟩
  | nilIface => simp only [ofConst1, Option.some.injEq] at h; subst h; exact ⟨rfl, rfl⟩
  | _ => simp [ofConst1] at h

theorem ofConsts_cvs (e : Env) : ∀ {l : List Value} {a : List AV}, ofConsts l = some a → cvs e a = some l ∧ a.all AV.isCell = true := by
  intro l
  induction l with
  | nil => intro a h; simp only [ofConsts, Option.some.injEq] at h; subst h; exact ⟨rfl, rfl⟩
  | cons v l ih =>
    intro a h
    simp only [ofConsts] at h
    cases hv : ofConst1 v with
    | none => rw [hv] at h; cases h
    | some x =>
      rw [hv] at h
      cases hl : ofConsts l with
      | none => rw [hl] at h; cases h
      | some y =>
        rw [hl] at h; simp only [Option.some.injEq] at h; subst h
        exact ⟨cvs_mk (ofConst1_cv e hv).1 (ih hl).1, by simp [(ofConst1_cv e hv).2]; simpa using (ih hl).2⟩

theorem ofConst_cv (e : Env) {v : Value} {a : AV} (h : ofConst v = some a) : cv e a = some v := by
  unfold ofConst at h
  split at h
  · rename_i cs
    cases hc : ofConsts cs.toList with
    | none => rw [hc] at h; cases h
    | some y => rw [hc] at h; simp only [Option.map_some, Option.some.injEq] at h; subst h; simp only [cv, (ofConsts_cvs e hc).1]
  · simp only [Option.some.injEq] at h; subst h; rfl
  · exact (ofConst1_cv e h).1

section types
variable {P : Program} {X : XP} {t : TypeId} {ti : TyI} (w : World)

theorem run_typeInfo' {i : TypeInfo} (h : P.info? t = some i) : (typeInfo t).run P w = .ok i w := by simp [typeInfo, h]
theorem run_sizeOf' (h : TyOk P t ti) : (sizeOf t).run P w = .ok ti.size w := by
  obtain ⟨i, hi, hs, _⟩ := h.info
  simp [sizeOf, run_typeInfo' w hi, hs]
theorem run_bytesOf' (h : TyOk P t ti) : ∃ i, (typeInfo t).run P w = .ok i w ∧ i.bytes = ti.bytes := by
  obtain ⟨i, hi, _, hb, _⟩ := h.info
  exact ⟨i, run_typeInfo' w hi, hb⟩
theorem run_zeroValue' (h : TyOk P t ti) (e : Env) : ∃ z, (zeroValue t).run P w = .ok z w ∧ cvs e ti.zero = some z.cells.toList ∧ ti.zero.all AV.isCell = true := by
  obtain ⟨i, hi, _, _, z, hz, hc⟩ := h.info
  exact ⟨z, by simp [zeroValue, run_typeInfo' w hi, hz], (ofConsts_cvs e hc).1, (ofConsts_cvs e hc).2⟩
theorem run_isAgg' (h : TyOk P t ti) : (isAgg t).run P w = .ok ti.isAgg w := by
  obtain ⟨d, hd, hk⟩ := h.und
  simp only [isAgg, Sem.run_bind, run_underlying hd, Result.andThen_ok]
  unfold TyI.isAgg
  cases d <;> cases hti : ti.k <;> rw [hti] at hk <;> simp [TKok] at hk <;> simp
end types

theorem add_none (b o n : Nat) : (⟨b, o, none⟩ : Addr).add n = ⟨b, o + n, none⟩ := by unfold Addr.add; split <;> simp_all

/-! ### reading -/
theorem getCells_cv {NG : GP} {e : Env} {L : Loops} {H : AHeap} {nx : Nat} {w : World} (h : HR NG e L H.objs.get nx w) {b off n : Nat} {l : List AV} (hg : getCells H b off n = some l) :
    ∃ x xs, e.f b = some x ∧ cvs e l = some xs ∧ xs.length = n ∧ ∀ j v, xs[j]? = some v → w.cell? ⟨x.1, off + j, none⟩ = some v := by
  unfold getCells at hg
  cases hb : H.objs.get b with
  | none => rw [hb] at hg; cases hg
  | some o =>
    rw [hb] at hg
    cases o with
    | blk el ro sz cells =>
      simp only at hg
      obtain ⟨x, hx, c, fz, h1, _, _, h4⟩ := h.live b _ hb
      obtain ⟨hlen, hget⟩ := Tr.take_some hg
      have key : ∀ (l : List AV) (k : Nat), (∀ i, i < l.length → cells.get (k + i) = l[i]?) → ∃ xs, cvs e l = some xs ∧ ∀ j v, xs[j]? = some v → c[k + j]? = some v := by
        intro l
        induction l with
        | nil => intro k _; exact ⟨[], rfl, by simp⟩
        | cons a l ih =>
          intro k hk
          have h0 := hk 0 (by simp)
          simp only [Nat.add_zero, List.getElem?_cons_zero] at h0
          obtain ⟨y, hy, hc⟩ := h4 _ _ h0
          obtain ⟨ys, hys, hr⟩ := ih (k + 1) (fun i hi => by
            have := hk (i + 1) (by simpa using hi)
            rw [show k + 1 + i = k + (i + 1) by omega, this]; simp)
          refine ⟨y :: ys, cvs_mk hy hys, fun j v hj => ?_⟩
          cases j with
          | zero => simp at hj; subst hj; exact hc
          | succ j => simp at hj; have := hr j v hj; rwa [show k + (j + 1) = k + 1 + j by omega]
      obtain ⟨xs, hxs, hr⟩ := key l off (fun i hi => hget i (by omega))
      refine ⟨x, xs, hx, hxs, by rw [cvs_length hxs, hlen], fun j v hj => ?_⟩
      simp only [World.cell?, h1]
      simpa using hr j v hj
    | _ => cases hg

theorem loadV_run {P : Program} {X : XP} (ok : XPok P X) {e : Env} {L : Loops} {H : AHeap} {nx : Nat} {NG : GP} {w : World} (h : HR NG e L H.objs.get nx w) {t b off : Nat} {v : AV}
    (hl : loadV X H t b off = some v) : ∃ x y, e.f b = some x ∧ cv e v = some y ∧ (loadVar t ⟨x.1, off, none⟩).run P w = .ok y w := by
  unfold loadV at hl
  cases ht : X.tys.get t with
  | none => rw [ht] at hl; cases hl
  | some ti =>
    have hk := ok.tys t ti ht
    rw [ht] at hl
    simp only [brec] at hl
    cases ha : ti.isAgg with
    | true =>
      rw [ha] at hl
      simp only [cond_true] at hl
      cases hg : getCells H b off ti.size with
      | none => rw [hg] at hl; cases hl
      | some l =>
        rw [hg] at hl; simp only [Option.some.injEq] at hl; subst hl
        obtain ⟨x, xs, hx, hxs, hn, hc⟩ := getCells_cv h hg
        refine ⟨x, .agg xs.toArray, hx, by simp only [cv, hxs], ?_⟩
        have hr := run_loadCells_list (P := P) w ⟨x.1, off, none⟩ xs (fun j v hj => by rw [add_none]; exact hc j v hj)
        rw [hn] at hr
        simp only [loadVar, Sem.run_bind, run_isAgg' w hk, ha, Result.andThen_ok, if_true, run_sizeOf' w hk, hr, Sem.run_pure]
    | false =>
      rw [ha] at hl
      simp only [cond_false] at hl
      cases hg : getCells H b off 1 with
      | none => rw [hg] at hl; cases hl
      | some l =>
        rw [hg] at hl
        cases l with
        | nil => cases hl
        | cons a l =>
          cases l with
          | cons a' l => cases hl
          | nil =>
            simp only [Option.some.injEq] at hl; subst hl
            obtain ⟨x, xs, hx, hxs, hn, hc⟩ := getCells_cv h hg
            obtain ⟨y, z, hy, hz, rfl⟩ := cvs_cons hxs
            refine ⟨x, y, hx, hy, ?_⟩
            have := hc 0 y (by simp)
            simp only [Nat.add_zero] at this
            simp [loadVar, run_isAgg' w hk, ha, this]

/-! ### writing -/
theorem RC.val_one {c : RC} {v x : Value} (h : c.val v = some x) : x.oneCell' = true := by
  unfold RC.val at h
  split at h
  all_goals first
    | (cases h; done)
    | (split at h
       · cases h; rfl
       · cases h)

theorem isCell_one {e : Env} {v : AV} {x : Value} (hv : v.isCell = true) (h : cv e v = some x) : x.oneCell' = true := by
  cases v with
  | agg _ => cases hv
  | tup _ => cases hv
  | undef => cases hv
  | sym _ => cases hv
  | pan _ => cases hv
  | ptr b o => simp only [cv] at h; cases hb : e.f b <;> rw [hb] at h <;> simp at h; subst h; rfl
  | sl b o n c => simp only [cv] at h; cases hb : e.f b <;> rw [hb] at h <;> simp at h; subst h; rfl
  | yld b => simp only [cv] at h; cases hb : e.f b <;> rw [hb] at h <;> simp at h; subst h; rfl
  | capOf b k => simp only [cv] at h; cases hb : e.f b <;> rw [hb] at h <;> simp at h; subst h; rfl
  | ifc t v => simp only [cv] at h; cases hb : cv e v <;> rw [hb] at h <;> simp at h; subst h; rfl
  | str s => simp only [cv] at h; split at h <;> simp at h; subst h; rfl
  | fn f a b =>
    simp only [cv] at h
    cases ha : cvs e a <;> cases hb : cvs e b <;> rw [ha, hb] at h <;> simp at h; subst h; rfl
  | res i c => exact RC.val_one (show c.val (e.sy i) = some x from h)
  | _ => simp only [cv, Option.some.injEq] at h; subst h; rfl

theorem isCells_one {e : Env} : ∀ {vs : List AV} {xs : List Value}, vs.all AV.isCell = true → cvs e vs = some xs → ∀ x ∈ xs, x.oneCell' = true := by
  intro vs
  induction vs with
  | nil => intro xs _ h; simp only [cvs, Option.some.injEq] at h; subst h; simp
  | cons v vs ih =>
    intro xs hv h x hx
    obtain ⟨y, z, hy, hz, rfl⟩ := cvs_cons h
    simp only [List.all_cons, Bool.and_eq_true] at hv
    rcases List.mem_cons.1 hx with rfl | hx
    · exact isCell_one hv.1 hy
    · exact ih hv.2 hz x hx

/-- what the row of cells is behind the writes -/
def putArr (c : Array Value) (o : Nat) : List Value → Array Value
  | [] => c
  | v :: vs => putArr (c.setIfInBounds o v) (o + 1) vs

theorem size_putArr (vs : List Value) : ∀ (c : Array Value) (o : Nat), (putArr c o vs).size = c.size := by
  induction vs with
  | nil => intro c o; rfl
  | cons v vs ih => intro c o; simp only [putArr]; rw [ih]; simp

theorem get_putArr (vs : List Value) : ∀ (c : Array Value) (o i : Nat), o + vs.length ≤ c.size → (putArr c o vs)[i]? = if o ≤ i ∧ i < o + vs.length then vs[i - o]? else c[i]? := by
  induction vs with
  | nil => intro c o i _; rw [if_neg (by simp)]; rfl
  | cons v vs ih =>
    intro c o i h
    simp only [List.length_cons] at h
    simp only [putArr]
    rw [ih _ _ _ (by simp; omega)]
    by_cases h1 : o + 1 ≤ i ∧ i < o + 1 + vs.length
    · rw [if_pos h1, if_pos (by simp; omega)]
      have : i - o = (i - (o + 1)) + 1 := by omega
      rw [this, List.getElem?_cons_succ]
    · rw [if_neg h1]
      by_cases e1 : i = o
      · subst e1
        rw [if_pos (by simp), Array.getElem?_setIfInBounds, if_pos rfl, if_pos (by omega)]; simp
      · rw [if_neg (by simp; omega), Array.getElem?_setIfInBounds_ne (fun h => e1 h.symm)]

theorem setCells_heap (b : Nat) (el : TypeId) (fz : Nat × Nat) : ∀ (vs : List Value) (o : Nat) (w : World) (c : Array Value), w.heap[b]? = some (.cells c el fz) →
    (w.setCells b o vs).heap[b]? = some (.cells (putArr c o vs) el fz) ∧ (∀ B, B ≠ b → (w.setCells b o vs).heap[B]? = w.heap[B]?) ∧ (w.setCells b o vs).heap.size = w.heap.size ∧
    (w.setCells b o vs).os = w.os ∧ (w.setCells b o vs).tape = w.tape ∧ (w.setCells b o vs).output = w.output := by
  intro vs
  induction vs with
  | nil => intro o w c h; exact ⟨h, fun _ _ => rfl, rfl, rfl, rfl, rfl⟩
  | cons v vs ih =>
    intro o w c h
    have h1 : (w.setCell ⟨b, o, none⟩ v).heap[b]? = some (.cells (c.setIfInBounds o v) el fz) := by
      simp only [World.setCell, Array.getElem?_modify, if_true, h]; simp
    obtain ⟨g1, g2, g3, g4, g5, g6⟩ := ih (o + 1) _ _ h1
    refine ⟨g1, fun B hB => ?_, by rw [World.setCells, g3]; simp, g4, g5, g6⟩
    rw [World.setCells, g2 B hB]
    simp only [World.setCell, Array.getElem?_modify]
    rw [if_neg (fun h => hB h.symm)]

theorem SzOk.least {κ n : Nat} {sz : Sz} (h : SzOk κ n sz) : sz.least ≤ n := by
  cases sz with
  | fix m => simp only [SzOk] at h; simp only [Sz.least]; omega
  | opn lo hi es => obtain ⟨h1, h2, _⟩ := h; simp only [Sz.least]; rw [h1]; exact Nat.mul_le_mul_left _ h2

theorem putCells_run {P : Program} {NG : GP} {e : Env} {L : Loops} {H H' : AHeap} {nx : Nat} {w : World} (h : HR NG e L H.objs.get nx w) {b off : Nat} {vs : List AV} {xs : List Value}
    (hp : putCells H b off vs = some H') (hxs : cvs e vs = some xs) :
    ∃ x w', e.f b = some x ∧ (storeCells ⟨x.1, off, none⟩ xs).run P w = .ok () w' ∧ HR NG e L H'.objs.get nx w' ∧ Tran e H.objs.get nx w e H'.objs.get nx w' ∧ H'.next = H.next := by
  unfold putCells at hp
  split at hp
  · rename_i el sz cells hb
    simp only [brec] at hp
    cases hc : (Nat.ble (off + vs.length) sz.least && vs.all AV.isCell) with
    | false => rw [hc] at hp; cases hp
    | true =>
      rw [hc] at hp
      simp only [cond_true, Option.some.injEq] at hp
      simp only [Bool.and_eq_true] at hc
      have hle := nble_of hc.1
      obtain ⟨x, hx, c, fz, h1, h2, h3, h4⟩ := h.live b _ hb
      have hlen := cvs_length hxs
      have hin : off + xs.length ≤ c.size := by rw [hlen]; exact Nat.le_trans hle h3.least
      have hrun := run_storeCells_cells (P := P) x.1 off xs 0 w
        (fun j hj => by simp only [World.cell?, h1, Nat.add_zero]; simp; omega)
        (fun j hj => by simp [World.frozen?, h1, h2 rfl])
        (isCells_one hc.2 hxs)
      simp only [Nat.add_zero] at hrun
      obtain ⟨g1, g2, g3, g4, g5, g6⟩ := setCells_heap x.1 el fz xs off w c h1
      have ho : ObjR e L b x (w.setCells x.1 off xs) (.blk el false sz (cells.put off vs)) := by
        refine ⟨putArr c off xs, fz, g1, h2, by rw [size_putArr]; exact h3, fun i v hv => ?_⟩
        rw [Tr.get_put] at hv
        rw [get_putArr _ _ _ _ hin]
        by_cases hi : off ≤ i ∧ i < off + vs.length
        · rw [if_pos hi] at hv
          rw [if_pos (by omega)]
          exact cvs_get hxs _ _ hv
        · rw [if_neg hi] at hv
          rw [if_neg (by omega)]
          exact h4 i v hv
      subst hp
      refine ⟨x, _, hx, hrun, ?_, ?_, rfl⟩
      · show HR NG e L (H.objs.set b _).get nx _
        rw [get_set_upd]
        exact h.upd hb hx g2 ho
      · show Tran e H.objs.get nx w e (H.objs.set b _).get nx _
        rw [get_set_upd]
        exact Tran.upd hb hx rfl rfl g2 g3 g4 g5 g6
  · cases hp

end
end Go.X
