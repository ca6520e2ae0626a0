/- The operations that leave memory alone: each one's run. -/
import Derived.Test.YtdhcjepgihfplaaGreatDoorDxG
import Derived.Laws.Tables
namespace Go.X
noncomputable section
set_option linter.unusedSectionVars false

section
variable {P : Program} {X : XP} (ok : XPok P X) (w : World) {e : Env} {L : Loops} {H : AHeap} {nx : Nat} {NG : GP} (hH : HR NG e L H.objs.get nx w)

theorem tk_of {t : TypeId} {ti : TyI} (ht : TyOk P t ti) {k : TK} (hk : ti.k = k) : ∃ d, P.underlying t = some d ∧ TKok P d k := by
  obtain ⟨d, hd, h⟩ := ht.und; exact ⟨d, hd, hk ▸ h⟩
theorem tk_slice {t : TypeId} {ti : TyI} (ht : TyOk P t ti) {el : TypeId} (hk : ti.k = .slice el) : P.underlying t = some (.slice el) := by
  obtain ⟨d, hd, h⟩ := tk_of ht hk; cases d <;> simp [TKok] at h; rw [hd, h]
theorem tk_arr {t : TypeId} {ti : TyI} (ht : TyOk P t ti) {n el : TypeId} (hk : ti.k = .arr n el) : P.underlying t = some (.array n el) := by
  obtain ⟨d, hd, h⟩ := tk_of ht hk; cases d <;> simp [TKok] at h; rw [hd, h.1, h.2]
theorem tk_str {t : TypeId} {ti : TyI} (ht : TyOk P t ti) (hk : ti.k = .str) : P.underlying t = some .string := by
  obtain ⟨d, hd, h⟩ := tk_of ht hk; cases d <;> simp [TKok] at h; rw [hd]
theorem tk_int {t : TypeId} {ti : TyI} (ht : TyOk P t ti) {k : IntKind} (hk : ti.k = .int k) : P.underlying t = some (.int k) := by
  obtain ⟨d, hd, h⟩ := tk_of ht hk; cases d <;> simp [TKok] at h; rw [hd, h]
theorem tk_ptr {t : TypeId} {ti : TyI} (ht : TyOk P t ti) {el : TypeId} (hk : ti.k = .ptr el) : P.underlying t = some (.pointer el) := by
  obtain ⟨d, hd, h⟩ := tk_of ht hk; cases d <;> simp [TKok] at h; rw [hd, h]
theorem tk_struct {t : TypeId} {ti : TyI} (ht : TyOk P t ti) {gs : List FldI} (hk : ti.k = .struct gs) :
    ∃ fs : Array Field, P.underlying t = some (.struct fs) ∧ (fs.toList.map fun f => (f.offset, f.type, P.cellsOf f.type)) = gs.map (fun g => (g.off, g.ty, g.size)) := by
  obtain ⟨d, hd, h⟩ := tk_of ht hk; cases d <;> simp only [TKok] at h; exact ⟨_, hd, h⟩

/-- a field of a struct's type -/
theorem fld_of {t : TypeId} {ti : TyI} (ht : TyOk P t ti) {gs : List FldI} {fs : Array Field} (hu : P.underlying t = some (.struct fs))
    (hm : (fs.toList.map fun f => (f.offset, f.type, P.cellsOf f.type)) = gs.map (fun g => (g.off, g.ty, g.size))) {i : Nat} {g : FldI} (hg : gs[i]? = some g) :
    ∃ f, fs[i]? = some f ∧ f.offset = g.off ∧ f.type = g.ty ∧ (sizeOf f.type).run P w = .ok g.size w := by
  have h1 : (gs.map (fun g => (g.off, g.ty, g.size)))[i]? = some (g.off, g.ty, g.size) := by simp [hg]
  rw [← hm] at h1
  simp only [List.getElem?_map, Option.map_eq_some_iff, Prod.mk.injEq] at h1
  obtain ⟨f, hf, h2, h3, h4⟩ := h1
  have hf' : fs[i]? = some f := by simpa using hf
  obtain ⟨inf, hinf⟩ := ht.flds fs hu f (Array.mem_of_getElem? hf')
  refine ⟨f, hf', h2, h3, ?_⟩
  have : inf.size = g.size := by rw [← h4]; simp [Program.cellsOf, hinf]
  simp [sizeOf, run_typeInfo' w hinf, this]

include ok hH in
theorem qLoad_run {t : TypeId} {a v : AV} {va : Value} (ha : cv e a = some va) (h : qLoad X H t (some a) = some v) : ∃ y, cv e v = some y ∧ (Instr.loadAt t va).run P w = .ok y w := by
  cases a with
  | ptr b off =>
    simp only [qLoad] at h
    obtain ⟨x, y, hx, hy, hr⟩ := loadV_run ok hH h
    obtain ⟨x', hx', rfl⟩ := cv_ptr ha
    rw [hx] at hx'; cases hx'
    exact ⟨y, hy, by simp only [Instr.loadAt, Instr.sureAddr, Sem.run_bind, Sem.run_pure, Result.andThen_ok, hr]⟩
  | _ => simp [qLoad] at h

theorem bytesOfCells_of : ∀ {cs : List AV} {l : List Nat}, bytesOfCells cs = some l → ∃ ns : List Int, cvs e cs = some (ns.map (Value.int .u8)) ∧ l = ns.map (fun n => n.toNat % 256) := by
  intro cs
  induction cs with
  | nil => intro l h; simp only [bytesOfCells, Option.some.injEq] at h; subst h; exact ⟨[], rfl, rfl⟩
  | cons c cs ih =>
    intro l h
    unfold bytesOfCells at h
    split at h
    · rename_i heq; cases heq
    · rename_i n l' heq
      injection heq with h1 h2
      subst h1; subst h2
      cases hr : bytesOfCells cs with
      | none => rw [hr] at h; cases h
      | some r =>
        rw [hr] at h; simp only [Option.some.injEq] at h; subst h
        obtain ⟨ns, h1, h2⟩ := ih hr
        exact ⟨n :: ns, cvs_mk rfl h1, by rw [h2]; rfl⟩
    · cases h

theorem strOfNums_bytes (ns : List Int) : ns.foldl (fun r n => r.push (UInt8.ofNat n.toNat)) ByteArray.empty = bytesOf (ns.map (fun n => n.toNat % 256)) := by
  have key : ∀ (ns : List Int) (s : List Nat), ns.foldl (fun r n => r.push (UInt8.ofNat n.toNat)) (bytesOf s) = bytesOf (s ++ ns.map (fun n => n.toNat % 256)) := by
    intro ns
    induction ns with
    | nil => intro s; simp
    | cons n ns ih =>
      intro s
      have : (bytesOf s).push (UInt8.ofNat n.toNat) = bytesOf (s ++ [n.toNat % 256]) := by
        apply ByteArray.ext
        simp [bytesOf, ByteArray.push]
        apply UInt8.toNat_inj.1; simp
      simp only [List.foldl_cons, this, ih]; simp
  have h0 : (ByteArray.empty : ByteArray) = bytesOf [] := rfl
  rw [h0]; simpa using key ns []

include ok hH in
theorem qConvert_run {s d : TypeId} {a v : AV} {va : Value} (ha : cv e a = some va) (h : qConvert X H (X.tys.get s) (X.tys.get d) (some a) = some v) :
    ∃ y, cv e v = some y ∧ (convert s d va).run P w = .ok y w := by
  cases hs : X.tys.get s with
  | none => rw [hs] at h; simp [qConvert] at h
  | some si =>
    cases hd : X.tys.get d with
    | none => rw [hs, hd] at h; simp [qConvert] at h
    | some di =>
      rw [hs, hd] at h
      have ks := ok.tys s si hs
      have kd := ok.tys d di hd
      simp only [qConvert] at h
      obtain ⟨sd, hsd, _⟩ := ks.und
      unfold qConvert2 at h
      split at h
      · rename_i k n
        cases cv_int ha
        cases hdk : di.k <;> rw [hdk] at h <;> simp only [convInt, reduceCtorEq, Option.some.injEq] at h
        subst h
        refine ⟨_, rfl, ?_⟩
        simp [convert, run_underlying hsd, run_underlying (tk_int kd hdk), Conv.intToInt, fwrap_eq]
      · rename_i hni
        unfold convOther at h
        split at h
        · rename_i l h1 h2
          obtain ⟨hl, rfl⟩ := cv_str ha
          simp only [Option.some.injEq] at h; subst h
          refine ⟨_, ha, ?_⟩
          simp [convert, run_underlying (tk_str ks h1), run_underlying (tk_str kd h2)]
        · rename_i el h1 h2
          simp only [brec] at h
          cases hb : isByte (X.tys.get el) with
          | false => rw [hb] at h; cases h
          | true =>
            rw [hb] at h; simp only [cond_true, Option.some.injEq] at h; subst h
            have hel : P.underlying el = some (.int .u8) := by
              unfold isByte at hb; split at hb
              · rename_i size bytes zero cmp heq; exact tk_int (ok.tys el _ heq) rfl
              · cases hb
            simp only [cv, Option.some.injEq] at ha; subst ha
            refine ⟨_, cv_str_mk e (by simp), ?_⟩
            have := run_convert_bytes_nil (P := P) w s el (tk_slice ks h1) hel 0 0 d (tk_str kd h2)
            rw [this]; rfl
        · rename_i el b off len c h1 h2
          simp only [brec] at h
          cases hb : isByte (X.tys.get el) with
          | false => rw [hb] at h; cases h
          | true =>
            rw [hb] at h; simp only [cond_true] at h
            have hel : P.underlying el = some (.int .u8) := by
              unfold isByte at hb; split at hb
              · rename_i size bytes zero cmp heq; exact tk_int (ok.tys el _ heq) rfl
              · cases hb
            obtain ⟨x, hx, rfl⟩ := cv_sl ha
            unfold convBytes at h
            cases hg : getCells H b off len with
            | none => rw [hg] at h; cases h
            | some cs =>
              rw [hg] at h
              simp only [Option.map_eq_some_iff] at h
              obtain ⟨l, hl, rfl⟩ := h
              obtain ⟨x', xs, hx', hxs, hn, hc⟩ := getCells_cv hH hg
              rw [hx] at hx'; cases hx'
              obtain ⟨ns, hns, rfl⟩ := bytesOfCells_of (e := e) hl
              rw [hxs] at hns; simp only [Option.some.injEq] at hns; subst hns
              refine ⟨_, cv_str_mk e (fun b hb => by simp at hb; obtain ⟨n, _, rfl⟩ := hb; omega), ?_⟩
              have hload := run_loadCells_list (P := P) w ⟨x.1, off, none⟩ (ns.map (Value.int .u8)) (fun j v hj => by rw [add_none]; exact hc j v hj)
              rw [hn] at hload
              rw [run_convert_bytes_string w s d el _ _ _ (tk_slice ks h1) hel (tk_str kd h2), run_bytesToString w _ _ _ ns hload, strOfNums_bytes]
        · cases h

include ok in
theorem qIface_run {t : TypeId} {a v : AV} {va : Value} (ha : cv e a = some va) (h : qIface t (X.tys.get t) (some a) = some v) : ∃ y, cv e v = some y ∧ (Instr.makeInterface t va).run P w = .ok y w := by
  cases ht : X.tys.get t with
  | none => rw [ht] at h; simp [qIface] at h
  | some ti =>
    rw [ht] at h
    have hk := ok.tys t ti ht
    simp only [qIface, brec] at h
    cases hc : isConcrete ti.k with
    | false => rw [hc] at h; cases h
    | true =>
      rw [hc] at h; simp only [cond_true, Option.some.injEq] at h; subst h
      obtain ⟨d, hd, hdk⟩ := hk.und
      refine ⟨.iface t va, by simp only [cv, ha], ?_⟩
      cases d <;> cases htk : ti.k <;> rw [htk] at hdk hc <;> simp [TKok, isConcrete] at hdk hc <;> simp [Instr.makeInterface, run_underlying hd]

theorem take_all {c : Tr AV} {n : Nat} {cells : Array Value} (hn : cells.size = n) (hc : ∀ i, i < n → ∃ a y, c.get i = some a ∧ cv e a = some y ∧ cells[i]? = some y) {l : List AV} (h : c.take 0 n = some l) : cvs e l = some cells.toList := by
  obtain ⟨hl, hg⟩ := Tr.take_some h
  have key : ∀ (l : List AV) (k : Nat), (∀ i, i < l.length → c.get (k + i) = l[i]?) → k + l.length = n → cvs e l = some (cells.toList.drop k) := by
    intro l
    induction l with
    | nil => intro k _ hk; simp only [cvs, Option.some.injEq]; symm; apply List.drop_eq_nil_of_le; simp at hk ⊢; omega
    | cons a l ih =>
      intro k hk hlen
      simp only [List.length_cons] at hlen
      have h0 := hk 0 (by simp)
      simp only [Nat.add_zero, List.getElem?_cons_zero] at h0
      obtain ⟨a', y, ha, hy, hcy⟩ := hc k (by omega)
      rw [h0] at ha; cases ha
      have hr := ih (k + 1) (fun i hi => by
        have := hk (i + 1) (by simpa using hi)
        rw [show k + 1 + i = k + (i + 1) by omega, this]; simp) (by omega)
      have : cells.toList.drop k = y :: cells.toList.drop (k + 1) := by
        rw [List.drop_eq_getElem_cons (by simp; omega)]
        congr 1
        have := hcy
        rw [Array.getElem?_eq_getElem (by omega)] at this
        simpa using this
      rw [this]; exact cvs_mk hy hr
  simpa using key l 0 (fun i hi => by simpa using hg i (by omega)) (by omega)

theorem put_all {l : List AV} {xs : List Value} (h : cvs e l = some xs) : ∀ i, i < l.length → ∃ a y, (Tr.put .nil 0 l).get i = some a ∧ cv e a = some y ∧ xs.toArray[i]? = some y := by
  intro i hi
  rw [Tr.get_put, if_pos (by omega)]
  obtain ⟨y, hy, hx⟩ := cvs_get h i l[i] (by simp [hi])
  exact ⟨l[i], y, by simp [hi], hy, by simpa using hx⟩

theorem put_none {l : List AV} {n : Nat} (h : l.length ≤ n) : ∀ i, n ≤ i → (Tr.put .nil 0 l).get i = none := by
  intro i hi
  rw [Tr.get_put, if_neg (by omega)]; rfl

include ok in
theorem qBuild_run {t : TypeId} {parts : Array (Nat × Operand)} {ev : Operand → Option AV} {ρ : Operand → Value} (hev : EvOk e ev ρ) {v : AV} (h : qBuild X (X.tys.get t) (evalParts ev parts.toList) = some v) :
    ∃ y, cv e v = some y ∧ (Instr.build t (parts.map fun (i, x) => (i, ρ x))).run P w = .ok y w := by
  cases ht : X.tys.get t with
  | none => rw [ht] at h; simp [qBuild] at h
  | some ti =>
    rw [ht] at h
    cases hp : evalParts ev parts.toList with
    | none => rw [hp] at h; simp [qBuild] at h
    | some ps =>
      rw [hp] at h
      simp only [qBuild] at h
      have hk := ok.tys t ti ht
      obtain ⟨qs, hqs, hp1, hp2⟩ := evalParts_cv hev hp
      have hqs' : (parts.map fun (i, x) => (i, ρ x)).toList = qs := by rw [hqs]; simp
      obtain ⟨z, hz, hzc, _⟩ := run_zeroValue' w hk e
      have hzl : z.cells.size = ti.size := by have := cvs_length hzc; simp at this; rw [this, hk.len]
      have hinit := put_all hzc
      rw [hk.len] at hinit
      simp only [Array.toArray_toList] at hinit
      have fin : ∀ {pa : Nat → Option (Nat × Nat)} {pl : Nat → Option (Nat × Nat)}, (∀ i off size, pa i = some (off, size) → pl i = some (off, size) ∧ off + size ≤ ti.size) →
          asAggA ti.size (fillA pa (Tr.put .nil 0 ti.zero) ps) = some v → ∃ cells, Instr.fill pl z.cells qs = some cells ∧ cv e v = some (.agg cells) := by
        intro pa pl hpl hh
        cases hf : fillA pa (Tr.put .nil 0 ti.zero) ps with
        | none => rw [hf] at hh; simp [asAggA] at hh
        | some c =>
          rw [hf] at hh
          simp only [asAggA, Option.map_eq_some_iff] at hh
          obtain ⟨l, hl, rfl⟩ := hh
          obtain ⟨cells, h1, h2, h3, _⟩ := fill_run hpl ps qs _ c z.cells hp1 hp2 hzl hinit (put_none (by rw [hk.len]; exact Nat.le_refl _)) hf
          exact ⟨cells, h1, by simp only [cv, take_all h2 h3 hl]⟩
      unfold qBuild2 at h
      split at h
      · rename_i gs htk
        obtain ⟨fs, hu, hm⟩ := tk_struct hk htk
        have hplaces : ∀ (l : List Field), (∀ f ∈ l, f ∈ fs) → l.mapM (fun f => (P.info? f.type).map fun i => (f.offset, i.size)) = some (l.map fun f => (f.offset, P.cellsOf f.type)) := by
          intro l
          induction l with
          | nil => intro _; rfl
          | cons f l ih =>
            intro hl
            obtain ⟨inf, hinf⟩ := hk.flds fs hu f (hl f (by simp))
            rw [List.mapM_cons, ih (fun f hf => hl f (by simp [hf])), hinf]
            simp [Program.cellsOf, hinf]
        have hrun := run_places (P := P) w fs.toList _ (hplaces fs.toList (fun f hf => by simpa using hf))
        obtain ⟨cells, hfill, hcv⟩ := fin (pl := fun i => (fs.toList.map fun f => (f.offset, P.cellsOf f.type)).toArray[i]?) (fun i off size hi => by
          simp only [fldPlace] at hi
          cases hg : gs[i]? with
          | none => rw [hg] at hi; simp [fldAt] at hi
          | some g =>
            rw [hg] at hi
            simp only [fldAt, brec] at hi
            cases hb : Nat.ble (g.off + g.size) ti.size with
            | false => rw [hb] at hi; cases hi
            | true =>
              rw [hb] at hi; simp only [cond_true, Option.some.injEq, Prod.mk.injEq] at hi
              obtain ⟨rfl, rfl⟩ := hi
              have h1 : (gs.map (fun g => (g.off, g.ty, g.size)))[i]? = some (g.off, g.ty, g.size) := by simp [hg]
              rw [← hm] at h1
              simp only [List.getElem?_map, Option.map_eq_some_iff, Prod.mk.injEq] at h1
              obtain ⟨f, hf, h2, _, h4⟩ := h1
              refine ⟨?_, nble_of hb⟩
              simp only [List.getElem?_toArray, List.getElem?_map, hf, Option.map_some, h2, h4]) h
        refine ⟨_, hcv, ?_⟩
        have hfill' := hfill
        simp only [Instr.build, Sem.run_bind, hz, Result.andThen_ok, run_underlying hu, Array.mapM_eq_mapM_toList]
        simp only [bind_pure_comp, Sem.run_map, hrun, Result.andThen_ok, hqs', hfill', Sem.run_pure]
      · rename_i n el htk
        have hu := tk_arr hk htk
        unfold qBuildArr at h
        cases hel : X.tys.get el with
        | none => rw [hel] at h; cases h
        | some ei =>
          rw [hel] at h
          simp only at h
          obtain ⟨cells, hfill, hcv⟩ := fin (pl := fun i => some (i * ei.size, ei.size)) (fun i off size hi => by
            simp only [arrPlace, brec] at hi
            cases hb : Nat.ble ((i + 1) * ei.size) ti.size with
            | false => rw [hb] at hi; cases hi
            | true =>
              rw [hb] at hi; simp only [cond_true, Option.some.injEq, Prod.mk.injEq] at hi
              obtain ⟨rfl, rfl⟩ := hi
              have := nble_of hb
              refine ⟨rfl, ?_⟩
              rw [Nat.add_mul] at this; omega) h
          refine ⟨_, hcv, ?_⟩
          simp only [Instr.build, Sem.run_bind, hz, Result.andThen_ok, run_underlying hu, run_sizeOf' w (ok.tys el ei hel), hqs', hfill, Sem.run_pure]
      · cases h
end
end
end Go.X
