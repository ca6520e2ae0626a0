/- The operations that leave memory alone. -/
import Derived.Test.YtnmkiflnonafbaaGreatDoorE3
import Derived.Laws.BytesString
import Derived.Laws.BytesArg
import Derived.Laws.Tables
set_option linter.unusedVariables false
namespace Go.X
noncomputable section
def EvOk (e : Env) (ev : Operand → Option AV) (ρ : Operand → Value) : Prop := ∀ x v, ev x = some v → cv e v = some (ρ x)
theorem evals_cvs {e : Env} {ev : Operand → Option AV} {ρ : Operand → Value} (hev : EvOk e ev ρ) : ∀ {l : List Operand} {vs : List AV}, evals ev l = some vs → cvs e vs = some (l.map ρ) := by
 intro l
 induction l with
 | nil => intro vs h; simp only [evals, Option.some.injEq] at h; subst h; rfl
 | cons x l ih =>
  intro vs h;simp only [evals] at h;cases hx : ev x with
  | none => rw [hx] at h; cases h
  | some v =>
   rw [hx] at h;cases hl : evals ev l with
   | none => rw [hl] at h; cases h
   | some ws => rw [hl] at h; simp only [Option.some.injEq] at h; subst h; exact cvs_mk (hev x v hx) (ih hl)
theorem evalParts_cv {e : Env} {ev : Operand → Option AV} {ρ : Operand → Value} (hev : EvOk e ev ρ) : ∀ {l : List (Nat × Operand)} {ps : List (Nat × AV)}, evalParts ev l = some ps →
 ∃ qs : List (Nat × Value), qs = l.map (fun p => (p.1, ρ p.2)) ∧ ps.map (·.1) = qs.map (·.1) ∧ cvs e (ps.map (·.2)) = some (qs.map (·.2)) := by
 intro l
 induction l with
 | nil => intro vs h; simp only [evalParts, Option.some.injEq] at h; subst h; exact ⟨[], rfl, rfl, rfl⟩
 | cons x l ih =>
  obtain ⟨i, x⟩ := x;intro vs h;simp only [evalParts] at h;cases hx : ev x with
  | none => rw [hx] at h; cases h
  | some v =>
   rw [hx] at h;cases hl : evalParts ev l with
   | none => rw [hl] at h; cases h
   | some ws =>
    rw [hl] at h; simp only [Option.some.injEq] at h; subst h;obtain ⟨qs, rfl, h1, h2⟩ := ih hl;exact ⟨_, rfl, by simp at h1 ⊢; exact h1, by simpa using cvs_mk (hev x v hx) h2⟩
section
variable {P : Program} {X : XP} (ok : XPok P X) (w : World) {e : Env}
include ok in
theorem part_run {t off : Nat} {vs : List AV} {us : List Value} (hu : cvs e vs = some us) {v : AV} (h : partA vs off (X.tys.get t) = some v) :
 ∃ y, cv e v = some y ∧ (part t us.toArray off).run P w = .ok y w := by
 cases ht : X.tys.get t with
 | none => rw [ht] at h; cases h
 | some ti =>
  rw [ht] at h;have hk := ok.tys t ti ht;simp only [partA, brec] at h;cases ha : ti.isAgg with
  | false =>
   rw [ha] at h; simp only [cond_false] at h;obtain ⟨y, hy, hl⟩ := cvs_get hu _ _ h;exact ⟨y, hy, by simp [part, run_isAgg' w hk, ha, hl]⟩
  | true =>
   rw [ha] at h; simp only [cond_true] at h;cases hb : Nat.ble (off + ti.size) vs.length with
   | false => rw [hb] at h; cases h
   | true =>
    rw [hb] at h; simp only [cond_true, Option.some.injEq] at h; subst h;have hsub : ∀ (n : Nat) (vs : List AV) (us : List Value), cvs e vs = some us → cvs e (vs.drop n) = some (us.drop n) := by
     intro n
     induction n with
     | zero => intro vs us h; simpa using h
     | succ n ih =>
      intro vs us h;cases vs with
      | nil => simp only [cvs, Option.some.injEq] at h; subst h; rfl
      | cons a vs => obtain ⟨y, z, hy, hz, rfl⟩ := cvs_cons h; simpa using ih vs z hz
    have htk : ∀ (n : Nat) (vs : List AV) (us : List Value), cvs e vs = some us → cvs e (vs.take n) = some (us.take n) := by
     intro n
     induction n with
     | zero => intro vs us h; rfl
     | succ n ih =>
      intro vs us h;cases vs with
      | nil => simp only [cvs, Option.some.injEq] at h; subst h; rfl
      | cons a vs => obtain ⟨y, z, hy, hz, rfl⟩ := cvs_cons h; exact cvs_mk hy (ih vs z hz)
    refine ⟨.agg ((us.drop off).take ti.size).toArray, by simp only [cv, htk _ _ _ (hsub off _ _ hu)], ?_⟩
    simp only [part, Sem.run_bind, run_isAgg' w hk, ha, Result.andThen_ok, if_true, run_sizeOf' w hk, Sem.run_pure]
    congr 2
    simp [List.extract_eq_take_drop]
theorem fill_run {place : Nat → Option (Nat × Nat)} {placeA : Nat → Option (Nat × Nat)} {n : Nat} (hpl : ∀ i off size, placeA i = some (off, size) → place i = some (off, size) ∧ off + size ≤ n) :
 ∀ (ps : List (Nat × AV)) (qs : List (Nat × Value)) (c c' : Tr AV) (cells : Array Value), ps.map (·.1) = qs.map (·.1) → cvs e (ps.map (·.2)) = some (qs.map (·.2)) →
  cells.size = n → (∀ i, i < n → ∃ a y, c.get i = some a ∧ cv e a = some y ∧ cells[i]? = some y) → (∀ i, n ≤ i → c.get i = none) → fillA placeA c ps = some c' →
  ∃ cells', Instr.fill place cells qs = some cells' ∧ cells'.size = n ∧ (∀ i, i < n → ∃ a y, c'.get i = some a ∧ cv e a = some y ∧ cells'[i]? = some y) ∧ ∀ i, n ≤ i → c'.get i = none := by
 intro ps
 induction ps with
 | nil =>
  intro qs c c' cells h1 _ hn hc hno h;cases qs with
  | cons q qs => simp at h1
  | nil => simp only [fillA, Option.some.injEq] at h; subst h; exact ⟨cells, rfl, hn, hc, hno⟩
 | cons p ps ih =>
  intro qs c c' cells h1 h2 hn hc hno h;cases qs with
  | nil => simp at h1
  | cons q qs =>
   obtain ⟨i, v⟩ := p;obtain ⟨j, x⟩ := q;simp only [List.map_cons, List.cons.injEq] at h1;obtain ⟨rfl, h1⟩ := h1;simp only [List.map_cons] at h2;obtain ⟨y, z, hy, hz, he⟩ := cvs_cons h2;simp only [List.cons.injEq] at he;obtain ⟨rfl, rfl⟩ := he;simp only [fillA] at h;cases hp : placeA i with
   | none => rw [hp] at h; cases h
   | some r =>
    obtain ⟨off, size⟩ := r;rw [hp] at h;simp only [brec] at h;cases hb : (Nat.beq v.cells.length size && v.noSym) with
    | false => rw [hb] at h; cases h
    | true =>
     rw [hb] at h; simp only [cond_true] at h;simp only [Bool.and_eq_true] at hb;have hlen := nbeq_of hb.1;obtain ⟨g1, g2⟩ := hpl i off size hp;have hcells := cv_cells hy (fun k hk => by rw [hk] at hb; cases hb.2)
     have hsz : x.cells.size = size := by
      have := cvs_length hcells;simp only [Array.length_toList] at this;omega
     have hfold : ∀ (l : List Value) (k : Nat) (cs : Array Value), (l.zipIdx k).foldl (fun cs (p : Value × Nat) => cs.setIfInBounds (off + p.2) p.1) cs = putArr cs (off + k) l := by
      intro l
      induction l with
      | nil => intro k cs; rfl
      | cons a l ihl => intro k cs; simp only [List.zipIdx_cons, List.foldl_cons, putArr]; rw [ihl]; rfl
     have hf : (x.cells.zipIdx.foldl (fun cs (p : Value × Nat) => cs.setIfInBounds (off + p.2) p.1) cells) = putArr cells off x.cells.toList := by
      rw [← Array.foldl_toList, Array.toList_zipIdx, hfold]; rfl
     have hin : off + x.cells.toList.length ≤ cells.size := by simp; omega
     obtain ⟨cells', k1, k2, k3⟩ := ih qs (c.put off v.cells) c' (putArr cells off x.cells.toList) h1 hz (by rw [size_putArr, hn])
      (fun m hm => by
        rw [Tr.get_put, get_putArr _ _ _ _ hin]
        by_cases hr : off ≤ m ∧ m < off + v.cells.length
        ·rw [if_pos hr, if_pos (by simp; omega)]
         obtain ⟨a, ha⟩ : ∃ a, v.cells[m - off]? = some a := ⟨v.cells[m - off]'(by omega), List.getElem?_eq_getElem (by omega)⟩
         obtain ⟨y, hy', hl⟩ := cvs_get hcells _ _ ha;exact ⟨a, y, ha, hy', hl⟩
        ·rw [if_neg hr, if_neg (by simp; omega)]
         exact hc m hm) (fun m hm => by rw [Tr.get_put, if_neg (by omega)]; exact hno m hm) h
     refine ⟨cells', ?_, k2, k3⟩;simp only [Instr.fill, g1];rw [if_neg (by simp; omega)]
     exact hf ▸ k1
end
end
end Go.X

/- The operations that leave memory alone: each one's run. -/
namespace Go.X
noncomputable section
set_option linter.unusedSectionVars false
section
variable {P : Program} {X : XP} (ok : XPok P X) (w : World) {e : Env} {L : Loops} {H : AHeap} {nx : Nat} {NG : GP} (hH : HR NG e L H.objs.get nx w)
theorem tk_of {t : TypeId} {ti : TyI} (ht : TyOk P t ti) {k : TK} (hk : ti.k = k) : ∃ d, P.underlying t = some d ∧ TKok P d k := by
 obtain ⟨d, hd, h⟩ := ht.und; exact ⟨d, hd, hk ▸ h⟩
theorem tk_slice {t : TypeId} {ti : TyI} (ht : TyOk P t ti) {el : TypeId} (hk : ti.k = .slice el) : P.underlying t = some (.slice el) := by
 obtain ⟨d, hd, h⟩ := tk_of ht hk; cases d <;> simp [TKok] at h; rw [hd, h]
theorem tk_arr {t : TypeId} {ti : TyI} (ht : TyOk P t ti) {n el : TypeId} (hk : ti.k = .arr n el) : P.underlying t = some (.array n el) := by
 obtain ⟨d, hd, h⟩ := tk_of ht hk; cases d <;> simp [TKok] at h; rw [hd, h.1, h.2]
theorem tk_str {t : TypeId} {ti : TyI} (ht : TyOk P t ti) (hk : ti.k = .str) : P.underlying t = some .string := by
 obtain ⟨d, hd, h⟩ := tk_of ht hk; cases d <;> simp [TKok] at h; rw [hd]
theorem tk_int {t : TypeId} {ti : TyI} (ht : TyOk P t ti) {k : IntKind} (hk : ti.k = .int k) : P.underlying t = some (.int k) := by
 obtain ⟨d, hd, h⟩ := tk_of ht hk; cases d <;> simp [TKok] at h; rw [hd, h]
theorem tk_ptr {t : TypeId} {ti : TyI} (ht : TyOk P t ti) {el : TypeId} (hk : ti.k = .ptr el) : P.underlying t = some (.pointer el) := by
 obtain ⟨d, hd, h⟩ := tk_of ht hk; cases d <;> simp [TKok] at h; rw [hd, h]
theorem tk_struct {t : TypeId} {ti : TyI} (ht : TyOk P t ti) {gs : List FldI} (hk : ti.k = .struct gs) :
 ∃ fs : Array Field, P.underlying t = some (.struct fs) ∧ (fs.toList.map fun f => (f.offset, f.type, P.cellsOf f.type)) = gs.map (fun g => (g.off, g.ty, g.size)) := by
 obtain ⟨d, hd, h⟩ := tk_of ht hk; cases d <;> simp only [TKok] at h; exact ⟨_, hd, h⟩
theorem fld_of {t : TypeId} {ti : TyI} (ht : TyOk P t ti) {gs : List FldI} {fs : Array Field} (hu : P.underlying t = some (.struct fs))
 (hm : (fs.toList.map fun f => (f.offset, f.type, P.cellsOf f.type)) = gs.map (fun g => (g.off, g.ty, g.size))) {i : Nat} {g : FldI} (hg : gs[i]? = some g) :
 ∃ f, fs[i]? = some f ∧ f.offset = g.off ∧ f.type = g.ty ∧ (sizeOf f.type).run P w = .ok g.size w := by
 have h1 : (gs.map (fun g => (g.off, g.ty, g.size)))[i]? = some (g.off, g.ty, g.size) := by simp [hg]
 rw [← hm] at h1;simp only [List.getElem?_map, Option.map_eq_some_iff, Prod.mk.injEq] at h1;obtain ⟨f, hf, h2, h3, h4⟩ := h1;have hf' : fs[i]? = some f := by simpa using hf
 obtain ⟨inf, hinf⟩ := ht.flds fs hu f (Array.mem_of_getElem? hf');refine ⟨f, hf', h2, h3, ?_⟩;have : inf.size = g.size := by rw [← h4]; simp [Program.cellsOf, hinf]
 simp [sizeOf, run_typeInfo' w hinf, this]
include ok hH in
theorem qLoad_run {t : TypeId} {a v : AV} {va : Value} (ha : cv e a = some va) (h : qLoad X H t (some a) = some v) : ∃ y, cv e v = some y ∧ (Instr.loadAt t va).run P w = .ok y w := by
 cases a with
 | ptr b off =>
  simp only [qLoad] at h;obtain ⟨x, y, hx, hy, hr⟩ := loadV_run ok hH h;obtain ⟨x', hx', rfl⟩ := cv_ptr ha;rw [hx] at hx'; cases hx';exact ⟨y, hy, by simp only [Instr.loadAt, Instr.sureAddr, Sem.run_bind, Sem.run_pure, Result.andThen_ok, hr]⟩
 | eptr b k =>
  simp only [qLoad] at h;unfold loadArg at h;cases ht : X.tys.get t with
  | none => rw [ht] at h; cases h
  | some ti =>
   have hk := ok.tys t ti ht;rw [ht] at h;simp only [brec] at h;cases hg : ti.isAgg with
   | true => rw [hg] at h; cases h
   | false =>
    rw [hg] at h;simp only [cond_false] at h;unfold argCell at h
    split at h
    ·rename_i cells hb;obtain ⟨x, hx, c, el, fz, h1, h2⟩ := hH.live _ _ hb;obtain ⟨y, hy, hc⟩ := h2 k v h;obtain ⟨x', hx', rfl⟩ := cv_eptr ha;rw [hx] at hx'; cases hx';refine ⟨y, hy, ?_⟩;have hc1 : w.cell? ⟨x.1, x.2 + k, none⟩ = some y := by simp [World.cell?, h1, hc]
     simp [Instr.loadAt, Instr.sureAddr, loadVar, run_isAgg' w hk, hg, hc1]
    ·cases h
 | _ => simp [qLoad] at h
theorem bytesOfCells_of : ∀ {cs : List AV} {l : List Nat}, bytesOfCells cs = some l → ∃ ns : List Int, cvs e cs = some (ns.map (Value.int .u8)) ∧ l = ns.map (fun n => n.toNat % 256) := by
 intro cs
 induction cs with
 | nil => intro l h; simp only [bytesOfCells, Option.some.injEq] at h; subst h; exact ⟨[], rfl, rfl⟩
 | cons c cs ih =>
  intro l h;unfold bytesOfCells at h
  split at h
  ·rename_i heq; cases heq
  ·rename_i n l' heq;injection heq with h1 h2;subst h1; subst h2;cases hr : bytesOfCells cs with
   | none => rw [hr] at h; cases h
   | some r =>
    rw [hr] at h; simp only [Option.some.injEq] at h; subst h;obtain ⟨ns, h1, h2⟩ := ih hr;exact ⟨n :: ns, cvs_mk rfl h1, by rw [h2]; rfl⟩
  ·cases h
theorem strOfNums_bytes (ns : List Int) : ns.foldl (fun r n => r.push (UInt8.ofNat n.toNat)) ByteArray.empty = bytesOf (ns.map (fun n => n.toNat % 256)) := by
 have key : ∀ (ns : List Int) (s : List Nat), ns.foldl (fun r n => r.push (UInt8.ofNat n.toNat)) (bytesOf s) = bytesOf (s ++ ns.map (fun n => n.toNat % 256)) := by
  intro ns
  induction ns with
  | nil => intro s; simp
  | cons n ns ih =>
   intro s;have : (bytesOf s).push (UInt8.ofNat n.toNat) = bytesOf (s ++ [n.toNat % 256]) := by
    apply ByteArray.ext;simp [bytesOf, ByteArray.push];apply UInt8.toNat_inj.1; simp
   simp only [List.foldl_cons, this, ih]; simp
 have h0 : (ByteArray.empty : ByteArray) = bytesOf [] := rfl;rw [h0]; simpa using key ns []
theorem tk_uptr {t : TypeId} {ti : TyI} (ht : TyOk P t ti) (hk : ti.k = .uptr) : P.underlying t = some .unsafePointer := by
 obtain ⟨d, hd, h⟩ := tk_of ht hk; cases d <;> simp [TKok] at h; rw [hd]
theorem tk_map {t : TypeId} {ti : TyI} (ht : TyOk P t ti) {k el : TypeId} (hk : ti.k = .map k el) : P.underlying t = some (.map k el) := by
 obtain ⟨d, hd, h⟩ := tk_of ht hk; cases d <;> simp [TKok] at h; rw [hd, h.1, h.2]
theorem liesAt_self {u count : Nat} (h0 : P.cellsOf u ≠ 0) (h1 : 1 ≤ count) : liesAt P P.depth u count 0 u 1 = true := by
 have hd : P.depth = (P.depth - 1) + 1 := by simp [Program.depth]
 rw [hd];simp only [liesAt, Bool.or_eq_true];left;rw [hd];simp only [rowAt, if_neg h0, Bool.or_eq_true];left;simp [h1, sameLayout]
theorem cellsOf_of {t : TypeId} {ti : TyI} (ht : TyOk P t ti) : P.cellsOf t = ti.size := by
 obtain ⟨i, hi, hs, _⟩ := ht.info; simp [Program.cellsOf, hi, hs]
theorem seenAt_cells {a : Addr} {c : Array Value} {el : TypeId} {fz : Nat × Nat} (h : w.heap[a.block]? = some (.cells c el fz)) : (Conv.seenAt a).run P w = .ok a w := by
 simp [Conv.seenAt, viewAt, World.shape?, h]
theorem conv_to {s d e : TypeId} {ei : TyI} (hs : P.underlying s = some (.pointer e)) (hd : P.underlying d = some .unsafePointer) (he : TyOk P e ei) (hpos : 0 < ei.size) {B off : Nat} {c : Array Value} {el : TypeId} {fz : Nat × Nat}
 (h : w.heap[B]? = some (.cells c el fz)) (hoff : off < c.size) : (convert s d (.pointer (some ⟨B, off, none⟩))).run P w = .ok (.pointer (some ⟨B, off, none⟩)) w := by
 have h1 := seenAt_cells (P := P) w (a := ⟨B, off, none⟩) h;have h2 := run_sizeOf' (P := P) w he;have h3 : ¬ ei.size = 0 := by omega
 have h4 : ¬ c.size ≤ off := by omega
 simp [convert, run_underlying hs, run_underlying hd, Conv.unsafePointer, h1, h2, h3, cellsIn, World.shape?, h, h4]
theorem conv_from {s d u : TypeId} {ei : TyI} (hs : P.underlying s = some .unsafePointer) (hd : P.underlying d = some (.pointer u)) (he : TyOk P u ei) (hpos : 0 < ei.size) {B : Nat} {c : Array Value} {fz : Nat × Nat}
 (h : w.heap[B]? = some (.cells c u fz)) (hsz : ei.size ≤ c.size) : (convert s d (.pointer (some ⟨B, 0, none⟩))).run P w = .ok (.pointer (some ⟨B, 0, none⟩)) w := by
 have h1 := seenAt_cells (P := P) w (a := ⟨B, 0, none⟩) h;have h2 := run_sizeOf' (P := P) w he;have h3 : ¬ ei.size = 0 := by omega
 have hc := cellsOf_of he;have h4 := liesAt_self (P := P) (u := u) (count := c.size / P.cellsOf u) (by omega) (by rw [hc]; exact (Nat.le_div_iff_mul_le hpos).2 (by omega))
 simp [convert, run_underlying hs, run_underlying hd, Conv.unsafePointer, h1, h2, h3, variablesAt, World.shape?, h, h4]
include ok hH in
theorem qConvert_run {s d : TypeId} {a v : AV} {va : Value} (ha : cv e a = some va) (h : qConvert X H (X.tys.get s) (X.tys.get d) (some a) = some v) :
 ∃ y, cv e v = some y ∧ (convert s d va).run P w = .ok y w := by
 cases hs : X.tys.get s with
 | none => rw [hs] at h; simp [qConvert] at h
 | some si =>
  cases hd : X.tys.get d with
  | none => rw [hs, hd] at h; simp [qConvert] at h
  | some di =>
   rw [hs, hd] at h;have ks := ok.tys s si hs;have kd := ok.tys d di hd;simp only [qConvert] at h;obtain ⟨sd, hsd, _⟩ := ks.und;unfold qConvert2 at h
   split at h
   ·rename_i k n;cases cv_int ha;cases hdk : di.k <;> rw [hdk] at h <;> simp only [convInt, reduceCtorEq, Option.some.injEq] at h
    subst h;refine ⟨_, rfl, ?_⟩;simp [convert, run_underlying hsd, run_underlying (tk_int kd hdk), Conv.intToInt, fwrap_eq]
   ·rename_i i c;have hval : c.val (e.sy i) = some va := ha;have run : ∀ {k k' : IntKind} {n : Int}, di.k = .int k' → fwrap k' n = n → (convert s d (.int k n)).run P w = .ok (.int k' n) w := by
     intro k k' n hdk hw;simp [convert, run_underlying hsd, run_underlying (tk_int kd hdk), Conv.intToInt, ← fwrap_eq, hw]
    have run8 : ∀ {k : IntKind} {n : Nat}, di.k = .int .u8 → (convert s d (.int k (Int.ofNat n))).run P w = .ok (.int .u8 (Int.ofNat (n % 256))) w := by
     intro k n hdk;have h1 : fwrap .u8 (Int.ofNat n) = Int.ofNat (n % 256) := by
      by_cases hlt : n < 256
      ·rw [fwrap_nat (show n < kTop .u8 from hlt), Nat.mod_eq_of_lt hlt]
      ·have hb : Nat.blt n (kTop .u8) = false := by rw [nblt_eq]; exact decide_eq_false hlt
       unfold fwrap;simp only [hb];exact wrapN_nat (show n % 256 < kTop .u8 from Nat.mod_lt _ (by decide))
     have h2 : fwrap .u8 (n : Int) = (n : Int) % 256 := by rw [show (n : Int) = Int.ofNat n from rfl, h1]; rfl
     simp [convert, run_underlying hsd, run_underlying (tk_int kd hdk), Conv.intToInt, ← fwrap_eq, h2]
    unfold convRes at h
    split at h
    ·rename_i k lo hi k' hdk;obtain ⟨n, rfl, hn⟩ := val_rng hval;unfold convRng at h
     split at h
     ·rename_i l hh;simp only [brec] at h;cases hb : Nat.blt hh (kTop k') with
      | false => rw [hb] at h; cases h
      | true =>
       rw [hb] at h; simp only [cond_true] at h;have hlt := nblt_of hb;obtain ⟨m, rfl⟩ : ∃ m : Nat, n = Int.ofNat m := ⟨n.toNat, by have h1 := hn.1; simp at h1 ⊢; omega⟩
       have hm : l ≤ m ∧ m ≤ hh := ⟨Int.ofNat_le.1 hn.1, Int.ofNat_le.1 hn.2⟩;have hw : fwrap k' (Int.ofNat m) = Int.ofNat m := fwrap_nat (by omega)
       cases hk : kEq k k' with
       | true =>
        rw [hk] at h; simp only [cond_true, Option.some.injEq] at h; subst h;obtain rfl := kEq_of hk;exact ⟨_, hval, run hdk hw⟩
       | false =>
        rw [hk] at h; simp only [cond_false, Option.some.injEq] at h; subst h;have hs : e.sy i = .int k (Int.ofNat m) := by
         cases hq : e.sy i <;> rw [hq] at hval <;> first
          | (simp [RC.val] at hval; done)
          | (simp only [RC.val] at hval
             split at hval
             ·simp_all
             ·cases hval)
        exact ⟨_, nat_cv hs hm, run hdk hw⟩
     ·cases h
    ·rename_i k0 f lo hi k' hdk;obtain ⟨kk, N, hs, hr, rfl⟩ := val_nat hval;cases f with
     | full =>
      simp only [convNat, brec] at h;cases hb : Nat.blt hi (kTop k') with
      | true =>
       rw [hb] at h; simp only [cond_true, Option.some.injEq] at h; subst h;have hlt := nblt_of hb;exact ⟨_, nat_cv hs hr, run hdk (fwrap_nat (by show N < _; omega))⟩
      | false =>
       rw [hb] at h; simp only [cond_false] at h;cases h8 : isU8 k' with
       | false => rw [h8] at h; cases h
       | true =>
        rw [h8] at h; simp only [cond_true, Option.some.injEq] at h; subst h;have : k' = .u8 := by cases k' <;> first | rfl | cases h8
        subst this;refine ⟨_, nat_cv hs hr, ?_⟩;rw [run8 hdk]; simp [hfv]
     | sh s0 =>
      simp only [convNat, brec] at h;cases h8 : (isU8 k' && Nat.beq (Nat.mod s0 8) 0) with
      | false => rw [h8] at h; cases h
      | true =>
       rw [h8] at h; simp only [cond_true, Option.some.injEq] at h; subst h;simp only [Bool.and_eq_true] at h8;have : k' = .u8 := by have := h8.1; cases k' <;> first | rfl | cases this
       subst this;have hm : s0 % 8 = 0 := nbeq_of h8.2;have hd8 : 8 * (s0 / 8) = s0 := by omega
       refine ⟨_, nat_cv hs hr, ?_⟩;rw [run8 hdk];simp only [hfv, show Nat.div s0 8 = s0 / 8 from rfl, hd8]
     | byt j =>
      simp only [convNat, brec] at h;cases hb : Nat.ble 256 (kTop k') with
      | false => rw [hb] at h; cases h
      | true =>
       rw [hb] at h; simp only [cond_true, Option.some.injEq] at h; subst h;have hle := nble_of hb;exact ⟨_, nat_cv hs hr, run hdk (fwrap_nat (by show N / 2 ^ (8 * j) % 256 < _; have := Nat.mod_lt (N / 2 ^ (8 * j)) (show 0 < 256 by decide); omega))⟩
     | bs j =>
      simp only [convNat, brec] at h;cases hb : Nat.ble (Nat.pow 2 (8 * (j + 1))) (kTop k') with
      | false => rw [hb] at h; cases h
      | true =>
       rw [hb] at h; simp only [cond_true, Option.some.injEq] at h; subst h;have hle : 2 ^ (8 * (j + 1)) ≤ kTop k' := nble_of hb;exact ⟨_, nat_cv hs hr, run hdk (fwrap_nat (Nat.lt_of_lt_of_le (byte_lt N j) hle))⟩
     | lw j =>
      simp only [convNat, brec] at h;cases hb : Nat.ble (Nat.pow 2 (8 * j)) (kTop k') with
      | false => rw [hb] at h; cases h
      | true =>
       rw [hb] at h; simp only [cond_true, Option.some.injEq] at h; subst h;have hle : 2 ^ (8 * j) ≤ kTop k' := nble_of hb;exact ⟨_, nat_cv hs hr, run hdk (fwrap_nat (Nat.lt_of_lt_of_le (Nat.mod_lt _ (Nat.pow_pos (by decide))) hle))⟩
    ·cases h
   ·rename_i hni hnr;unfold convOther at h
    split at h
    ·rename_i t h1 h2;simp only [cv, Option.some.injEq] at ha; subst ha;simp only [Option.some.injEq] at h; subst h;refine ⟨_, rfl, ?_⟩;simp [convert, run_underlying (tk_ptr ks h1), run_underlying (tk_uptr kd h2), Conv.unsafePointer]
    ·rename_i t h1 h2;simp only [cv, Option.some.injEq] at ha; subst ha;simp only [Option.some.injEq] at h; subst h;refine ⟨_, rfl, ?_⟩;simp [convert, run_underlying (tk_uptr ks h1), run_underlying (tk_ptr kd h2), Conv.unsafePointer]
    ·rename_i t b off h1 h2;obtain ⟨x, hx, rfl⟩ := cv_ptr ha;unfold convTo at h
     split at h
     ·rename_i ei hei;simp only [brec] at h;cases hc : (Nat.blt 0 ei.size && cellIn off (H.objs.get b)) with
      | false => rw [hc] at h; cases h
      | true =>
       rw [hc] at h; simp only [cond_true, Option.some.injEq] at h; subst h;simp only [Bool.and_eq_true] at hc;have hc2 := hc.2;unfold cellIn at hc2
       split at hc2
       ·rename_i el ro sz cells hb;obtain ⟨y, hy, c, fz, g1, g2, g3, g4⟩ := hH.live b _ hb;rw [hx] at hy; cases hy;exact ⟨_, ha, conv_to w (tk_ptr ks h1) (tk_uptr kd h2) (ok.tys _ _ hei) (nblt_of hc.1) g1 (Nat.lt_of_lt_of_le (nblt_of hc2) g3.least)⟩
       ·cases hc2
     ·cases h
    ·rename_i u b off h1 h2;obtain ⟨x, hx, rfl⟩ := cv_ptr ha;unfold convFrom at h
     split at h
     ·rename_i ei hei;simp only [brec] at h;cases hc : typedAt u ei.size off (H.objs.get b) with
      | false => rw [hc] at h; cases h
      | true =>
       rw [hc] at h; simp only [cond_true, Option.some.injEq] at h; subst h;unfold typedAt at hc
       split at hc
       ·rename_i el sz cells hb;simp only [Bool.and_eq_true] at hc;obtain ⟨⟨⟨hc1, hc2⟩, hc3⟩, hc4⟩ := hc;obtain rfl := nbeq_of hc1;obtain rfl := nbeq_of hc2;obtain ⟨y, hy, c, fz, g1, g2, g3, g4⟩ := hH.live b _ hb;rw [hx] at hy; cases hy;exact ⟨_, ha, conv_from w (tk_uptr ks h1) (tk_ptr kd h2) (ok.tys _ _ hei) (nblt_of hc3) g1 (Nat.le_trans (nble_of hc4) g3.least)⟩
       ·cases hc
     ·cases h
    ·rename_i l h1 h2;obtain ⟨hl, rfl⟩ := cv_str ha;simp only [Option.some.injEq] at h; subst h;refine ⟨_, ha, ?_⟩;simp [convert, run_underlying (tk_str ks h1), run_underlying (tk_str kd h2)]
    ·rename_i el h1 h2;simp only [brec] at h;cases hb : isByte (X.tys.get el) with
     | false => rw [hb] at h; cases h
     | true =>
      rw [hb] at h; simp only [cond_true, Option.some.injEq] at h; subst h;have hel : P.underlying el = some (.int .u8) := by
       unfold isByte at hb; split at hb
       ·rename_i size bytes zero cmp heq; exact tk_int (ok.tys el _ heq) rfl
       ·cases hb
      simp only [cv, Option.some.injEq] at ha; subst ha;refine ⟨_, cv_str_mk e (by simp), ?_⟩
      have := run_convert_bytes_nil (P := P) w s el (tk_slice ks h1) hel 0 0 d (tk_str kd h2);rw [this]; rfl
    ·rename_i el b off len c h1 h2;simp only [brec] at h;cases hb : isByte (X.tys.get el) with
     | false => rw [hb] at h; cases h
     | true =>
      rw [hb] at h; simp only [cond_true] at h;have hel : P.underlying el = some (.int .u8) := by
       unfold isByte at hb; split at hb
       ·rename_i size bytes zero cmp heq; exact tk_int (ok.tys el _ heq) rfl
       ·cases hb
      obtain ⟨x, hx, rfl⟩ := cv_sl ha;unfold convBytes at h;cases hg : getCells H b off len with
      | none => rw [hg] at h; cases h
      | some cs =>
       rw [hg] at h;simp only [Option.map_eq_some_iff] at h;obtain ⟨l, hl, rfl⟩ := h;obtain ⟨x', xs, hx', hxs, hn, hc⟩ := getCells_cv hH hg;rw [hx] at hx'; cases hx';obtain ⟨ns, hns, rfl⟩ := bytesOfCells_of (e := e) hl;rw [hxs] at hns; simp only [Option.some.injEq] at hns; subst hns;refine ⟨_, cv_str_mk e (fun b hb => by simp at hb; obtain ⟨n, _, rfl⟩ := hb; omega), ?_⟩
       have hload := run_loadCells_list (P := P) w ⟨x.1, off, none⟩ (ns.map (Value.int .u8)) (fun j v hj => by rw [add_none]; exact hc j v hj)
       rw [hn] at hload;rw [run_convert_bytes_string w s d el _ _ _ (tk_slice ks h1) hel (tk_str kd h2), run_bytesToString w _ _ _ ns hload, strOfNums_bytes]
    ·cases h
include ok in
theorem qIface_run {t : TypeId} {a v : AV} {va : Value} (ha : cv e a = some va) (h : qIface t (X.tys.get t) (some a) = some v) : ∃ y, cv e v = some y ∧ (Instr.makeInterface t va).run P w = .ok y w := by
 cases ht : X.tys.get t with
 | none => rw [ht] at h; simp [qIface] at h
 | some ti =>
  rw [ht] at h;have hk := ok.tys t ti ht;simp only [qIface, brec] at h;cases hc : isConcrete ti.k with
  | false => rw [hc] at h; cases h
  | true =>
   rw [hc] at h; simp only [cond_true, Option.some.injEq] at h; subst h;obtain ⟨d, hd, hdk⟩ := hk.und;refine ⟨.iface t va, by simp only [cv, ha], ?_⟩
   cases d <;> cases htk : ti.k <;> rw [htk] at hdk hc <;> simp [TKok, isConcrete] at hdk hc <;> simp [Instr.makeInterface, run_underlying hd]
theorem take_all {c : Tr AV} {n : Nat} {cells : Array Value} (hn : cells.size = n) (hc : ∀ i, i < n → ∃ a y, c.get i = some a ∧ cv e a = some y ∧ cells[i]? = some y) {l : List AV} (h : c.take 0 n = some l) : cvs e l = some cells.toList := by
 obtain ⟨hl, hg⟩ := Tr.take_some h;have key : ∀ (l : List AV) (k : Nat), (∀ i, i < l.length → c.get (k + i) = l[i]?) → k + l.length = n → cvs e l = some (cells.toList.drop k) := by
  intro l
  induction l with
  | nil => intro k _ hk; simp only [cvs, Option.some.injEq]; symm; apply List.drop_eq_nil_of_le; simp at hk ⊢; omega
  | cons a l ih =>
   intro k hk hlen;simp only [List.length_cons] at hlen;have h0 := hk 0 (by simp)
   simp only [Nat.add_zero, List.getElem?_cons_zero] at h0;obtain ⟨a', y, ha, hy, hcy⟩ := hc k (by omega)
   rw [h0] at ha; cases ha
   have hr := ih (k + 1) (fun i hi => by
    have := hk (i + 1) (by simpa using hi)
    rw [show k + 1 + i = k + (i + 1) by omega, this]; simp) (by omega)
   have : cells.toList.drop k = y :: cells.toList.drop (k + 1) := by
    rw [List.drop_eq_getElem_cons (by simp; omega)]
    congr 1
    have := hcy;rw [Array.getElem?_eq_getElem (by omega)] at this
    simpa using this
   rw [this]; exact cvs_mk hy hr
 simpa using key l 0 (fun i hi => by simpa using hg i (by omega)) (by omega)
theorem put_all {l : List AV} {xs : List Value} (h : cvs e l = some xs) : ∀ i, i < l.length → ∃ a y, (Tr.put .nil 0 l).get i = some a ∧ cv e a = some y ∧ xs.toArray[i]? = some y := by
 intro i hi;rw [Tr.get_put, if_pos (by omega)]
 obtain ⟨y, hy, hx⟩ := cvs_get h i l[i] (by simp [hi])
 exact ⟨l[i], y, by simp [hi], hy, by simpa using hx⟩
theorem put_none {l : List AV} {n : Nat} (h : l.length ≤ n) : ∀ i, n ≤ i → (Tr.put .nil 0 l).get i = none := by
 intro i hi;rw [Tr.get_put, if_neg (by omega)]; rfl
include ok in
theorem qBuild_run {t : TypeId} {parts : Array (Nat × Operand)} {ev : Operand → Option AV} {ρ : Operand → Value} (hev : EvOk e ev ρ) {v : AV} (h : qBuild X (X.tys.get t) (evalParts ev parts.toList) = some v) :
 ∃ y, cv e v = some y ∧ (Instr.build t (parts.map fun (i, x) => (i, ρ x))).run P w = .ok y w := by
 cases ht : X.tys.get t with
 | none => rw [ht] at h; simp [qBuild] at h
 | some ti =>
  rw [ht] at h;cases hp : evalParts ev parts.toList with
  | none => rw [hp] at h; simp [qBuild] at h
  | some ps =>
   rw [hp] at h;simp only [qBuild] at h;have hk := ok.tys t ti ht;obtain ⟨qs, hqs, hp1, hp2⟩ := evalParts_cv hev hp;have hqs' : (parts.map fun (i, x) => (i, ρ x)).toList = qs := by rw [hqs]; simp
   obtain ⟨z, hz, hzc, _⟩ := run_zeroValue' w hk e;have hzl : z.cells.size = ti.size := by have := cvs_length hzc; simp at this; rw [this, hk.len]
   have hinit := put_all hzc;rw [hk.len] at hinit;simp only [Array.toArray_toList] at hinit;have fin : ∀ {pa : Nat → Option (Nat × Nat)} {pl : Nat → Option (Nat × Nat)}, (∀ i off size, pa i = some (off, size) → pl i = some (off, size) ∧ off + size ≤ ti.size) →
    asAggA ti.size (fillA pa (Tr.put .nil 0 ti.zero) ps) = some v → ∃ cells, Instr.fill pl z.cells qs = some cells ∧ cv e v = some (.agg cells) := by
    intro pa pl hpl hh;cases hf : fillA pa (Tr.put .nil 0 ti.zero) ps with
    | none => rw [hf] at hh; simp [asAggA] at hh
    | some c =>
     rw [hf] at hh;simp only [asAggA, Option.map_eq_some_iff] at hh;obtain ⟨l, hl, rfl⟩ := hh;obtain ⟨cells, h1, h2, h3, _⟩ := fill_run hpl ps qs _ c z.cells hp1 hp2 hzl hinit (put_none (by rw [hk.len]; exact Nat.le_refl _)) hf
     exact ⟨cells, h1, by simp only [cv, take_all h2 h3 hl]⟩
   unfold qBuild2 at h
   split at h
   ·rename_i gs htk;obtain ⟨fs, hu, hm⟩ := tk_struct hk htk;have hplaces : ∀ (l : List Field), (∀ f ∈ l, f ∈ fs) → l.mapM (fun f => (P.info? f.type).map fun i => (f.offset, i.size)) = some (l.map fun f => (f.offset, P.cellsOf f.type)) := by
     intro l
     induction l with
     | nil => intro _; rfl
     | cons f l ih =>
      intro hl;obtain ⟨inf, hinf⟩ := hk.flds fs hu f (hl f (by simp))
      rw [List.mapM_cons, ih (fun f hf => hl f (by simp [hf])), hinf]
      simp [Program.cellsOf, hinf]
    have hrun := run_places (P := P) w fs.toList _ (hplaces fs.toList (fun f hf => by simpa using hf))
    obtain ⟨cells, hfill, hcv⟩ := fin (pl := fun i => (fs.toList.map fun f => (f.offset, P.cellsOf f.type)).toArray[i]?) (fun i off size hi => by
     simp only [fldPlace] at hi;cases hg : gs[i]? with
     | none => rw [hg] at hi; simp [fldAt] at hi
     | some g =>
      rw [hg] at hi;simp only [fldAt, brec] at hi;cases hb : Nat.ble (g.off + g.size) ti.size with
      | false => rw [hb] at hi; cases hi
      | true =>
       rw [hb] at hi; simp only [cond_true, Option.some.injEq, Prod.mk.injEq] at hi;obtain ⟨rfl, rfl⟩ := hi;have h1 : (gs.map (fun g => (g.off, g.ty, g.size)))[i]? = some (g.off, g.ty, g.size) := by simp [hg]
       rw [← hm] at h1;simp only [List.getElem?_map, Option.map_eq_some_iff, Prod.mk.injEq] at h1;obtain ⟨f, hf, h2, _, h4⟩ := h1;refine ⟨?_, nble_of hb⟩
       simp only [List.getElem?_toArray, List.getElem?_map, hf, Option.map_some, h2, h4]) h
    refine ⟨_, hcv, ?_⟩;have hfill' := hfill;simp only [Instr.build, Sem.run_bind, hz, Result.andThen_ok, run_underlying hu, Array.mapM_eq_mapM_toList];simp only [bind_pure_comp, Sem.run_map, hrun, Result.andThen_ok, hqs', hfill', Sem.run_pure]
   ·rename_i n el htk;have hu := tk_arr hk htk;unfold qBuildArr at h;cases hel : X.tys.get el with
    | none => rw [hel] at h; cases h
    | some ei =>
     rw [hel] at h;simp only at h
     obtain ⟨cells, hfill, hcv⟩ := fin (pl := fun i => some (i * ei.size, ei.size)) (fun i off size hi => by
      simp only [arrPlace, brec] at hi;cases hb : Nat.ble ((i + 1) * ei.size) ti.size with
      | false => rw [hb] at hi; cases hi
      | true =>
       rw [hb] at hi; simp only [cond_true, Option.some.injEq, Prod.mk.injEq] at hi;obtain ⟨rfl, rfl⟩ := hi;have := nble_of hb;refine ⟨rfl, ?_⟩
       rw [Nat.add_mul] at this; omega) h
     refine ⟨_, hcv, ?_⟩;simp only [Instr.build, Sem.run_bind, hz, Result.andThen_ok, run_underlying hu, run_sizeOf' w (ok.tys el ei hel), hqs', hfill, Sem.run_pure]
   ·cases h
end
end
end Go.X

/- Maps, of keys that are numbers or strings: looking up, iterators' entries; pointers held against themselves. -/
namespace Go.X
noncomputable section
set_option linter.unusedSectionVars false
theorem bytesOf_beq {a b : List Nat} (ha : ∀ x ∈ a, x < 256) (hb : ∀ x ∈ b, x < 256) : strEq a b = (bytesOf a == bytesOf b) := by
 rw [strEq_eq a b ha hb, beq_toListBytes, bytesOf_toList, bytesOf_toList]
section
variable {P : Program} {X : XP} (ok : XPok P X) (w : World) {e : Env} {L : Loops} {H : AHeap} {nx : Nat} {NG : GP} (hH : HR NG e L H.objs.get nx w)
def notCells : Obj → Bool
 | .cells .. => false
 | _ => true
theorem getObj_at {r : Nat} {o : Obj} (h : w.heap[r]? = some o) (hc : notCells o = true := by rfl) : (getObj r).run P w = .ok o w := by
 cases o <;> first | (cases hc; done) | simp [getObj, Sem.run, h]
theorem setObj_at {r : Nat} {o o' : Obj} (h : w.heap[r]? = some o) (hc : notCells o = true := by rfl) : (setObj r o').run P w = .ok () { w with heap := w.heap.setIfInBounds r o' } := by
 cases o <;> first | (cases hc; done) | simp [setObj, Sem.run, h]
theorem sameA_run {d : TypeDesc} {tk : TK} (hk : TKok P d tk) {k m : AV} {b : Bool} (h : sameA tk k m = some b) {vk vm : Value} (hck : cv e k = some vk) (hcm : cv e m = some vm) :
 Instr.sameNow d vk vm = some b := by
 unfold sameA at h
 split at h
 ·rename_i k0 k1 a k2 c;cases d <;> simp only [TKok] at hk
  cases cv_int hck; cases cv_int hcm;simp only [brec] at h;cases hkk : kEq k1 k2 with
  | false => rw [hkk] at h; cases h
  | true =>
   rw [hkk] at h; simp only [cond_true, Option.some.injEq, iEq_eq] at h;obtain rfl := kEq_of hkk;simp [Instr.sameNow, h]
 ·cases d <;> simp only [TKok] at hk
  obtain ⟨ha, rfl⟩ := cv_str hck;obtain ⟨hb, rfl⟩ := cv_str hcm;simp only [Option.some.injEq] at h;rw [bytesOf_beq ha hb] at h;simp [Instr.sameNow, h]
 ·cases h
def FindR (e : Env) (es : List ME) (xs : List MapEntry) : Option (Nat × AV) → Option (Nat × Value) → Prop
 | none, r => r = none
 | some p, r => ∃ y, r = some (p.1, y) ∧ cv e p.2 = some y
theorem findA_run {d : TypeDesc} {tk : TK} (hk : TKok P d tk) {k : AV} {vk : Value} (hck : cv e k = some vk) : ∀ {es : List ME} {xs : List MapEntry} (_ : MEsOk e es xs) (i : Nat) {r : Option (Nat × AV)},
 findA tk k i es = some r → ∃ r', Instr.findNow d vk xs i = some r' ∧ FindR e es xs r r'
 | [], [], _, i, r, h => by
  simp only [findA, Option.some.injEq] at h; subst h;exact ⟨none, rfl, rfl⟩
 | m :: es, x :: xs, hm, i, r, h => by
  simp only [findA] at h;cases hs : sameA tk k m.key with
  | none => rw [hs] at h; cases h
  | some b =>
   rw [hs] at h;have h1 := sameA_run (P := P) hk hs hck hm.1.1;cases b with
   | true =>
    simp only [findK, Option.some.injEq] at h; subst h;exact ⟨some (i, x.val), by simp only [Instr.findNow, h1], x.val, rfl, hm.1.2.1⟩
   | false =>
    simp only [findK] at h;obtain ⟨r', h2, h3⟩ := findA_run hk hck hm.2 (i + 1) h;refine ⟨r', by simp only [Instr.findNow, h1, h2], ?_⟩
    cases r with
    | none => exact h3
    | some p => exact h3
 | [], _ :: _, hm, _, _, _ => hm.elim
 | _ :: _, [], hm, _, _, _ => hm.elim
theorem isKey_plain {t : TypeId} {ti : TyI} (ht : TyOk P t ti) (hk : isKey ti.k = true) (b : Bool) (v : Value) : (Instr.checkKey b 10000 t v).run P w = .ok () w := by
 obtain ⟨d, hd, hdk⟩ := ht.und;have h1 : Instr.checkKey b 10000 t v = Instr.checkKey b (9999 + 1) t v := rfl;rw [h1];generalize 9999 = n;cases htk : ti.k <;> rw [htk] at hk hdk <;> simp [isKey] at hk
 all_goals (cases d <;> simp [TKok] at hdk)
 all_goals (cases v <;> simp [Instr.checkKey, run_underlying hd])
theorem findKey_run {t : TypeId} {ti : TyI} (ht : TyOk P t ti) {k : AV} {vk : Value} (hck : cv e k = some vk) {es : List ME} {xs : List MapEntry} (hm : MEsOk e es xs) {r : Option (Nat × AV)}
 (h : findA ti.k k 0 es = some r) : ∃ r', (Instr.findKey t vk xs).run P w = .ok r' w ∧ FindR e es xs r r' := by
 obtain ⟨d, hd, hdk⟩ := ht.und;obtain ⟨r', h1, h2⟩ := findA_run (P := P) hdk hck hm 0 h;exact ⟨r', by simp [Instr.findKey, run_underlying hd, h1], h2⟩
theorem zeroOf_run {t : TypeId} {ti : TyI} (ht : TyOk P t ti) {v : AV} (h : zeroOf ti = some v) : ∃ z, (zeroValue t).run P w = .ok z w ∧ cv e v = some z := by
 obtain ⟨i, hi, hs, _, z, hz, hc⟩ := ht.info;obtain ⟨i', z', hi', hz', hzk⟩ := ht.zk;rw [hi] at hi'; cases hi';rw [hz] at hz'; cases hz';refine ⟨z, by simp [zeroValue, run_typeInfo' w hi, hz], ?_⟩
 have hcv := (ofConsts_cvs e hc).1;unfold zeroOf at h;simp only [brec] at h;cases ha : ti.isAgg with
 | true =>
  rw [ha] at h hzk; simp only [cond_true, Option.some.injEq] at h; subst h;cases z <;> simp [isAggV] at hzk
  simp only [cv];rw [hcv];simp [Value.cells]
 | false =>
  rw [ha] at h hzk; simp only [cond_false] at h;have hone : z.cells.toList = [z] := by cases z <;> simp [isAggV] at hzk <;> rfl
  rw [hone] at hcv
  split at h
  ·rename_i v' hz0;simp only [Option.some.injEq] at h; subst h;rw [hz0] at hcv;obtain ⟨y, q, hy, hq, he⟩ := cvs_cons hcv;simp only [List.cons.injEq] at he;rw [hy, ← he.1]
  ·cases h
def MapIs (w : World) (vx : Value) (xs : Array MapEntry) : Prop := (vx = .map none ∧ xs = #[]) ∨ ∃ r c, vx = .map (some r) ∧ w.heap[r]? = some (.map xs c)
include hH in
theorem mapEs_run {x : AV} {vx : Value} (hx : cv e x = some vx) {es : List ME} (h : mapEs H x = some es) : ∃ xs, MEsOk e es xs.toList ∧ MapIs w vx xs := by
 unfold mapEs at h
 split at h
 ·simp only [Option.some.injEq] at h; subst h;simp only [cv, Option.some.injEq] at hx; subst hx;exact ⟨#[], trivial, .inl ⟨rfl, rfl⟩⟩
 ·obtain ⟨y, hy, rfl⟩ := cv_mpr hx
  split at h
  ·rename_i es' c hb;simp only [Option.some.injEq] at h; subst h;obtain ⟨y', hy', xs, g1, g2⟩ := hH.live _ _ hb;rw [hy] at hy'; cases hy';exact ⟨xs, g2, .inr ⟨_, _, rfl, g1⟩⟩
  ·cases h
 ·cases h
theorem lookup_of {t kty el : TypeId} {vx vk : Value} {xs : Array MapEntry} (hv : MapIs w vx xs) (hu : P.underlying t = some (.map kty el)) (hck : ∀ b, (Instr.checkKey b 10000 kty vk).run P w = .ok () w) {r' : Option (Nat × Value)}
 (hr' : (Instr.findKey kty vk xs.toList).run P w = .ok r' w) (b : Bool) :
 (Instr.lookup t vx vk b).run P w = (match r' with | some p => .ok (if b = true then .tuple #[p.2, .bool true] else p.2) w | none => ((zeroValue el).run P w).andThen fun z w' => .ok (if b = true then .tuple #[z, .bool false] else z) w') := by
 rcases hv with ⟨rfl, rfl⟩ | ⟨r, c, rfl, hr⟩
 ·simp only [Instr.lookup, Sem.run_bind, run_underlying hu, Result.andThen_ok, Sem.run_pure, hck, hr'];cases r' <;> simp
 ·simp only [Instr.lookup, Sem.run_bind, run_underlying hu, Result.andThen_ok, getObj_at (P := P) w hr, Sem.run_pure, hck, hr'];cases r' <;> simp
include ok hH in
theorem qLookup_run {t : TypeId} {b : Bool} {x k v : AV} {vx vk : Value} (hx : cv e x = some vx) (hk : cv e k = some vk) (h : qLookup X H b (X.tys.get t) (some x) (some k) = some v) :
 ∃ y, cv e v = some y ∧ (Instr.lookup t vx vk b).run P w = .ok y w := by
 unfold qLookup at h
 split at h
 ·rename_i ti x' k' ht h1 h2;cases h1; cases h2;have kt := ok.tys _ _ ht;unfold lookM4 at h
  split at h
  ·rename_i kty el htk;have hu := tk_map kt htk;unfold lookM3 at h
   split at h
   ·rename_i ki ei hki hei;have kk := ok.tys _ _ hki;have ke := ok.tys _ _ hei;unfold lookM2 at h
    split at h
    ·rename_i es hes;simp only [brec] at h;cases hkey : isKey ki.k with
     | false => rw [hkey] at h; cases h
     | true =>
      rw [hkey] at h; simp only [cond_true] at h;obtain ⟨xs, hm, hv⟩ := mapEs_run w hH hx hes;cases hf : findA ki.k k 0 es with
      | none => rw [hf] at h; cases h
      | some r =>
       rw [hf] at h;obtain ⟨r', hr', hR⟩ := findKey_run (P := P) w kk hk hm hf;have hck := fun bb => isKey_plain (P := P) w kk hkey bb vk
       cases r with
       | none =>
        simp only [FindR] at hR; subst hR;simp only [lookR] at h;cases hz : zeroOf ei with
        | none => rw [hz] at h; cases h
        | some z =>
         rw [hz] at h; simp only [lookZ, Option.some.injEq] at h; subst h;obtain ⟨zz, hz1, hz2⟩ := zeroOf_run (P := P) (e := e) w ke hz;rw [lookup_of w hv hu hck hr' b];cases b with
         | true => exact ⟨.tuple #[zz, .bool false], by simp only [lookV, cv, cvs, hz2], by simp [hz1]⟩
         | false => exact ⟨zz, by simp only [lookV, hz2], by simp [hz1]⟩
       | some p =>
        obtain ⟨y, rfl, hy⟩ := hR;simp only [lookR, Option.some.injEq] at h; subst h;rw [lookup_of w hv hu hck hr' b];cases b with
        | true => exact ⟨.tuple #[y, .bool true], by simp only [lookV, cv, cvs, hy], by simp⟩
        | false => exact ⟨y, by simp only [lookV, hy], by simp⟩
    ·cases h
   ·cases h
  ·cases h
 ·cases h
theorem findBorn_run {n : Nat} : ∀ {es : List ME} {xs : List MapEntry} (_ : MEsOk e es xs) {v : AV}, findBorn n es = some v → ∃ x, xs.find? (fun x => x.born == n) = some x ∧ cv e v = some (.tuple #[x.key, x.val])
 | [], [], _, v, h => by cases h
 | m :: es, x :: xs, hm, v, h => by
  simp only [findBorn, brec] at h;obtain ⟨h1, h2, h3⟩ := hm.1
  by_cases hb : m.born = n
  ·rw [nbeq_t hb] at h; simp only [cond_true, Option.some.injEq] at h; subst h;exact ⟨x, by rw [List.find?_cons, h3, hb]; simp, by simp only [cv, cvs, h1, h2]⟩
  ·rw [nbeq_f hb] at h; simp only [cond_false] at h;obtain ⟨y, g1, g2⟩ := findBorn_run hm.2 h;refine ⟨y, ?_, g2⟩;have : (x.born == n) = false := by rw [h3]; exact beq_eq_false_iff_ne.2 hb
   rw [List.find?_cons, this]; exact g1
 | [], _ :: _, hm, _, _ => hm.elim
 | _ :: _, [], hm, _, _ => hm.elim
theorem lastN_eq : ∀ (l : List Nat), lastN l = l.getLast?
 | [] => rfl
 | [x] => rfl
 | x :: y :: l => by
  simp only [lastN, List.getLast?_cons_cons];have := lastN_eq (y :: l);simp only [lastN] at this;rw [this];cases h : (y :: l).getLast? with
  | none => simp at h
  | some z => rfl
include hH in
theorem qEntry_run {it v : AV} {vi : Value} (hi : cv e it = some vi) (h : qEntry H (some it) = some v) : ∃ y, cv e v = some y ∧ (Instr.entry vi).run P w = .ok y w := by
 unfold qEntry at h
 split at h
 ·rename_i r heq;simp only [Option.some.injEq] at heq; subst heq;obtain ⟨x, hx, rfl⟩ := cv_ptr hi;unfold qEntry2 at h
  split at h
  ·rename_i b since seen last hob;obtain ⟨x', hx', ro, h1, y, hy, rfl⟩ := hH.live r _ hob;rw [hx] at hx'; cases hx';unfold qEntry3 at h
   split at h
   ·rename_i es c hb;obtain ⟨y', hy', xs, g1, g2⟩ := hH.live b _ hb;rw [hy] at hy'; cases hy';simp only [brec] at h;cases hc : Nat.beq c last with
    | false => rw [hc] at h; cases h
    | true =>
     rw [hc] at h; simp only [cond_true] at h;obtain rfl := nbeq_of hc;rw [lastN_eq] at h;cases hl : seen.getLast? with
     | none => rw [hl] at h; cases h
     | some n =>
      rw [hl] at h;simp only [entryAt] at h;obtain ⟨z, k1, k2⟩ := findBorn_run g2 h;refine ⟨_, k2, ?_⟩;have hback : seen.toArray.back? = some n := by rw [← hl]; simp
      have hfind : xs.find? (fun x => x.born == n) = some z := by rw [← Array.find?_toList]; exact k1
      simp only [Instr.entry, Sem.run_bind, getObj_at (P := P) w h1, Result.andThen_ok, hback, getObj_at (P := P) w g1, bne_self_eq_false, Bool.false_eq_true, if_false, hfind, Sem.run_pure]
   ·cases h
  ·cases h
 ·cases h
include ok in
theorem qAssertV_run {t : TypeId} {a v : AV} {va : Value} (ha : cv e a = some va) (h : qAssertV t (X.tys.get t) (some a) = some v) (xt : TypeId) : ∃ y, cv e v = some y ∧ (Instr.typeAssert va xt t false).run P w = .ok y w := by
 cases ht : X.tys.get t with
 | none => rw [ht] at h; simp [qAssertV] at h
 | some ti =>
  rw [ht] at h;have hk := ok.tys t ti ht;unfold qAssertV at h
  split at h
  ·rename_i ti' t' u h1 h2;cases h1; cases h2;simp only [brec] at h;cases hc : (isConcrete ti.k && Nat.beq t' t) with
   | false => rw [hc] at h; cases h
   | true =>
    rw [hc] at h; simp only [cond_true, Option.some.injEq] at h; subst h;simp only [Bool.and_eq_true] at hc;obtain rfl := nbeq_of hc.2;have hc1 := hc.1;simp only [cv] at ha;cases hu : cv e u with
    | none => rw [hu] at ha; cases ha
    | some z =>
     rw [hu] at ha; simp only [Option.some.injEq] at ha; subst ha;obtain ⟨d, hd, hdk⟩ := hk.und;refine ⟨z, rfl, ?_⟩;cases d <;> cases htk : ti.k <;> rw [htk] at hdk hc1 <;> simp [TKok, isConcrete] at hdk hc1 <;> simp [Instr.typeAssert, run_underlying hd]
  ·cases h
include ok in
theorem qBinPtr_run {op : BinOp} {t : TypeId} {x y v : AV} {vx vy : Value} (hx : cv e x = some vx) (hy : cv e y = some vy) (h : qBinPtr X op (X.tys.get t) (some x) (some y) = some v) (ox oy : Operand) :
 ∃ z, cv e v = some z ∧ (do eqGuard op t ox oy vx vy; binOp op t vx vy : Sem Value).run P w = .ok z w := by
 cases ht : X.tys.get t with
 | none => rw [ht] at h; simp [qBinPtr] at h
 | some ti =>
  rw [ht] at h;have hk := ok.tys t ti ht;simp only [qBinPtr] at h;unfold qBinPtr2 at h
  split at h
  ·rename_i el htk;unfold ptrSame at h
   split at h
   ·rename_i a b c d ei hei;simp only [brec] at h;cases hc : (Nat.beq a c && Nat.beq b d) with
    | false => rw [hc] at h; cases h
    | true =>
     rw [hc] at h; simp only [cond_true] at h;simp only [Bool.and_eq_true] at hc;obtain rfl := nbeq_of hc.1;obtain rfl := nbeq_of hc.2;obtain ⟨p, hp, rfl⟩ := cv_ptr hx;obtain ⟨q, hq, rfl⟩ := cv_ptr hy;rw [hp] at hq; cases hq;have hsz := run_sizeOf' (P := P) w (ok.tys _ _ hei);have heq : (Op.equal t (.pointer (some ⟨p.1, b, none⟩)) (.pointer (some ⟨p.1, b, none⟩))).run P w = .ok true w := by
      show (Op.equalIn (9999 + 1) t _ _).run P w = _;generalize 9999 = n;simp only [Op.equalIn, Sem.run_bind, run_underlying (tk_ptr hk htk), Result.andThen_ok, hsz]
      by_cases h0 : ei.size = 0
      ·simp [h0]
      ·simp [h0, sameAddr]
     rw [Sem.run_bind, eqGuard_plain w (by simp) (by simp), Result.andThen_ok]
     cases op with
     | eql =>
      simp only [eqRes, Option.some.injEq] at h; subst h;exact ⟨_, rfl, by show (do pure (.bool (← Op.equal t _ _)) : Sem Value).run P w = _; rw [Sem.run_bind, heq]; rfl⟩
     | neq =>
      simp only [eqRes, Option.some.injEq] at h; subst h;exact ⟨_, rfl, by show (do pure (.bool (!(← Op.equal t _ _))) : Sem Value).run P w = _; rw [Sem.run_bind, heq]; rfl⟩
     | _ => simp [eqRes] at h
   ·cases h
  ·cases h
end
end
end Go.X
