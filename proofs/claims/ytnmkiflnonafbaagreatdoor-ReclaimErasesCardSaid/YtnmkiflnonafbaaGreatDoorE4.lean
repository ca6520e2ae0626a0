/- The operations that leave memory alone. -/
import Derived.Test.YtnmkiflnonafbaaGreatDoorE3
import Derived.Laws.BytesString
import Derived.Laws.BytesArg
import Derived.Laws.Tables
set_option linter.unusedVariables false
set_option linter.unusedSimpArgs false
namespace Go.X
noncomputable section
def Ze9 (e : Env) (ev : Operand → Option AV) (ρ : Operand → Value) : Prop := ∀ x v, ev x = some v → cv e v = some (ρ x)
theorem ZbA {e : Env} {ev : Operand → Option AV} {ρ : Operand → Value} (hev : Ze9 e ev ρ) : ∀ {l : List Operand} {vs : List AV}, ZbF ev l = some vs → cvs e vs = some (l.map ρ) := by
 intro l
 induction l with
 | nil => intro vs h; simp only [ZbF, Option.some.injEq] at h; subst h; rfl
 | cons x l ih =>
  intro vs h;simp only [ZbF] at h;cases hx : ev x with
  | none => rw [hx] at h; cases h
  | some v =>
   rw [hx] at h;cases hl : ZbF ev l with
   | none => rw [hl] at h; cases h
   | some ws => rw [hl] at h; simp only [Option.some.injEq] at h; subst h; exact Za2 (hev x v hx) (ih hl)
theorem Zd5 {e : Env} {ev : Operand → Option AV} {ρ : Operand → Value} (hev : Ze9 e ev ρ) : ∀ {l : List (Nat × Operand)} {ps : List (Nat × AV)}, Za1 ev l = some ps →
 ∃ qs : List (Nat × Value), qs = l.map (fun p => (p.1, ρ p.2)) ∧ ps.map (·.1) = qs.map (·.1) ∧ cvs e (ps.map (·.2)) = some (qs.map (·.2)) := by
 intro l
 induction l with
 | nil => intro vs h; simp only [Za1, Option.some.injEq] at h; subst h; exact ⟨[], rfl, rfl, rfl⟩
 | cons x l ih =>
  obtain ⟨i, x⟩ := x;intro vs h;simp only [Za1] at h;cases hx : ev x with
  | none => rw [hx] at h; cases h
  | some v =>
   rw [hx] at h;cases hl : Za1 ev l with
   | none => rw [hl] at h; cases h
   | some ws =>
    rw [hl] at h; simp only [Option.some.injEq] at h; subst h;obtain ⟨qs, rfl, h1, h2⟩ := ih hl;exact ⟨_, rfl, by simp at h1 ⊢; exact h1, by simpa using Za2 (hev x v hx) h2⟩
section
variable {P : Program} {X : XP} (ok : XPok P X) (w : World) {e : Env}
include ok in
theorem Zji {t off : Nat} {vs : List AV} {us : List Value} (hu : cvs e vs = some us) {v : AV} (h : ZmP vs off (X.tys.get t) = some v) :
 ∃ y, cv e v = some y ∧ (part t us.toArray off).run P w = .ok y w := by
 cases ht : X.tys.get t with
 | none => rw [ht] at h; cases h
 | some ti =>
  rw [ht] at h;have hk := ok.tys t ti ht;simp only [ZmP, Zaw] at h;cases ha : ti.isAgg with
  | false =>
   rw [ha] at h; simp only [cond_false] at h;obtain ⟨y, hy, hl⟩ := Zby hu _ _ h;exact ⟨y, hy, by simp [part, Zbt w hk, ha, hl]⟩
  | true =>
   rw [ha] at h; simp only [cond_true] at h;cases hb : Nat.ble (off + ti.size) vs.length with
   | false => rw [hb] at h; cases h
   | true =>
    rw [hb] at h; simp only [cond_true, Option.some.injEq] at h; subst h;have hsub : ∀ (n : Nat) (vs : List AV) (us : List Value), cvs e vs = some us → cvs e (vs.drop n) = some (us.drop n) := by
     intro n
     induction n with
     | zero => intro vs us h; simpa using h
     | succ n ih =>
      intro vs us h;cases vs with
      | nil => simp only [cvs, Option.some.injEq] at h; subst h; rfl
      | cons a vs => obtain ⟨y, z, hy, hz, rfl⟩ := Zap h; simpa using ih vs z hz
    have htk : ∀ (n : Nat) (vs : List AV) (us : List Value), cvs e vs = some us → cvs e (vs.take n) = some (us.take n) := by
     intro n
     induction n with
     | zero => intro vs us h; rfl
     | succ n ih =>
      intro vs us h;cases vs with
      | nil => simp only [cvs, Option.some.injEq] at h; subst h; rfl
      | cons a vs => obtain ⟨y, z, hy, hz, rfl⟩ := Zap h; exact Za2 hy (ih vs z hz)
    refine ⟨.agg ((us.drop off).take ti.size).toArray, by simp only [cv, htk _ _ _ (hsub off _ _ hu)], ?_⟩
    simp only [part, Sem.run_bind, Zbt w hk, ha, Result.andThen_ok, if_true, Zae w hk, Sem.run_pure]
    congr 2
    simp [List.extract_eq_take_drop]
theorem Zjj {place : Nat → Option (Nat × Nat)} {placeA : Nat → Option (Nat × Nat)} {n : Nat} (hpl : ∀ i off size, placeA i = some (off, size) → place i = some (off, size) ∧ off + size ≤ n) :
 ∀ (ps : List (Nat × AV)) (qs : List (Nat × Value)) (c c' : Tr AV) (cells : Array Value), ps.map (·.1) = qs.map (·.1) → cvs e (ps.map (·.2)) = some (qs.map (·.2)) →
  cells.size = n → (∀ i, i < n → ∃ a y, c.get i = some a ∧ cv e a = some y ∧ cells[i]? = some y) → (∀ i, n ≤ i → c.get i = none) → Zfb placeA c ps = some c' →
  ∃ cells', Instr.fill place cells qs = some cells' ∧ cells'.size = n ∧ (∀ i, i < n → ∃ a y, c'.get i = some a ∧ cv e a = some y ∧ cells'[i]? = some y) ∧ ∀ i, n ≤ i → c'.get i = none := by
 intro ps
 induction ps with
 | nil =>
  intro qs c c' cells h1 _ hn hc hno h;cases qs with
  | cons q qs => simp at h1
  | nil => simp only [Zfb, Option.some.injEq] at h; subst h; exact ⟨cells, rfl, hn, hc, hno⟩
 | cons p ps ih =>
  intro qs c c' cells h1 h2 hn hc hno h;cases qs with
  | nil => simp at h1
  | cons q qs =>
   obtain ⟨i, v⟩ := p;obtain ⟨j, x⟩ := q;simp only [List.map_cons, List.cons.injEq] at h1;obtain ⟨rfl, h1⟩ := h1;simp only [List.map_cons] at h2;obtain ⟨y, z, hy, hz, he⟩ := Zap h2;simp only [List.cons.injEq] at he;obtain ⟨rfl, rfl⟩ := he;simp only [Zfb] at h;cases hp : placeA i with
   | none => rw [hp] at h; cases h
   | some r =>
    obtain ⟨off, size⟩ := r;rw [hp] at h;simp only [Zaw] at h;cases hb : (Nat.beq v.cells.length size && v.noSym) with
    | false => rw [hb] at h; cases h
    | true =>
     rw [hb] at h; simp only [cond_true] at h;simp only [Bool.and_eq_true] at hb;have hlen := Zab hb.1;obtain ⟨g1, g2⟩ := hpl i off size hp;have hcells := Zgd hy (fun k hk => by rw [hk] at hb; cases hb.2)
     have hsz : x.cells.size = size := by
      have := Zal hcells;simp only [Array.length_toList] at this;omega
     have hfold : ∀ (l : List Value) (k : Nat) (cs : Array Value), (l.zipIdx k).foldl (fun cs (p : Value × Nat) => cs.setIfInBounds (off + p.2) p.1) cs = Zce cs (off + k) l := by
      intro l
      induction l with
      | nil => intro k cs; rfl
      | cons a l ihl => intro k cs; simp only [List.zipIdx_cons, List.foldl_cons, Zce]; rw [ihl]; rfl
     have hf : (x.cells.zipIdx.foldl (fun cs (p : Value × Nat) => cs.setIfInBounds (off + p.2) p.1) cells) = Zce cells off x.cells.toList := by
      rw [← Array.foldl_toList, Array.toList_zipIdx, hfold]; rfl
     have hin : off + x.cells.toList.length ≤ cells.size := by simp; omega
     obtain ⟨cells', k1, k2, k3⟩ := ih qs (c.put off v.cells) c' (Zce cells off x.cells.toList) h1 hz (by rw [ZcX, hn])
      (fun m hm => by
        rw [Tr.get_put, ZdH _ _ _ _ hin]
        by_cases hr : off ≤ m ∧ m < off + v.cells.length
        ·rw [if_pos hr, if_pos (by simp; omega)]
         obtain ⟨a, ha⟩ : ∃ a, v.cells[m - off]? = some a := ⟨v.cells[m - off]'(by omega), List.getElem?_eq_getElem (by omega)⟩
         obtain ⟨y, hy', hl⟩ := Zby hcells _ _ ha;exact ⟨a, y, ha, hy', hl⟩
        ·rw [if_neg hr, if_neg (by simp; omega)]
         exact hc m hm) (fun m hm => by rw [Tr.get_put, if_neg (by omega)]; exact hno m hm) h
     refine ⟨cells', ?_, k2, k3⟩;simp only [Instr.fill, g1];rw [if_neg (by simp; omega)]
     exact hf ▸ k1
end
end
end Go.X

/- The operations that leave memory alone: each one's run. -/
namespace Go.X
noncomputable section
set_option linter.unusedSectionVars false
section
variable {P : Program} {X : XP} (ok : XPok P X) (w : World) {e : Env} {L : Zag} {H : AHeap} {nx NG : Nat} (hH : HR NG e L H.objs.get nx w)
theorem Zj4 {t : TypeId} {ti : TyI} (ht : TyOk P t ti) {k : TK} (hk : ti.k = k) : ∃ d, P.underlying t = some d ∧ Zd4 P d k := by
 obtain ⟨d, hd, h⟩ := ht.und; exact ⟨d, hd, hk ▸ h⟩
theorem Zay {t : TypeId} {ti : TyI} (ht : TyOk P t ti) {el : TypeId} (hk : ti.k = .slice el) : P.underlying t = some (.slice el) := by
 obtain ⟨d, hd, h⟩ := Zj4 ht hk; cases d <;> simp [Zd4] at h; rw [hd, h]
theorem Zfz {t : TypeId} {ti : TyI} (ht : TyOk P t ti) {n el : TypeId} (hk : ti.k = .arr n el) : P.underlying t = some (.array n el) := by
 obtain ⟨d, hd, h⟩ := Zj4 ht hk; cases d <;> simp [Zd4] at h; rw [hd, h.1, h.2]
theorem Zdj {t : TypeId} {ti : TyI} (ht : TyOk P t ti) (hk : ti.k = .str) : P.underlying t = some .string := by
 obtain ⟨d, hd, h⟩ := Zj4 ht hk; cases d <;> simp [Zd4] at h; rw [hd]
theorem Zjk {t : TypeId} {ti : TyI} (ht : TyOk P t ti) {k : IntKind} (hk : ti.k = .int k) : P.underlying t = some (.int k) := by
 obtain ⟨d, hd, h⟩ := Zj4 ht hk; cases d <;> simp [Zd4] at h; rw [hd, h]
theorem Zqs {t : TypeId} {ti : TyI} (ht : TyOk P t ti) {el : TypeId} (hk : ti.k = .ptr el) : P.underlying t = some (.pointer el) := by
 obtain ⟨d, hd, h⟩ := Zj4 ht hk; cases d <;> simp [Zd4] at h; rw [hd, h]
theorem ZeG {t : TypeId} {ti : TyI} (ht : TyOk P t ti) {gs : List FldI} (hk : ti.k = .struct gs) :
 ∃ fs : Array Field, P.underlying t = some (.struct fs) ∧ (fs.toList.map fun f => (f.offset, f.type, P.cellsOf f.type)) = gs.map (fun g => (g.off, g.ty, g.size)) := by
 obtain ⟨d, hd, h⟩ := Zj4 ht hk; cases d <;> simp only [Zd4] at h; exact ⟨_, hd, h⟩
theorem Zor {t : TypeId} {ti : TyI} (ht : TyOk P t ti) {gs : List FldI} {fs : Array Field} (hu : P.underlying t = some (.struct fs))
 (hm : (fs.toList.map fun f => (f.offset, f.type, P.cellsOf f.type)) = gs.map (fun g => (g.off, g.ty, g.size))) {i : Nat} {g : FldI} (hg : gs[i]? = some g) :
 ∃ f, fs[i]? = some f ∧ f.offset = g.off ∧ f.type = g.ty ∧ (sizeOf f.type).run P w = .ok g.size w := by
 have h1 : (gs.map (fun g => (g.off, g.ty, g.size)))[i]? = some (g.off, g.ty, g.size) := by simp [hg]
 rw [← hm] at h1;simp only [List.getElem?_map, Option.map_eq_some_iff, Prod.mk.injEq] at h1;obtain ⟨f, hf, h2, h3, h4⟩ := h1;have hf' : fs[i]? = some f := by simpa using hf
 obtain ⟨inf, hinf⟩ := ht.flds fs hu f (Array.mem_of_getElem? hf');refine ⟨f, hf', h2, h3, ?_⟩;have : inf.size = g.size := by rw [← h4]; simp [Program.cellsOf, hinf]
 simp [sizeOf, Zax w hinf, this]
include ok hH in
theorem ZlE {t : TypeId} {a v : AV} {va : Value} (ha : cv e a = some va) (h : ZkV X H t (some a) = some v) : ∃ y, cv e v = some y ∧ (Instr.loadAt t va).run P w = .ok y w := by
 cases a with
 | ptr b off =>
  simp only [ZkV] at h;obtain ⟨x, y, hx, hy, hr⟩ := Zg2 ok hH h;obtain ⟨x', hx', rfl⟩ := Zbz ha;rw [hx] at hx'; cases hx';exact ⟨y, hy, by simp only [Instr.loadAt, Instr.sureAddr, Sem.run_bind, Sem.run_pure, Result.andThen_ok, hr]⟩
 | _ => simp [ZkV] at h
theorem ZeH : ∀ {cs : List AV} {l : List Nat}, ZaY cs = some l → ∃ ns : List Int, cvs e cs = some (ns.map (Value.int .u8)) ∧ l = ns.map (fun n => n.toNat % 256) := by
 intro cs
 induction cs with
 | nil => intro l h; simp only [ZaY, Option.some.injEq] at h; subst h; exact ⟨[], rfl, rfl⟩
 | cons c cs ih =>
  intro l h;unfold ZaY at h
  split at h
  ·rename_i heq; cases heq
  ·rename_i n l' heq;injection heq with h1 h2;subst h1; subst h2;cases hr : ZaY cs with
   | none => rw [hr] at h; cases h
   | some r =>
    rw [hr] at h; simp only [Option.some.injEq] at h; subst h;obtain ⟨ns, h1, h2⟩ := ih hr;exact ⟨n :: ns, Za2 rfl h1, by rw [h2]; rfl⟩
  ·cases h
theorem strOfNums_bytes (ns : List Int) : ns.foldl (fun r n => r.push (UInt8.ofNat n.toNat)) ByteArray.empty = bytesOf (ns.map (fun n => n.toNat % 256)) := by
 have key : ∀ (ns : List Int) (s : List Nat), ns.foldl (fun r n => r.push (UInt8.ofNat n.toNat)) (bytesOf s) = bytesOf (s ++ ns.map (fun n => n.toNat % 256)) := by
  intro ns
  induction ns with
  | nil => intro s; simp
  | cons n ns ih =>
   intro s;have : (bytesOf s).push (UInt8.ofNat n.toNat) = bytesOf (s ++ [n.toNat % 256]) := by
    apply ByteArray.ext;simp [bytesOf, ByteArray.push];apply UInt8.toNat_inj.1; simp
   simp only [List.foldl_cons, this, ih]; simp
 have h0 : (ByteArray.empty : ByteArray) = bytesOf [] := rfl;rw [h0]; simpa using key ns []
include ok hH in
theorem Zg7 {s d : TypeId} {a v : AV} {va : Value} (ha : cv e a = some va) (h : Zcv X H (X.tys.get s) (X.tys.get d) (some a) = some v) :
 ∃ y, cv e v = some y ∧ (convert s d va).run P w = .ok y w := by
 cases hs : X.tys.get s with
 | none => rw [hs] at h; simp [Zcv] at h
 | some si =>
  cases hd : X.tys.get d with
  | none => rw [hs, hd] at h; simp [Zcv] at h
  | some di =>
   rw [hs, hd] at h;have ks := ok.tys s si hs;have kd := ok.tys d di hd;simp only [Zcv] at h;obtain ⟨sd, hsd, _⟩ := ks.und;unfold ZgD at h
   split at h
   ·rename_i k n;cases Za8 ha;cases hdk : di.k <;> rw [hdk] at h <;> simp only [ZkW, reduceCtorEq, Option.some.injEq] at h
    subst h;refine ⟨_, rfl, ?_⟩;simp [convert, run_underlying hsd, run_underlying (Zjk kd hdk), Conv.intToInt, ZbN]
   ·rename_i hni;unfold ZgC at h
    split at h
    ·rename_i l h1 h2;obtain ⟨hl, rfl⟩ := Zbh ha;simp only [Option.some.injEq] at h; subst h;refine ⟨_, ha, ?_⟩;simp [convert, run_underlying (Zdj ks h1), run_underlying (Zdj kd h2)]
    ·rename_i el h1 h2;simp only [Zaw] at h;cases hb : isByte (X.tys.get el) with
     | false => rw [hb] at h; cases h
     | true =>
      rw [hb] at h; simp only [cond_true, Option.some.injEq] at h; subst h;have hel : P.underlying el = some (.int .u8) := by
       unfold isByte at hb; split at hb
       ·rename_i size bytes zero cmp heq; exact Zjk (ok.tys el _ heq) rfl
       ·cases hb
      simp only [cv, Option.some.injEq] at ha; subst ha;refine ⟨_, Zdi e (by simp), ?_⟩
      have := run_convert_bytes_nil (P := P) w s el (Zay ks h1) hel 0 0 d (Zdj kd h2);rw [this]; rfl
    ·rename_i el b off len c h1 h2;simp only [Zaw] at h;cases hb : isByte (X.tys.get el) with
     | false => rw [hb] at h; cases h
     | true =>
      rw [hb] at h; simp only [cond_true] at h;have hel : P.underlying el = some (.int .u8) := by
       unfold isByte at hb; split at hb
       ·rename_i size bytes zero cmp heq; exact Zjk (ok.tys el _ heq) rfl
       ·cases hb
      obtain ⟨x, hx, rfl⟩ := Zbk ha;unfold ZgB at h;cases hg : ZaM H b off len with
      | none => rw [hg] at h; cases h
      | some cs =>
       rw [hg] at h;simp only [Option.map_eq_some_iff] at h;obtain ⟨l, hl, rfl⟩ := h;obtain ⟨x', xs, hx', hxs, hn, hc⟩ := Za9 hH hg;rw [hx] at hx'; cases hx';obtain ⟨ns, hns, rfl⟩ := ZeH (e := e) hl;rw [hxs] at hns; simp only [Option.some.injEq] at hns; subst hns;refine ⟨_, Zdi e (fun b hb => by simp at hb; obtain ⟨n, _, rfl⟩ := hb; omega), ?_⟩
       have hload := run_loadCells_list (P := P) w ⟨x.1, off, none⟩ (ns.map (Value.int .u8)) (fun j v hj => by rw [ZaE]; exact hc j v hj)
       rw [hn] at hload;rw [run_convert_bytes_string w s d el _ _ _ (Zay ks h1) hel (Zdj kd h2), run_bytesToString w _ _ _ ns hload, strOfNums_bytes]
    ·cases h
include ok in
theorem Zj5 {t : TypeId} {a v : AV} {va : Value} (ha : cv e a = some va) (h : ZgE t (X.tys.get t) (some a) = some v) : ∃ y, cv e v = some y ∧ (Instr.makeInterface t va).run P w = .ok y w := by
 cases ht : X.tys.get t with
 | none => rw [ht] at h; simp [ZgE] at h
 | some ti =>
  rw [ht] at h;have hk := ok.tys t ti ht;simp only [ZgE, Zaw] at h;cases hc : Zdz ti.k with
  | false => rw [hc] at h; cases h
  | true =>
   rw [hc] at h; simp only [cond_true, Option.some.injEq] at h; subst h;obtain ⟨d, hd, hdk⟩ := hk.und;refine ⟨.iface t va, by simp only [cv, ha], ?_⟩
   cases d <;> cases htk : ti.k <;> rw [htk] at hdk hc <;> simp [Zd4, Zdz] at hdk hc <;> simp [Instr.makeInterface, run_underlying hd]
theorem Zm1 {c : Tr AV} {n : Nat} {cells : Array Value} (hn : cells.size = n) (hc : ∀ i, i < n → ∃ a y, c.get i = some a ∧ cv e a = some y ∧ cells[i]? = some y) {l : List AV} (h : c.take 0 n = some l) : cvs e l = some cells.toList := by
 obtain ⟨hl, hg⟩ := Tr.take_some h;have key : ∀ (l : List AV) (k : Nat), (∀ i, i < l.length → c.get (k + i) = l[i]?) → k + l.length = n → cvs e l = some (cells.toList.drop k) := by
  intro l
  induction l with
  | nil => intro k _ hk; simp only [cvs, Option.some.injEq]; symm; apply List.drop_eq_nil_of_le; simp at hk ⊢; omega
  | cons a l ih =>
   intro k hk hlen;simp only [List.length_cons] at hlen;have h0 := hk 0 (by simp)
   simp only [Nat.add_zero, List.getElem?_cons_zero] at h0;obtain ⟨a', y, ha, hy, hcy⟩ := hc k (by omega)
   rw [h0] at ha; cases ha
   have hr := ih (k + 1) (fun i hi => by
    have := hk (i + 1) (by simpa using hi)
    rw [show k + 1 + i = k + (i + 1) by omega, this]; simp) (by omega)
   have : cells.toList.drop k = y :: cells.toList.drop (k + 1) := by
    rw [List.drop_eq_getElem_cons (by simp; omega)]
    congr 1
    have := hcy;rw [Array.getElem?_eq_getElem (by omega)] at this
    simpa using this
   rw [this]; exact Za2 hy hr
 simpa using key l 0 (fun i hi => by simpa using hg i (by omega)) (by omega)
theorem ZlF {l : List AV} {xs : List Value} (h : cvs e l = some xs) : ∀ i, i < l.length → ∃ a y, (Tr.put .nil 0 l).get i = some a ∧ cv e a = some y ∧ xs.toArray[i]? = some y := by
 intro i hi;rw [Tr.get_put, if_pos (by omega)]
 obtain ⟨y, hy, hx⟩ := Zby h i l[i] (by simp [hi])
 exact ⟨l[i], y, by simp [hi], hy, by simpa using hx⟩
theorem Zjl {l : List AV} {n : Nat} (h : l.length ≤ n) : ∀ i, n ≤ i → (Tr.put .nil 0 l).get i = none := by
 intro i hi;rw [Tr.get_put, if_neg (by omega)]; rfl
include ok in
theorem Zj6 {t : TypeId} {parts : Array (Nat × Operand)} {ev : Operand → Option AV} {ρ : Operand → Value} (hev : Ze9 e ev ρ) {v : AV} (h : ZgH X (X.tys.get t) (Za1 ev parts.toList) = some v) :
 ∃ y, cv e v = some y ∧ (Instr.build t (parts.map fun (i, x) => (i, ρ x))).run P w = .ok y w := by
 cases ht : X.tys.get t with
 | none => rw [ht] at h; simp [ZgH] at h
 | some ti =>
  rw [ht] at h;cases hp : Za1 ev parts.toList with
  | none => rw [hp] at h; simp [ZgH] at h
  | some ps =>
   rw [hp] at h;simp only [ZgH] at h;have hk := ok.tys t ti ht;obtain ⟨qs, hqs, hp1, hp2⟩ := Zd5 hev hp;have hqs' : (parts.map fun (i, x) => (i, ρ x)).toList = qs := by rw [hqs]; simp
   obtain ⟨z, hz, hzc, _⟩ := ZaT w hk e;have hzl : z.cells.size = ti.size := by have := Zal hzc; simp at this; rw [this, hk.len]
   have hinit := ZlF hzc;rw [hk.len] at hinit;simp only [Array.toArray_toList] at hinit;have fin : ∀ {pa : Nat → Option (Nat × Nat)} {pl : Nat → Option (Nat × Nat)}, (∀ i off size, pa i = some (off, size) → pl i = some (off, size) ∧ off + size ≤ ti.size) →
    ZgF ti.size (Zfb pa (Tr.put .nil 0 ti.zero) ps) = some v → ∃ cells, Instr.fill pl z.cells qs = some cells ∧ cv e v = some (.agg cells) := by
    intro pa pl hpl hh;cases hf : Zfb pa (Tr.put .nil 0 ti.zero) ps with
    | none => rw [hf] at hh; simp [ZgF] at hh
    | some c =>
     rw [hf] at hh;simp only [ZgF, Option.map_eq_some_iff] at hh;obtain ⟨l, hl, rfl⟩ := hh;obtain ⟨cells, h1, h2, h3, _⟩ := Zjj hpl ps qs _ c z.cells hp1 hp2 hzl hinit (Zjl (by rw [hk.len]; exact Nat.le_refl _)) hf
     exact ⟨cells, h1, by simp only [cv, Zm1 h2 h3 hl]⟩
   unfold ZkX at h
   split at h
   ·rename_i gs htk;obtain ⟨fs, hu, hm⟩ := ZeG hk htk;have hplaces : ∀ (l : List Field), (∀ f ∈ l, f ∈ fs) → l.mapM (fun f => (P.info? f.type).map fun i => (f.offset, i.size)) = some (l.map fun f => (f.offset, P.cellsOf f.type)) := by
     intro l
     induction l with
     | nil => intro _; rfl
     | cons f l ih =>
      intro hl;obtain ⟨inf, hinf⟩ := hk.flds fs hu f (hl f (by simp))
      rw [List.mapM_cons, ih (fun f hf => hl f (by simp [hf])), hinf]
      simp [Program.cellsOf, hinf]
    have hrun := run_places (P := P) w fs.toList _ (hplaces fs.toList (fun f hf => by simpa using hf))
    obtain ⟨cells, hfill, hcv⟩ := fin (pl := fun i => (fs.toList.map fun f => (f.offset, P.cellsOf f.type)).toArray[i]?) (fun i off size hi => by
     simp only [ZiR] at hi;cases hg : gs[i]? with
     | none => rw [hg] at hi; simp [ZoH] at hi
     | some g =>
      rw [hg] at hi;simp only [ZoH, Zaw] at hi;cases hb : Nat.ble (g.off + g.size) ti.size with
      | false => rw [hb] at hi; cases hi
      | true =>
       rw [hb] at hi; simp only [cond_true, Option.some.injEq, Prod.mk.injEq] at hi;obtain ⟨rfl, rfl⟩ := hi;have h1 : (gs.map (fun g => (g.off, g.ty, g.size)))[i]? = some (g.off, g.ty, g.size) := by simp [hg]
       rw [← hm] at h1;simp only [List.getElem?_map, Option.map_eq_some_iff, Prod.mk.injEq] at h1;obtain ⟨f, hf, h2, _, h4⟩ := h1;refine ⟨?_, Zak hb⟩
       simp only [List.getElem?_toArray, List.getElem?_map, hf, Option.map_some, h2, h4]) h
    refine ⟨_, hcv, ?_⟩;have hfill' := hfill;simp only [Instr.build, Sem.run_bind, hz, Result.andThen_ok, run_underlying hu, Array.mapM_eq_mapM_toList];simp only [bind_pure_comp, Sem.run_map, hrun, Result.andThen_ok, hqs', hfill', Sem.run_pure]
   ·rename_i n el htk;have hu := Zfz hk htk;unfold ZgG at h;cases hel : X.tys.get el with
    | none => rw [hel] at h; cases h
    | some ei =>
     rw [hel] at h;simp only at h
     obtain ⟨cells, hfill, hcv⟩ := fin (pl := fun i => some (i * ei.size, ei.size)) (fun i off size hi => by
      simp only [Zc7, Zaw] at hi;cases hb : Nat.ble ((i + 1) * ei.size) ti.size with
      | false => rw [hb] at hi; cases hi
      | true =>
       rw [hb] at hi; simp only [cond_true, Option.some.injEq, Prod.mk.injEq] at hi;obtain ⟨rfl, rfl⟩ := hi;have := Zak hb;refine ⟨rfl, ?_⟩
       rw [Nat.add_mul] at this; omega) h
     refine ⟨_, hcv, ?_⟩;simp only [Instr.build, Sem.run_bind, hz, Result.andThen_ok, run_underlying hu, Zae w (ok.tys el ei hel), hqs', hfill, Sem.run_pure]
   ·cases h
end
end
end Go.X
