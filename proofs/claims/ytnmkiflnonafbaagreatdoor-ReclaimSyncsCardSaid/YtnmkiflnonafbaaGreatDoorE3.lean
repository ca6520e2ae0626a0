/- Strings, equality, binary operations. -/
import Derived.Test.YtnmkiflnonafbaaGreatDoorE2
import Derived.Laws.StructEq
set_option linter.unusedVariables false
namespace Go.X
noncomputable section
theorem cv_str {e : Env} {s : List Nat} {x : Value} (h : cv e (.str s) = some x) : (∀ b ∈ s, b < 256) ∧ x = .string (bytesOf s) := by
 simp only [cv] at h
 split at h
 ·rename_i ha;simp only [List.all_eq_true] at ha;exact ⟨fun b hb => nblt_of (ha b hb), by simpa using h.symm⟩
 ·cases h
theorem cv_str_mk (e : Env) {s : List Nat} (h : ∀ b ∈ s, b < 256) : cv e (.str s) = some (.string (bytesOf s)) := by
 have : s.all (fun b => Nat.blt b 256) = true := by
  simp only [List.all_eq_true]; intro b hb; rw [Nat.blt_eq]; exact h b hb
 simp only [cv, this, if_true]
theorem bytesOf_toList (s : List Nat) : (bytesOf s).toList = s.map UInt8.ofNat := by
 simp [bytesOf]
theorem ofNat_inj {a b : Nat} (ha : a < 256) (hb : b < 256) (h : UInt8.ofNat a = UInt8.ofNat b) : a = b := by
 have h1 := congrArg UInt8.toNat h;simp at h1;omega
theorem strEq_eq : ∀ (a b : List Nat), (∀ x ∈ a, x < 256) → (∀ x ∈ b, x < 256) → strEq a b = (a.map UInt8.ofNat == b.map UInt8.ofNat) := by
 intro a
 induction a with
 | nil => intro b _ _; cases b <;> rfl
 | cons x a ih =>
  intro b ha hb;cases b with
  | nil => rfl
  | cons y b =>
   simp only [strEq, List.map_cons];rw [ih b (fun z hz => ha z (by simp [hz])) (fun z hz => hb z (by simp [hz]))]
   have hx := ha x (by simp)
   have hy := hb y (by simp)
   by_cases e : x = y
   ·subst e; rw [nbeq_t rfl]; simp
   ·rw [nbeq_f e];have : (UInt8.ofNat x == UInt8.ofNat y) = false := beq_eq_false_iff_ne.2 fun h => e (ofNat_inj hx hy h)
    simp [List.cons_beq_cons, this]
theorem strLess_eq : ∀ (a b : List Nat), (∀ x ∈ a, x < 256) → (∀ x ∈ b, x < 256) → strLess a b = Op.bytesLess (a.map UInt8.ofNat) (b.map UInt8.ofNat) := by
 intro a
 induction a with
 | nil => intro b _ _; cases b <;> rfl
 | cons x a ih =>
  intro b ha hb;cases b with
  | nil => rfl
  | cons y b =>
   simp only [strLess, List.map_cons, Op.bytesLess];rw [ih b (fun z hz => ha z (by simp [hz])) (fun z hz => hb z (by simp [hz]))]
   have hx := ha x (by simp)
   have hy := hb y (by simp)
   have h1 : Nat.blt x y = decide (UInt8.ofNat x < UInt8.ofNat y) := by
    rw [nblt_eq]; congr 1;rw [UInt8.lt_iff_toNat_lt]; simp; omega
   have h2 : Nat.beq x y = (UInt8.ofNat x == UInt8.ofNat y) := by
    by_cases e : x = y
    ·subst e; rw [nbeq_t rfl]; simp
    ·rw [nbeq_f e]; symm; exact beq_eq_false_iff_ne.2 fun h => e (ofNat_inj hx hy h)
   rw [h1, h2]
theorem bytesOf_append (a b : List Nat) : bytesOf a ++ bytesOf b = bytesOf (a ++ b) := by
 apply ByteArray.ext;simp [bytesOf]
theorem bytesOf_size (a : List Nat) : (bytesOf a).size = a.length := by simp [bytesOf, ByteArray.size]
theorem strOp_run {P : Program} (w : World) {op : BinOp} {a b : List Nat} {v : AV} (h : strOp op a b = some v) (t : TypeId) (e : Env) (ha : ∀ x ∈ a, x < 256) (hb : ∀ x ∈ b, x < 256) :
 ∃ y, cv e v = some y ∧ (binOp op t (.string (bytesOf a)) (.string (bytesOf b))).run P w = .ok y w := by
 have h1 := strEq_eq a b ha hb;have h2 := strLess_eq a b ha hb;cases op with
 | add =>
  simp only [strOp, brec] at h;cases hl : Nat.blt (a.length + b.length) 4611686018427387904 with
  | false => rw [hl] at h; cases h
  | true =>
   rw [hl] at h; simp only [cond_true, Option.some.injEq] at h; subst h;have := nblt_of hl;refine ⟨_, cv_str_mk e (fun x hx => by rcases List.mem_append.1 hx with h | h; exact ha x h; exact hb x h), ?_⟩
   have hn : ¬ (((bytesOf a).size + (bytesOf b).size : Nat) : Int) > IntKind.i64.max := by
    rw [bytesOf_size, bytesOf_size]; simp [IntKind.max, IntKind.signed, IntKind.bits]; omega
   simp only [binOp, Op.stringOp, hn, if_false, bytesOf_append]; rfl
 | eql => simp only [strOp, Option.some.injEq] at h; subst h; exact ⟨_, rfl, by simp only [binOp, Op.stringOp, bytesOf_toList, h1]; rfl⟩
 | neq => simp only [strOp, Option.some.injEq] at h; subst h; exact ⟨_, rfl, by simp only [binOp, Op.stringOp, bytesOf_toList, h1]; rfl⟩
 | lss => simp only [strOp, Option.some.injEq] at h; subst h; exact ⟨_, rfl, by simp only [binOp, Op.stringOp, bytesOf_toList, h2]; rfl⟩
 | leq => simp only [strOp, Option.some.injEq] at h; subst h; exact ⟨_, rfl, by simp only [binOp, Op.stringOp, bytesOf_toList, h1, h2]; rfl⟩
 | gtr => simp only [strOp, Option.some.injEq] at h; subst h; exact ⟨_, rfl, by simp only [binOp, Op.stringOp, bytesOf_toList, h1, h2]; rfl⟩
 | geq => simp only [strOp, Option.some.injEq] at h; subst h; exact ⟨_, rfl, by simp only [binOp, Op.stringOp, bytesOf_toList, h2]; rfl⟩
 | _ => simp [strOp] at h
theorem cv_ptr {e : Env} {b o : Nat} {x : Value} (h : cv e (.ptr b o) = some x) : ∃ y, e.f b = some y ∧ x = .pointer (some ⟨y.1, o, none⟩) := by
 simp only [cv] at h; cases hb : e.f b <;> rw [hb] at h <;> simp at h; exact ⟨_, rfl, h.symm⟩
theorem cv_sl {e : Env} {b o n : Nat} {c : Cap} {x : Value} (h : cv e (.sl b o n c) = some x) : ∃ y, e.f b = some y ∧ x = .slice (some ⟨y.1, o, none⟩) n (c.val y.2) := by
 simp only [cv] at h; cases hb : e.f b <;> rw [hb] at h <;> simp at h; exact ⟨_, rfl, h.symm⟩
theorem cv_fn {e : Env} {f : FuncId} {a b : List AV} {x : Value} (h : cv e (.fn f a b) = some x) : ∃ y z, cvs e a = some y ∧ cvs e b = some z ∧ x = .func (.func f) y.toArray z.toArray := by
 simp only [cv] at h; cases ha : cvs e a <;> cases hb : cvs e b <;> rw [ha, hb] at h <;> simp at h; exact ⟨_, _, rfl, rfl, h.symm⟩
theorem cv_yld {e : Env} {b : Nat} {x : Value} (h : cv e (.yld b) = some x) : ∃ y, e.f b = some y ∧ x = .func (.yield y.1) #[] #[] := by
 simp only [cv] at h; cases hb : e.f b <;> rw [hb] at h <;> simp at h; exact ⟨_, rfl, h.symm⟩
theorem cv_mpr {e : Env} {b : Nat} {x : Value} (h : cv e (.mpr b) = some x) : ∃ y, e.f b = some y ∧ x = .map (some y.1) := by
 simp only [cv] at h; cases hb : e.f b <;> rw [hb] at h <;> simp at h; exact ⟨_, rfl, h.symm⟩
theorem cv_agg {e : Env} {a : List AV} {x : Value} (h : cv e (.agg a) = some x) : ∃ y, cvs e a = some y ∧ x = .agg y.toArray := by
 simp only [cv] at h; cases ha : cvs e a <;> rw [ha] at h <;> simp at h; exact ⟨_, rfl, h.symm⟩
theorem cv_tup {e : Env} {a : List AV} {x : Value} (h : cv e (.tup a) = some x) : ∃ y, cvs e a = some y ∧ x = .tuple y.toArray := by
 simp only [cv] at h; cases ha : cvs e a <;> rw [ha] at h <;> simp at h; exact ⟨_, rfl, h.symm⟩
theorem cv_int {e : Env} {k : IntKind} {n : Int} {x : Value} (h : cv e (.int k n) = some x) : x = .int k n := by simpa [cv] using h.symm
theorem cv_bool {e : Env} {b : Bool} {x : Value} (h : cv e (.bool b) = some x) : x = .bool b := by simpa [cv] using h.symm
theorem eq1_run {P : Program} (w : World) {t : TypeId} {ti : TyI} (ht : TyOk P t ti) {x y : AV} {b : Bool} (h : eq1 ti x y = some b) {e : Env} {vx vy : Value} (hx : cv e x = some vx) (hy : cv e y = some vy) (d : Nat) :
 (Op.equalIn (d + 1) t vx vy).run P w = .ok b w := by
 obtain ⟨dd, hd, hk⟩ := ht.und;unfold eq1 at h
 split at h
 all_goals first
  | (cases h; done)
  | skip
 ·rename_i hti;rw [hti] at hk; cases dd <;> simp [TKok] at hk
  cases cv_bool hx; cases cv_bool hy;simp only [Option.some.injEq] at h; subst h;simp [Op.equalIn, run_underlying hd]
 ·rename_i k k' hti;rw [hti] at hk; cases dd <;> simp [TKok] at hk
  cases cv_int hx; cases cv_int hy;simp only [brec] at h;cases hkk : kEq _ _ with
  | false => rw [hkk] at h; cases h
  | true =>
   rw [hkk] at h; simp only [cond_true, Option.some.injEq, iEq_eq] at h; subst h;obtain rfl := kEq_of hkk;simp [Op.equalIn, run_underlying hd]
 ·rename_i hti;rw [hti] at hk; cases dd <;> simp [TKok] at hk
  obtain ⟨ha, rfl⟩ := cv_str hx;obtain ⟨hb, rfl⟩ := cv_str hy;simp only [Option.some.injEq] at h; subst h;rw [run_equalIn_string w d t _ _ hd, bytesOf_toList, bytesOf_toList, strEq_eq _ _ ha hb]
 ·rename_i hti;rw [hti] at hk; cases dd <;> simp [TKok] at hk
  simp only [cv, Option.some.injEq] at hx hy; subst hx; subst hy;simp only [Option.some.injEq] at h; subst h;simp [Op.equalIn, run_underlying hd]
 ·rename_i hti;rw [hti] at hk; cases dd <;> simp [TKok] at hk
  simp only [cv, Option.some.injEq] at hx; subst hx;obtain ⟨y, _, rfl⟩ := cv_ptr hy;simp only [Option.some.injEq] at h; subst h;simp [Op.equalIn, run_underlying hd]
 ·rename_i hti;rw [hti] at hk; cases dd <;> simp [TKok] at hk
  simp only [cv, Option.some.injEq] at hy; subst hy;obtain ⟨y, _, rfl⟩ := cv_ptr hx;simp only [Option.some.injEq] at h; subst h;simp [Op.equalIn, run_underlying hd]
 ·rename_i hti;rw [hti] at hk; cases dd <;> simp [TKok] at hk
  simp only [cv, Option.some.injEq] at hx hy; subst hx; subst hy;simp only [Option.some.injEq] at h; subst h;simp [Op.equalIn, run_underlying hd]
 ·rename_i hti;rw [hti] at hk; cases dd <;> simp [TKok] at hk
  simp only [cv, Option.some.injEq] at hx; subst hx;obtain ⟨y, _, rfl⟩ := cv_mpr hy;simp only [Option.some.injEq] at h; subst h;simp [Op.equalIn, run_underlying hd]
 ·rename_i hti;rw [hti] at hk; cases dd <;> simp [TKok] at hk
  simp only [cv, Option.some.injEq] at hy; subst hy;obtain ⟨y, _, rfl⟩ := cv_mpr hx;simp only [Option.some.injEq] at h; subst h;simp [Op.equalIn, run_underlying hd]
 ·rename_i hti;rw [hti] at hk; cases dd <;> simp [TKok] at hk
  simp only [cv, Option.some.injEq] at hx hy; subst hx; subst hy;simp only [Option.some.injEq] at h; subst h;simp [Op.equalIn, run_underlying hd]
 ·rename_i hti;rw [hti] at hk; cases dd <;> simp [TKok] at hk
  simp only [cv, Option.some.injEq] at hx; subst hx;obtain ⟨y, _, rfl⟩ := cv_sl hy;simp only [Option.some.injEq] at h; subst h;simp [Op.equalIn, run_underlying hd]
 ·rename_i hti;rw [hti] at hk; cases dd <;> simp [TKok] at hk
  simp only [cv, Option.some.injEq] at hy; subst hy;obtain ⟨y, _, rfl⟩ := cv_sl hx;simp only [Option.some.injEq] at h; subst h;simp [Op.equalIn, run_underlying hd]
 ·rename_i hti;rw [hti] at hk; cases dd <;> simp [TKok] at hk
  simp only [cv, Option.some.injEq] at hx hy; subst hx; subst hy;simp only [Option.some.injEq] at h; subst h;simp [Op.equalIn, run_underlying hd]
 ·rename_i hti;rw [hti] at hk; cases dd <;> simp [TKok] at hk
  simp only [cv, Option.some.injEq] at hx; subst hx;obtain ⟨y, z, _, _, rfl⟩ := cv_fn hy;simp only [Option.some.injEq] at h; subst h;simp [Op.equalIn, run_underlying hd]
 ·rename_i hti;rw [hti] at hk; cases dd <;> simp [TKok] at hk
  simp only [cv, Option.some.injEq] at hy; subst hy;obtain ⟨y, z, _, _, rfl⟩ := cv_fn hx;simp only [Option.some.injEq] at h; subst h;simp [Op.equalIn, run_underlying hd]
 ·rename_i hti;rw [hti] at hk; cases dd <;> simp [TKok] at hk
  simp only [cv, Option.some.injEq] at hx; subst hx;obtain ⟨y, _, rfl⟩ := cv_yld hy;simp only [Option.some.injEq] at h; subst h;simp [Op.equalIn, run_underlying hd]
 ·rename_i hti;rw [hti] at hk; cases dd <;> simp [TKok] at hk
  simp only [cv, Option.some.injEq] at hy; subst hy;obtain ⟨y, _, rfl⟩ := cv_yld hx;simp only [Option.some.injEq] at h; subst h;simp [Op.equalIn, run_underlying hd]
theorem eqGuard_plain {P : Program} (w : World) {op : BinOp} {t : TypeId} {ox oy : Operand} {vx vy : Value} (h1 : ¬ (vx = .nilIface ∧ vy = .nilIface)) (h2 : ∀ a b, ¬ (vx = .agg a ∧ vy = .agg b)) :
 (eqGuard op t ox oy vx vy).run P w = .ok () w := by
 have key : ∀ op, op = .eql ∨ op = .neq → (eqGuard op t ox oy vx vy).run P w = .ok () w := by
  intro op hop;rcases hop with rfl | rfl <;> (cases vx <;> cases vy <;> first | rfl | exact absurd ⟨rfl, rfl⟩ h1 | exact absurd ⟨rfl, rfl⟩ (h2 _ _))
 cases op <;> first | rfl | exact key _ (.inl rfl) | exact key _ (.inr rfl)
theorem val_rng {k : IntKind} {lo hi : Int} {v x : Value} (h : (RC.rng k lo hi).val v = some x) : ∃ n : Int, x = .int k n ∧ (lo ≤ n ∧ n ≤ hi) := by
 cases v <;> first
  | (simp [RC.val] at h; done)
  | (simp only [RC.val] at h
     split at h
     ·rename_i hb; cases h; exact ⟨_, rfl, hb.2⟩
     ·cases h)
theorem val_nat {k : IntKind} {f : HF} {lo hi : Nat} {v x : Value} (h : (RC.nat k f lo hi).val v = some x) : ∃ kk N, v = .int kk (Int.ofNat N) ∧ (lo ≤ N ∧ N ≤ hi) ∧ x = .int k (Int.ofNat (hfv f N)) := by
 unfold RC.val at h
 split at h <;> rename_i heq
 all_goals first
  | (cases heq; done)
  | skip
 ·cases heq
  split at h
  ·rename_i hh;cases h;exact ⟨_, _, rfl, hh, rfl⟩
  ·cases h
 ·cases h
theorem HF.same_of {a b : HF} (h : a.same b = true) : a = b := by
 cases a <;> cases b <;> simp only [HF.same, Bool.false_eq_true] at h <;> first | rfl | rw [nbeq_of h]
theorem RC.same_of {a b : RC} (h : a.same b = true) : a = b := by
 cases a <;> cases b <;> simp only [RC.same, Bool.false_eq_true, Bool.and_eq_true, iEq_eq] at h
 ·rw [kEq_of h.1.1, nbeq_of h.1.2, nbeq_of h.2]
 ·rw [kEq_of h.1.1, eq_of_beq h.1.2, eq_of_beq h.2]
 ·rw [nbeq_of h.1, nbeq_of h.2]
 ·rw [nbeq_of h.1, nbeq_of h.2]
 ·rw [nbeq_of h.1, nbeq_of h.2]
 ·rw [kEq_of h.1.1.1.1, nbeq_of h.1.1.1.2, nbeq_of h.1.1.2, nbeq_of h.1.2, nbeq_of h.2]
 ·rw [kEq_of h.1.1.1, HF.same_of h.1.1.2, nbeq_of h.1.2, nbeq_of h.2]
theorem isNum_val {c : RC} {v x : Value} (hn : c.isNum = true) (hx : c.val v = some x) : ∃ k n, x = .int k n := by
 cases c with
 | rng k lo hi => obtain ⟨n, rfl, _⟩ := val_rng hx; exact ⟨_, _, rfl⟩
 | nat k f lo hi => obtain ⟨_, _, _, _, rfl⟩ := val_nat hx; exact ⟨_, _, rfl⟩
 | _ => cases hn
theorem eqLeaf_run {P : Program} {X : XP} (ok : XPok P X) (w : World) {e : Env} {xs ys : List AV} {us vs : List Value} (hx : cvs e xs = some us) (hy : cvs e ys = some vs) {ty off : Nat} {b : Bool}
 (h : eqLeaf (X.tys.get ty) xs[off]? ys[off]? = some b) (d : Nat) :
 ∃ p q, (part ty us.toArray off).run P w = .ok p w ∧ (part ty vs.toArray off).run P w = .ok q w ∧ (Op.equalIn (d + 1) ty p q).run P w = .ok b w := by
 unfold eqLeaf at h
 split at h
 ·rename_i ti i c j d' ht hxx hyy;simp only [eqSelf, brec] at h;have hk := ok.tys ty ti ht;cases hb : (ti.isInt && Nat.beq i j && c.same d' && c.isNum) with
  | false => rw [hb] at h; cases h
  | true =>
   rw [hb] at h; simp only [cond_true, Option.some.injEq] at h; subst h;simp only [Bool.and_eq_true] at hb;obtain rfl := nbeq_of hb.1.1.2;obtain rfl := RC.same_of hb.1.2;obtain ⟨p, hp, hpx⟩ := cvs_get hx _ _ hxx;obtain ⟨q, hq, hqy⟩ := cvs_get hy _ _ hyy;have hp' : c.val (e.sy i) = some p := hp;have hq' : c.val (e.sy i) = some q := hq;rw [hp'] at hq'; cases hq';obtain ⟨k, n, rfl⟩ := isNum_val hb.2 hp';have hi := hb.1.1.1;unfold TyI.isInt at hi
   split at hi
   ·rename_i k' hti;have ha : ti.isAgg = false := by simp [TyI.isAgg, hti]
    refine ⟨.int k n, .int k n, ?_, ?_, ?_⟩
    ·simp [part, run_isAgg' w hk, ha, hpx]
    ·simp [part, run_isAgg' w hk, ha, hqy]
    ·obtain ⟨dd, hd, hk2⟩ := hk.und;rw [hti] at hk2;cases dd <;> simp [TKok] at hk2
     simp [Op.equalIn, run_underlying hd]
   ·cases hi
 ·rename_i ti x y _ ht hxx hyy;simp only [brec] at h;have hk := ok.tys ty ti ht;cases ha : ti.isAgg with
  | true => rw [ha] at h; cases h
  | false =>
   rw [ha] at h; simp only [cond_false] at h;obtain ⟨p, hp, hpx⟩ := cvs_get hx _ _ hxx;obtain ⟨q, hq, hqy⟩ := cvs_get hy _ _ hyy;refine ⟨p, q, ?_, ?_, eq1_run w hk h hp hq d⟩
   ·simp [part, run_isAgg' w hk, ha, hpx]
   ·simp [part, run_isAgg' w hk, ha, hqy]
 ·cases h
theorem eqFields_run {P : Program} {X : XP} (ok : XPok P X) (w : World) {e : Env} {xs ys : List AV} {us vs : List Value} (hx : cvs e xs = some us) (hy : cvs e ys = some vs) (d : Nat) :
 ∀ (fs : List Field) (gs : List FldI) (b : Bool), (fs.map fun f => (f.offset, f.type, P.cellsOf f.type)) = gs.map (fun g => (g.off, g.ty, g.size)) → (∀ f ∈ fs, f.name ≠ "_") →
  eqFields X xs ys gs = some b → (Op.eqFields (d + 1) us.toArray vs.toArray fs).run P w = .ok b w := by
 intro fs
 induction fs with
 | nil =>
  intro gs b hm _ h;cases gs with
  | nil => simp only [eqFields, Option.some.injEq] at h; subst h; rfl
  | cons g gs => simp at hm
 | cons f fs ih =>
  intro gs b hm hn h;cases gs with
  | nil => simp at hm
  | cons g gs =>
   simp only [List.map_cons, List.cons.injEq, Prod.mk.injEq] at hm;obtain ⟨⟨h1, h2, _⟩, hm⟩ := hm;simp only [eqFields] at h;have hnm := hn f (by simp)
   cases hl : eqLeaf (X.tys.get g.ty) xs[g.off]? ys[g.off]? with
   | none => rw [hl] at h; cases h
   | some r =>
    rw [hl] at h;obtain ⟨p, q, hp, hq, he⟩ := eqLeaf_run ok w hx hy hl d;rw [← h1, ← h2] at hp hq;rw [← h2] at he;simp only [Op.eqFields, if_pos hnm, Sem.run_bind, hp, hq, he, Result.andThen_ok];cases r with
    | false => simp only [andThen, Option.some.injEq] at h; subst h; simp
    | true =>
     simp only [andThen] at h;have := ih gs b hm (fun f hf => hn f (by simp [hf])) h
     simpa using this
theorem eqA_run {P : Program} {X : XP} (ok : XPok P X) (w : World) {t : TypeId} {ti : TyI} (ht : TyOk P t ti) {x y : AV} {b : Bool} (h : eqA X ti x y = some b) {e : Env} {vx vy : Value}
 (hx : cv e x = some vx) (hy : cv e y = some vy) (op : BinOp) (ox oy : Operand) (d : Nat) :
 (eqGuard op t ox oy vx vy).run P w = .ok () w ∧ (Op.equalIn (d + 2) t vx vy).run P w = .ok b w := by
 unfold eqA at h
 split at h
 ·rename_i fs xs ys hti;simp only [brec] at h;cases hc : ti.cmp with
  | false => rw [hc] at h; cases h
  | true =>
   rw [hc] at h; simp only [cond_true] at h;obtain ⟨us, hus, rfl⟩ := cv_agg hx;obtain ⟨vs, hvs, rfl⟩ := cv_agg hy;obtain ⟨g1, g2, g3⟩ := ht.cmp hc;refine ⟨run_eqGuard_agg w op t ox oy _ _ g2, ?_⟩;obtain ⟨dd, hd, hk⟩ := ht.und;rw [hti] at hk; cases dd <;> simp only [TKok] at hk
   rename_i gs;have hf : P.fieldsOf t = gs := by simp [Program.fieldsOf, hd]
   rw [run_equalIn_struct w (d + 1) t _ _ (by rw [hf]; exact hd) g1, hf]
   exact eqFields_run ok w hus hvs d gs.toList fs b hk (fun f hm => g3 gs hd f (by simpa using hm)) h
 ·rename_i hns;refine ⟨?_, eq1_run w ht h hx hy (d + 1)⟩;unfold eq1 at h
  split at h
  all_goals first
   | (cases h; done)
   | skip
  all_goals
   apply eqGuard_plain
   ·rintro ⟨h1, h2⟩;subst h1; subst h2
    first
     | (simp only [cv, Option.some.injEq, reduceCtorEq] at hx; done)
     | (simp only [cv, Option.some.injEq, reduceCtorEq] at hy; done)
     | (obtain ⟨_, h⟩ := cv_str hx; cases h)
     | (obtain ⟨_, _, h⟩ := cv_ptr hx; cases h)
     | (obtain ⟨_, _, h⟩ := cv_sl hx; cases h)
   ·rintro a b ⟨h1, h2⟩;subst h1; subst h2
    first
     | (simp only [cv, Option.some.injEq, reduceCtorEq] at hx; done)
     | (simp only [cv, Option.some.injEq, reduceCtorEq] at hy; done)
     | (obtain ⟨_, h⟩ := cv_str hx; cases h)
     | (obtain ⟨_, _, h⟩ := cv_ptr hx; cases h)
     | (obtain ⟨_, _, h⟩ := cv_sl hx; cases h)
theorem val_str {lo hi : Nat} {v x : Value} (h : (RC.strLen lo hi).val v = some x) : ∃ s, v = .string s ∧ x = .string s ∧ (lo ≤ s.size ∧ s.size ≤ hi) := by
 cases v <;> first
  | (simp [RC.val] at h; done)
  | (simp only [RC.val] at h
     split at h
     ·rename_i hb; cases h; exact ⟨_, rfl, rfl, hb⟩
     ·cases h)
theorem val_sl {lo hi : Nat} {v x : Value} (h : (RC.slLen lo hi).val v = some x) : ∃ a n c, v = .slice a n c ∧ x = .slice a n c ∧ (lo ≤ n ∧ n ≤ hi) := by
 cases v <;> first
  | (simp [RC.val] at h; done)
  | (simp only [RC.val] at h
     split at h
     ·rename_i hb; cases h; exact ⟨_, _, _, rfl, rfl, hb⟩
     ·cases h)
theorem val_len {lo hi : Nat} {v x : Value} (h : (RC.lenOf lo hi).val v = some x) : ∃ n : Nat, x = .int .i64 (Int.ofNat n) ∧ (lo ≤ n ∧ n ≤ hi) := by
 cases v <;> first
  | (simp [RC.val] at h; done)
  | (simp only [RC.val] at h
     split at h
     ·rename_i hb; cases h; exact ⟨_, rfl, hb⟩
     ·cases h)
theorem val_md {k : IntKind} {m r : Nat} {v x : Value} (h : (RC.md k m r).val v = some x) : ∃ n : Nat, x = .int k (Int.ofNat n) ∧ n % m = r := by
 cases v <;> try (simp [RC.val] at h; done)
 rename_i k' z;cases z with
 | negSucc z => simp [RC.val] at h
 | ofNat z =>
  simp only [RC.val] at h
  split at h
  ·rename_i hb; cases h; exact ⟨_, rfl, hb.2⟩
  ·cases h
theorem kEq_refl (k : IntKind) : kEq k k = true := by cases k <;> rfl
theorem cmpRng_int {lo hi b x : Int} {op : BinOp} {v : AV} (h : cmpRng lo hi b op = some v) (k : IntKind) (h1 : lo ≤ x) (h2 : x ≤ hi) : binInt op k k x b = some v := by
 unfold cmpRng at h
 split at h
 all_goals first
  | (cases h; done)
  | skip
 all_goals simp only [brec, iLt_eq, iLe_eq, cond_eq_ite, Bool.or_eq_true, Bool.and_eq_true, decide_eq_true_eq] at h
 all_goals simp only [binInt, kEq_refl, intBin, iLt_eq, iLe_eq, iEq_eq]
 all_goals
  repeat' split at h
  all_goals first
   | (cases h; done)
   | (cases h; simp; omega)
theorem cmpL2_int {lo hi a x : Int} {op : BinOp} {v : AV} (h : cmpL2 lo hi a (swapOp op) = some v) (k : IntKind) (h1 : lo ≤ x) (h2 : x ≤ hi) : binInt op k k a x = some v := by
 cases hs : swapOp op with
 | none => rw [hs] at h; cases h
 | some q =>
  rw [hs] at h;have := cmpRng_int (show cmpRng lo hi a q = some v from h) k h1 h2
  rw [← this];cases op <;> simp only [swapOp, Option.some.injEq, reduceCtorEq] at hs <;> subst hs <;> simp only [binInt, kEq_refl, intBin, iLt_eq, iLe_eq, iEq_eq]
  ·rw [Bool.beq_comm]
  ·rw [Bool.beq_comm]
theorem binIL_run {P : Program} (w : World) {op : BinOp} {k : IntKind} {a : Int} {c : RC} {v : AV} (h : binIL op k a c = some v) {y vy : Value} (hy : c.val y = some vy) (t : TypeId) (e : Env) :
 ∃ k' x, vy = .int k' x ∧ ∃ z, cv e v = some z ∧ (binOp op t (.int k a) vy).run P w = .ok z w := by
 cases c with
 | rng k' lo hi =>
  obtain ⟨n, rfl, hn⟩ := val_rng hy;refine ⟨_, _, rfl, ?_⟩;simp only [binIL, brec] at h;cases hb : kEq k k' with
  | false => rw [hb] at h; cases h
  | true =>
   rw [hb] at h; simp only [cond_true] at h;obtain rfl := kEq_of hb;exact binInt_run (P := P) w (cmpL2_int h k hn.1 hn.2) t e
 | lenOf lo hi =>
  obtain ⟨n, rfl, hn⟩ := val_len hy;refine ⟨_, _, rfl, ?_⟩;simp only [binIL, brec] at h;cases hb : kEq k .i64 with
  | false => rw [hb] at h; cases h
  | true =>
   rw [hb] at h; simp only [cond_true] at h;obtain rfl := kEq_of hb;exact binInt_run (P := P) w (cmpL2_int h .i64 (Int.ofNat_le.2 hn.1) (Int.ofNat_le.2 hn.2)) t e
 | _ => cases h
theorem val_bits {k : IntKind} {j m r n : Nat} {v x : Value} (h : (RC.bits k j m r n).val v = some x) : ∃ y : Nat, v = .int k (Int.ofNat y) ∧ y / 2 ^ j % m = r ∧ x = .int k (Int.ofNat (y / 2 ^ n)) := by
 unfold RC.val at h
 split at h <;> rename_i heq
 all_goals first
  | (cases heq; done)
  | skip
 ·cases heq
  split at h
  ·rename_i hh;cases h;exact ⟨_, by rw [hh.1], hh.2, rfl⟩
  ·cases h
 ·cases h
theorem bit_of {y j m r d : Nat} (h : y % m = r) (hm : m % 2 ^ (d + 1) = 0) : (y / 2 ^ d) % 2 = (r / 2 ^ d) % 2 := by
 obtain ⟨t, ht⟩ := Nat.dvd_of_mod_eq_zero hm;have h1 : y = m * (y / m) + r := by rw [← h]; exact (Nat.div_add_mod y m).symm
 have h2 : y = 2 ^ d * (2 * (t * (y / m))) + r := by
  rw [ht, Nat.pow_succ] at h1;rw [ht, Nat.pow_succ];generalize y / (2 ^ d * 2 * t) = q at h1 ⊢;have : 2 ^ d * (2 * (t * q)) = 2 ^ d * 2 * t * q := by simp [Nat.mul_assoc]
  rw [this]; exact h1
 generalize t * (y / m) = q at h2;have hp : 0 < 2 ^ d := Nat.pow_pos (by decide)
 rw [h2, Nat.mul_add_div hp, Nat.mul_add_mod]
theorem mod_all (k : IntKind) (y : Nat) : y % kAll k % 2 = y % 2 := by
 cases k
 ·show y % 256 % 2 = y % 2; omega
 ·show y % 65536 % 2 = y % 2; omega
 ·show y % 4294967296 % 2 = y % 2; omega
 ·show y % 18446744073709551616 % 2 = y % 2; omega
 ·show y % 256 % 2 = y % 2; omega
 ·show y % 65536 % 2 = y % 2; omega
 ·show y % 4294967296 % 2 = y % 2; omega
 ·show y % 18446744073709551616 % 2 = y % 2; omega
theorem land_one (k : IntKind) (y : Nat) : wrapN k (Nat.land (natOf k (Int.ofNat y)) (natOf k (Int.ofNat 1))) = Int.ofNat (y % 2) := by
 have h1 : natOf k (Int.ofNat y) = y % kAll k := rfl;have h2 : natOf k (Int.ofNat 1) = 1 := by cases k <;> rfl
 have h3 : Nat.land (y % kAll k) 1 = y % 2 := (Nat.and_one_is_mod (y % kAll k)).trans (mod_all k y);rw [h1, h2, h3];have hlt : y % 2 < 2 := Nat.mod_lt _ (by decide)
 have hb : Nat.blt (y % 2) (kTop k) = true := by
  rw [nblt_eq];exact decide_eq_true (Nat.lt_of_lt_of_le hlt (by cases k <;> decide))
 unfold wrapN;rw [brec, hb];rfl
theorem nat_cv {e : Env} {i : Nat} {k kk : IntKind} {f : HF} {lo hi N : Nat} (hs : e.sy i = .int kk (Int.ofNat N)) (h : lo ≤ N ∧ N ≤ hi) : cv e (.res i (.nat k f lo hi)) = some (.int k (Int.ofNat (hfv f N))) := by
 show (RC.nat k f lo hi).val (e.sy i) = _;rw [hs];simp only [RC.val, h, and_self, if_true]
theorem natLow_cv {e : Env} {i : Nat} {k kk : IntKind} {lo hi N : Nat} (hs : e.sy i = .int kk (Int.ofNat N)) (h : lo ≤ N ∧ N ≤ hi) (j : Nat) : cv e (natLow i k lo hi j) = some (.int k (Int.ofNat (N % 2 ^ (8 * j)))) := by
 unfold natLow;simp only [brec];cases hb : Nat.blt hi (Nat.pow 2 (8 * j)) with
 | true =>
  have : hi < 2 ^ (8 * j) := nblt_of hb;rw [cond_true, nat_cv hs h];simp only [hfv];rw [Nat.mod_eq_of_lt (by omega)]
 | false => rw [cond_false, nat_cv hs h]; rfl
theorem kTop_all (k : IntKind) : kTop k ≤ kAll k := by cases k <;> decide
theorem natOf_nat {k : IntKind} {n : Nat} (h : n < kTop k) : natOf k (Int.ofNat n) = n := Nat.mod_eq_of_lt (Nat.lt_of_lt_of_le h (kTop_all k))
theorem wrapN_nat {k : IntKind} {n : Nat} (h : n < kTop k) : wrapN k n = Int.ofNat n := by
 unfold wrapN;rw [brec, show Nat.blt n (kTop k) = true by rw [nblt_eq]; exact decide_eq_true h]; rfl
theorem fwrap_nat {k : IntKind} {n : Nat} (h : n < kTop k) : fwrap k (Int.ofNat n) = Int.ofNat n := by
 unfold fwrap;simp only [brec];rw [show Nat.blt n (kTop k) = true by rw [nblt_eq]; exact decide_eq_true h]; rfl
theorem or_nat {k : IntKind} {a b : Nat} (ha : a < kTop k) (hb : b < kTop k) (hc : a ||| b < kTop k) : binInt .or k k (Int.ofNat a) (Int.ofNat b) = some (.int k (Int.ofNat (a ||| b))) := by
 simp only [binInt, kEq_refl, intBin];rw [natOf_nat ha, natOf_nat hb, show Nat.lor a b = a ||| b from rfl, wrapN_nat hc]
theorem mod_step (N j : Nat) : N % 2 ^ (8 * (j + 1)) = 2 ^ (8 * j) * (N / 2 ^ (8 * j) % 256) + N % 2 ^ (8 * j) := by
 have h : 2 ^ (8 * (j + 1)) = 2 ^ (8 * j) * 256 := by rw [Nat.mul_add, Nat.pow_add]
 rw [h, Nat.mod_mul, Nat.add_comm]
theorem or_low (N j : Nat) : N % 2 ^ (8 * j) ||| N / 2 ^ (8 * j) % 256 * 2 ^ (8 * j) = N % 2 ^ (8 * (j + 1)) := by
 have h := Nat.two_pow_add_eq_or_of_lt (Nat.mod_lt N (Nat.pow_pos (a := 2) (n := 8 * j) (by decide))) (N / 2 ^ (8 * j) % 256)
 rw [mod_step, h, Nat.or_comm, Nat.mul_comm]
theorem byte_lt (N j : Nat) : N / 2 ^ (8 * j) % 256 * 2 ^ (8 * j) < 2 ^ (8 * (j + 1)) := by
 have h : 2 ^ (8 * (j + 1)) = 256 * 2 ^ (8 * j) := by rw [Nat.mul_add, Nat.pow_add, Nat.mul_comm]
 rw [h];exact Nat.mul_lt_mul_of_pos_right (Nat.mod_lt _ (by decide)) (Nat.pow_pos (by decide))
theorem natOp_run {P : Program} (w : World) {op : BinOp} {k k' : IntKind} {f : HF} {i lo hi : Nat} {b : Int} {v : AV} (h : natOp i k k' f lo hi b op = some v) {e : Env} {vx : Value} (hx : (RC.nat k f lo hi).val (e.sy i) = some vx) (t : TypeId) :
 ∃ x, vx = .int k x ∧ ∃ z, cv e v = some z ∧ (binOp op t vx (.int k' b)).run P w = .ok z w := by
 obtain ⟨kk, N, hs, hr, rfl⟩ := val_nat hx;refine ⟨_, rfl, ?_⟩;have fin : ∀ {u : AV}, binInt op k k' (Int.ofNat (hfv f N)) b = some u → cv e u = cv e v → ∃ z, cv e v = some z ∧ (binOp op t (.int k (Int.ofNat (hfv f N))) (.int k' b)).run P w = .ok z w := by
  intro u hu hv;obtain ⟨z, hz, hrun⟩ := binInt_run (P := P) w hu t e;exact ⟨z, hv ▸ hz, hrun⟩
 have cmp : natCmp k k' lo hi b op f = some v → ∃ z, cv e v = some z ∧ (binOp op t (.int k (Int.ofNat (hfv f N))) (.int k' b)).run P w = .ok z w := by
  intro hc;cases f with
  | full =>
   simp only [natCmp, brec] at hc;cases hk : kEq k k' with
   | false => rw [hk] at hc; cases hc
   | true =>
    rw [hk] at hc; simp only [cond_true] at hc;obtain rfl := kEq_of hk;exact fin (cmpRng_int hc k (Int.ofNat_le.2 hr.1) (Int.ofNat_le.2 hr.2)) rfl
  | _ => cases hc
 cases op with
 | shr =>
  simp only [natOp] at h;cases b with
  | negSucc b => cases h
  | ofNat s =>
   cases f with
   | full =>
    simp only [natShr, brec] at h;cases hb : Nat.ble s (kBits k) with
    | false => rw [hb] at h; cases h
    | true =>
     rw [hb] at h; simp only [cond_true] at h;have hle := nble_of hb;have hu : binInt .shr k k' (Int.ofNat N) (Int.ofNat s) = some (.int k (Int.ofNat (N / 2 ^ s))) := by
      simp only [binInt, shiftA, leastN_eq, Nat.min_eq_left hle, shrA];rfl
     cases hz : Nat.blt hi (Nat.pow 2 s) with
     | true =>
      rw [hz] at h; simp only [cond_true, Option.some.injEq] at h; subst h;have hlt : hi < 2 ^ s := nblt_of hz;refine fin hu ?_;rw [Nat.div_eq_of_lt (by omega)]
     | false =>
      rw [hz] at h; simp only [cond_false, Option.some.injEq] at h; subst h;refine fin hu ?_;rw [nat_cv hs hr]; rfl
   | _ => simp [natShr] at h
 | shl =>
  simp only [natOp] at h;cases b with
  | negSucc b => cases h
  | ofNat s =>
   cases f with
   | byt j =>
    simp only [natShl, brec] at h;cases hb : (Nat.beq s (8 * j) && Nat.ble s (kBits k) && Nat.ble (Nat.pow 2 (8 * (j + 1))) (kTop k)) with
    | false => rw [hb] at h; cases h
    | true =>
     rw [hb] at h; simp only [cond_true, Option.some.injEq] at h; subst h;simp only [Bool.and_eq_true] at hb;obtain rfl := nbeq_of hb.1.1;have hle := nble_of hb.1.2;have htop : 2 ^ (8 * (j + 1)) ≤ kTop k := nble_of hb.2;have hlt : N / 2 ^ (8 * j) % 256 * 2 ^ (8 * j) < kTop k := Nat.lt_of_lt_of_le (byte_lt N j) htop;have hu : binInt .shl k k' (Int.ofNat (N / 2 ^ (8 * j) % 256)) (Int.ofNat (8 * j)) = some (.int k (Int.ofNat (N / 2 ^ (8 * j) % 256 * 2 ^ (8 * j)))) := by
      simp only [binInt, shiftA, leastN_eq, Nat.min_eq_left hle, shlA];rw [show Nat.mul (N / 2 ^ (8 * j) % 256) (Nat.pow 2 (8 * j)) = N / 2 ^ (8 * j) % 256 * 2 ^ (8 * j) from rfl, fwrap_nat hlt]
     refine fin hu ?_;rw [nat_cv hs hr]; rfl
   | _ => simp [natShl] at h
 | or =>
  simp only [natOp, brec] at h;cases hb : (kEq k k' && iEq b 0) with
  | false => rw [hb] at h; cases h
  | true =>
   rw [hb] at h; simp only [cond_true] at h;simp only [Bool.and_eq_true] at hb;obtain rfl := kEq_of hb.1;have hb0 : b = 0 := by have := hb.2; rw [iEq_eq] at this; exact eq_of_beq this
   subst hb0;cases f with
   | full =>
    simp only [natOr0, brec] at h;cases hz : Nat.blt hi (kTop k) with
    | false => rw [hz] at h; cases h
    | true =>
     rw [hz] at h; simp only [cond_true, Option.some.injEq] at h; subst h;have hlt := nblt_of hz;have h0 : 0 < kTop k := by omega
     refine fin (or_nat (a := N) (b := 0) (by omega) h0 (by rw [Nat.or_zero]; omega)) ?_
     rw [nat_cv hs hr, Nat.or_zero]; rfl
   | _ => simp [natOr0] at h
 | _ => exact cmp h
theorem binIR_run {P : Program} (w : World) {op : BinOp} {k : IntKind} {a : Int} {i : Nat} {c : RC} {v : AV} (h : binIR op k a i c = some v) {e : Env} {vy : Value} (hy : c.val (e.sy i) = some vy) (t : TypeId) :
 ∃ k' y, vy = .int k' y ∧ ∃ z, cv e v = some z ∧ (binOp op t (.int k a) vy).run P w = .ok z w := by
 unfold binIR at h
 split at h
 ·rename_i k' lo hi
  split at h
  ·simp only [brec] at h;cases hb : (kEq k k' && iEq a 0 && Nat.ble 256 (kTop k)) with
   | false => rw [hb] at h; cases h
   | true =>
    rw [hb] at h; simp only [cond_true, Option.some.injEq] at h; subst h;simp only [Bool.and_eq_true] at hb;obtain rfl := kEq_of hb.1.1;have ha0 : a = 0 := by have := hb.1.2; rw [iEq_eq] at this; exact eq_of_beq this
    subst ha0;have htop := nble_of hb.2;obtain ⟨kk, N, hs, hr, rfl⟩ := val_nat hy;refine ⟨_, _, rfl, ?_⟩;have hv : hfv (.bs 0) N = N % 256 := by simp [hfv]
    have hlt : N % 256 < kTop k := Nat.lt_of_lt_of_le (Nat.mod_lt _ (by decide)) htop
    rw [hv];obtain ⟨z, hz, hrun⟩ := binInt_run (P := P) w (or_nat (k := k) (a := 0) (b := N % 256) (by omega) hlt (by rw [Nat.zero_or]; exact hlt)) t e
    refine ⟨z, ?_, hrun⟩;rw [natLow_cv hs hr, ← hz, Nat.zero_or]; rfl
  ·cases h
 ·exact binIL_run (P := P) w h hy t e
theorem binRR_run {P : Program} (w : World) {op : BinOp} {i j : Nat} {c d : RC} {v : AV} (h : binRR op i c j d = some v) {e : Env} {vx vy : Value} (hx : c.val (e.sy i) = some vx) (hy : d.val (e.sy j) = some vy) (t : TypeId) :
 ∃ k x k' y, vx = .int k x ∧ vy = .int k' y ∧ ∃ z, cv e v = some z ∧ (binOp op t vx vy).run P w = .ok z w := by
 have num : ∀ {x : Value}, c.isNum = true → c.val (e.sy i) = some x → ∃ k n, x = .int k n := by
  intro x hn hx;cases c with
  | rng k lo hi => obtain ⟨n, rfl, _⟩ := val_rng hx; exact ⟨_, _, rfl⟩
  | nat k f lo hi => obtain ⟨_, _, _, _, rfl⟩ := val_nat hx; exact ⟨_, _, rfl⟩
  | _ => cases hn
 unfold binRR at h
 split at h
 ·simp only [brec] at h;cases hb : Nat.beq i j with
  | false => rw [hb] at h; cases h
  | true =>
   rw [hb] at h; simp only [cond_true] at h;obtain rfl := nbeq_of hb;unfold natOr2 at h
   split at h
   ·rename_i k jj lo hi k' jj' lo' hi';simp only [brec] at h;cases hc : (kEq k k' && Nat.beq jj jj' && Nat.beq lo lo' && Nat.beq hi hi' && Nat.ble (Nat.pow 2 (8 * (jj + 1))) (kTop k)) with
    | false => rw [hc] at h; cases h
    | true =>
     rw [hc] at h; simp only [cond_true, Option.some.injEq] at h; subst h;simp only [Bool.and_eq_true] at hc;obtain rfl := kEq_of hc.1.1.1.1;obtain rfl := nbeq_of hc.1.1.1.2;obtain rfl := nbeq_of hc.1.1.2;obtain rfl := nbeq_of hc.1.2;have htop : 2 ^ (8 * (jj + 1)) ≤ kTop k := nble_of hc.2;obtain ⟨kk, N, hs, hr, rfl⟩ := val_nat hx;obtain ⟨kk', N', hs', hr', rfl⟩ := val_nat hy;rw [hs] at hs';simp only [Value.int.injEq, Int.ofNat_eq_natCast, Int.natCast_inj] at hs';obtain ⟨_, rfl⟩ := hs';refine ⟨_, _, _, _, rfl, rfl, ?_⟩;have hpos : 2 ^ (8 * jj) ≤ 2 ^ (8 * (jj + 1)) := Nat.pow_le_pow_right (by decide) (by omega)
     have h1 : N % 2 ^ (8 * jj) < kTop k := Nat.lt_of_lt_of_le (Nat.mod_lt _ (Nat.pow_pos (by decide))) (Nat.le_trans hpos htop)
     have h2 : N / 2 ^ (8 * jj) % 256 * 2 ^ (8 * jj) < kTop k := Nat.lt_of_lt_of_le (byte_lt N jj) htop;have h3 : N % 2 ^ (8 * (jj + 1)) < kTop k := Nat.lt_of_lt_of_le (Nat.mod_lt _ (Nat.pow_pos (by decide))) htop
     obtain ⟨z, hz, hrun⟩ := binInt_run (P := P) w (or_nat (k := k) h1 h2 (by rw [or_low]; exact h3)) t e
     refine ⟨z, ?_, hrun⟩;rw [natLow_cv hs hr, ← hz, or_low]; rfl
   ·cases h
 ·simp only [brec] at h;cases hb : (Nat.beq i j && c.same d && c.isNum) with
  | false => rw [hb] at h; cases h
  | true =>
   rw [hb] at h; simp only [cond_true, Option.some.injEq] at h; subst h;simp only [Bool.and_eq_true] at hb;obtain rfl := nbeq_of hb.1.1;obtain rfl := RC.same_of hb.1.2;obtain ⟨k, n, rfl⟩ := num hb.2 hx;rw [hx] at hy; cases hy;refine ⟨_, _, _, _, rfl, rfl, ?_⟩;refine binInt_run (P := P) w (k := k) (k' := k) (a := n) (b := n) ?_ t e;simp only [binInt, kEq_refl, intBin, iEq_eq, beq_self_eq_true]
 ·simp only [brec] at h;cases hb : (Nat.beq i j && c.same d && c.isNum) with
  | false => rw [hb] at h; cases h
  | true =>
   rw [hb] at h; simp only [cond_true, Option.some.injEq] at h; subst h;simp only [Bool.and_eq_true] at hb;obtain rfl := nbeq_of hb.1.1;obtain rfl := RC.same_of hb.1.2;obtain ⟨k, n, rfl⟩ := num hb.2 hx;rw [hx] at hy; cases hy;refine ⟨_, _, _, _, rfl, rfl, ?_⟩;refine binInt_run (P := P) w (k := k) (k' := k) (a := n) (b := n) ?_ t e;simp only [binInt, kEq_refl, intBin, iEq_eq, beq_self_eq_true, Bool.not_true]
 ·cases h
theorem binBits_run {P : Program} (w : World) {op : BinOp} {k k' : IntKind} {i j m r n : Nat} {b : Int} {v : AV} (h : binBits i k k' j m r n b op = some v) {e : Env} {vx : Value} (hx : (RC.bits k j m r n).val (e.sy i) = some vx) (t : TypeId) :
 ∃ x, vx = .int k x ∧ ∃ z, cv e v = some z ∧ (binOp op t vx (.int k' b)).run P w = .ok z w := by
 obtain ⟨y, hy, hr, rfl⟩ := val_bits hx;refine ⟨_, rfl, ?_⟩;cases op with
 | shr =>
  simp only [binBits] at h;cases b with
  | negSucc b => cases h
  | ofNat s =>
   simp only [bitsS, brec] at h;cases hs : Nat.ble s (kBits k) with
   | false => rw [hs] at h; cases h
   | true =>
    rw [hs] at h; simp only [cond_true, Option.some.injEq] at h; subst h;have hle := nble_of hs;have hu : binInt .shr k k' (Int.ofNat (y / 2 ^ n)) (Int.ofNat s) = some (.int k (Int.ofNat (y / 2 ^ n / 2 ^ s))) := by
     simp only [binInt, shiftA, leastN_eq, Nat.min_eq_left hle, shrA];rfl
    obtain ⟨z, hz, hrun⟩ := binInt_run (P := P) w hu t e;refine ⟨z, ?_, hrun⟩;rw [← hz];show (RC.bits k j m r (n + s)).val (e.sy i) = _;rw [hy];simp only [RC.val, hr, and_self, if_true, cv];rw [Nat.pow_add, Nat.div_div_eq_div_mul]
 | and =>
  simp only [binBits] at h;unfold bitsA at h
  split at h
  ·simp only [brec] at h;cases hc : (kEq k k' && Nat.ble j n && Nat.beq (Nat.mod m (Nat.pow 2 (n - j + 1))) 0) with
   | false => rw [hc] at h; cases h
   | true =>
    rw [hc] at h; simp only [cond_true, Option.some.injEq] at h; subst h;simp only [Bool.and_eq_true] at hc;obtain rfl := kEq_of hc.1.1;have hjn := nble_of hc.1.2;have hm : m % 2 ^ (n - j + 1) = 0 := nbeq_of hc.2;have hbit : (y / 2 ^ n) % 2 = (r / 2 ^ (n - j)) % 2 := by
     have := bit_of (j := j) hr hm;rw [Nat.div_div_eq_div_mul, ← Nat.pow_add, show j + (n - j) = n by omega] at this
     exact this
    have hu : binInt .and k k (Int.ofNat (y / 2 ^ n)) (Int.ofNat 1) = some (.int k (Int.ofNat ((r / 2 ^ (n - j)) % 2))) := by
     rw [← hbit];simp only [binInt, kEq_refl, intBin];rw [land_one]
    obtain ⟨z, hz, hrun⟩ := binInt_run (P := P) w hu t e;exact ⟨z, hz, hrun⟩
  ·cases h
 | _ => simp [binBits] at h
theorem binRes_run {P : Program} (w : World) {op : BinOp} {k' : IntKind} {b : Int} {c : RC} {v : AV} (h : binRes op k' b c = some v) {y vx : Value} (hx : c.val y = some vx) (t : TypeId) (e : Env) :
 ∃ k x, vx = .int k x ∧ ∃ z, cv e v = some z ∧ (binOp op t vx (.int k' b)).run P w = .ok z w := by
 cases c with
 | md k m r =>
  obtain ⟨n, rfl, hn⟩ := val_md hx;refine ⟨k, _, rfl, ?_⟩;simp only [binRes, brec] at h;cases hb : (kEq k k' && isRem op) with
  | false => rw [hb] at h; cases h
  | true =>
   rw [hb] at h; simp only [cond_true] at h;simp only [Bool.and_eq_true] at hb;obtain rfl := kEq_of hb.1;have ho : op = .rem := by have := hb.2; unfold isRem at this; split at this <;> first | rfl | cases this
   subst ho;cases b with
   | negSucc b => cases h
   | ofNat m' =>
    simp only [remMd, brec] at h;cases hm : (Nat.beq m m' && Nat.blt 0 m) with
    | false => rw [hm] at h; cases h
    | true =>
     rw [hm] at h; simp only [cond_true, Option.some.injEq] at h; subst h;simp only [Bool.and_eq_true] at hm;obtain rfl := nbeq_of hm.1;have hpos := nblt_of hm.2;refine binInt_run (P := P) w (k := k) (k' := k) (a := Int.ofNat n) (b := Int.ofNat m) ?_ t e;have hz : (Int.ofNat m == 0) = false := by
      refine beq_eq_false_iff_ne.2 fun hh => ?_
      have : m = 0 := Int.ofNat.inj hh;omega
     simp only [binInt, kEq_refl, intBin, iEq_eq, hz];show some (AV.int k (Int.ofNat (n % m))) = _;rw [hn]
 | rng k lo hi =>
  obtain ⟨n, rfl, hn⟩ := val_rng hx;refine ⟨k, _, rfl, ?_⟩;simp only [binRes, brec] at h;cases hb : kEq k k' with
  | false => rw [hb] at h; cases h
  | true =>
   rw [hb] at h; simp only [cond_true] at h;obtain rfl := kEq_of hb;exact binInt_run (P := P) w (cmpRng_int h k hn.1 hn.2) t e
 | lenOf lo hi =>
  obtain ⟨n, rfl, hn⟩ := val_len hx;refine ⟨.i64, _, rfl, ?_⟩;simp only [binRes, brec] at h;cases hb : kEq .i64 k' with
  | false => rw [hb] at h; cases h
  | true =>
   rw [hb] at h; simp only [cond_true] at h;obtain rfl := kEq_of hb;exact binInt_run (P := P) w (cmpRng_int h .i64 (Int.ofNat_le.2 hn.1) (Int.ofNat_le.2 hn.2)) t e
 | slLen lo hi => cases h
 | bits => cases h
 | nat => cases h
 | strLen lo hi => cases h
theorem binA_run {P : Program} {X : XP} (ok : XPok P X) (w : World) {op : BinOp} {t : TypeId} {x y v : AV} (h : binA X op t x y = some v) {e : Env} {vx vy : Value}
 (hx : cv e x = some vx) (hy : cv e y = some vy) (ox oy : Operand) :
 ∃ z, cv e v = some z ∧ (do eqGuard op t ox oy vx vy; binOp op t vx vy : Sem Value).run P w = .ok z w := by
 unfold binA at h
 split at h
 ·cases cv_int hx; cases cv_int hy;obtain ⟨z, hz, hr⟩ := binInt_run (P := P) w h t e;refine ⟨z, hz, ?_⟩;rw [Sem.run_bind, eqGuard_plain w (by simp) (by simp), Result.andThen_ok, hr]
 ·rename_i i c k' b;cases cv_int hy;have hb : ∃ k x, vx = .int k x ∧ ∃ z, cv e v = some z ∧ (binOp op t vx (.int k' b)).run P w = .ok z w := by
   cases c with
   | nat k f lo hi => obtain ⟨x, h1, h2⟩ := natOp_run (P := P) w h (show (RC.nat k f lo hi).val (e.sy i) = some vx from hx) t; exact ⟨k, x, h1, h2⟩
   | bits k j m r n => obtain ⟨x, h1, h2⟩ := binBits_run (P := P) w h (show (RC.bits k j m r n).val (e.sy i) = some vx from hx) t; exact ⟨k, x, h1, h2⟩
   | md k m r => exact binRes_run (P := P) w (show binRes op k' b (RC.md k m r) = some v from h) (show (RC.md k m r).val (e.sy i) = some vx from hx) t e
   | rng k lo hi => exact binRes_run (P := P) w (show binRes op k' b (RC.rng k lo hi) = some v from h) (show (RC.rng k lo hi).val (e.sy i) = some vx from hx) t e
   | slLen lo hi => exact binRes_run (P := P) w (show binRes op k' b (RC.slLen lo hi) = some v from h) (show (RC.slLen lo hi).val (e.sy i) = some vx from hx) t e
   | strLen lo hi => exact binRes_run (P := P) w (show binRes op k' b (RC.strLen lo hi) = some v from h) (show (RC.strLen lo hi).val (e.sy i) = some vx from hx) t e
   | lenOf lo hi => exact binRes_run (P := P) w (show binRes op k' b (RC.lenOf lo hi) = some v from h) (show (RC.lenOf lo hi).val (e.sy i) = some vx from hx) t e
  obtain ⟨k, x, rfl, z, hz, hr⟩ := hb;refine ⟨z, hz, ?_⟩;rw [Sem.run_bind, eqGuard_plain w (by simp) (by simp), Result.andThen_ok, hr]
 ·rename_i k a j d;cases cv_int hx;obtain ⟨k', y, rfl, z, hz, hr⟩ := binIR_run (P := P) w h (show d.val (e.sy j) = some vy from hy) t
  refine ⟨z, hz, ?_⟩;rw [Sem.run_bind, eqGuard_plain w (by simp) (by simp), Result.andThen_ok, hr]
 ·rename_i i c j d;obtain ⟨k, x, k', y, rfl, rfl, z, hz, hr⟩ := binRR_run (P := P) w h (show c.val (e.sy i) = some vx from hx) (show d.val (e.sy j) = some vy from hy) t
  refine ⟨z, hz, ?_⟩;rw [Sem.run_bind, eqGuard_plain w (by simp) (by simp), Result.andThen_ok, hr]
 ·obtain ⟨ha, rfl⟩ := cv_str hx;obtain ⟨hb, rfl⟩ := cv_str hy;obtain ⟨z, hz, hr⟩ := strOp_run (P := P) w h t e ha hb;refine ⟨z, hz, ?_⟩;rw [Sem.run_bind, eqGuard_plain w (by simp) (by simp), Result.andThen_ok, hr]
 ·rename_i n1 n3 n4 n5 n2;cases ht : X.tys.get t with
  | none => rw [ht] at h; cases h
  | some ti =>
   rw [ht] at h;simp only [binOther] at h;cases he : eqA X ti x y with
   | none => rw [he] at h; cases op <;> simp [eqRes] at h
   | some b =>
    rw [he] at h;obtain ⟨g1, g2⟩ := eqA_run ok w (ok.tys t ti ht) he hx hy op ox oy 9998;have hb : (binOp .eql t vx vy = do pure (.bool (← Op.equal t vx vy))) ∧ (binOp .neq t vx vy = do pure (.bool (!(← Op.equal t vx vy)))) := by
     unfold eqA at he
     split at he
     ·obtain ⟨us, hus, rfl⟩ := cv_agg hx;obtain ⟨vs, hvs, rfl⟩ := cv_agg hy;exact ⟨rfl, rfl⟩
     ·unfold eq1 at he
      split at he
      all_goals first
       | (cases he; done)
       | (exact absurd rfl (n1 _ _ _ _ rfl); done)
       | (exact (n1 _ _ _ _ rfl rfl).elim; done)
       | (exact (n2 _ _ rfl rfl).elim; done)
       | (cases cv_bool hx; cases cv_bool hy; exact ⟨rfl, rfl⟩)
       | (simp only [cv, Option.some.injEq] at hx hy; subst hx; subst hy; exact ⟨rfl, rfl⟩)
       | (simp only [cv, Option.some.injEq] at hx; subst hx; obtain ⟨y, _, rfl⟩ := cv_ptr hy; exact ⟨rfl, rfl⟩)
       | (simp only [cv, Option.some.injEq] at hy; subst hy; obtain ⟨y, _, rfl⟩ := cv_ptr hx; exact ⟨rfl, rfl⟩)
       | (simp only [cv, Option.some.injEq] at hx; subst hx; obtain ⟨y, _, rfl⟩ := cv_sl hy; exact ⟨rfl, rfl⟩)
       | (simp only [cv, Option.some.injEq] at hy; subst hy; obtain ⟨y, _, rfl⟩ := cv_sl hx; exact ⟨rfl, rfl⟩)
       | (simp only [cv, Option.some.injEq] at hx; subst hx; obtain ⟨y, z, _, _, rfl⟩ := cv_fn hy; exact ⟨rfl, rfl⟩)
       | (simp only [cv, Option.some.injEq] at hy; subst hy; obtain ⟨y, z, _, _, rfl⟩ := cv_fn hx; exact ⟨rfl, rfl⟩)
       | (simp only [cv, Option.some.injEq] at hx; subst hx; obtain ⟨y, _, rfl⟩ := cv_mpr hy; exact ⟨rfl, rfl⟩)
       | (simp only [cv, Option.some.injEq] at hy; subst hy; obtain ⟨y, _, rfl⟩ := cv_mpr hx; exact ⟨rfl, rfl⟩)
       | (simp only [cv, Option.some.injEq] at hx; subst hx; obtain ⟨y, _, rfl⟩ := cv_yld hy; exact ⟨rfl, rfl⟩)
       | (simp only [cv, Option.some.injEq] at hy; subst hy; obtain ⟨y, _, rfl⟩ := cv_yld hx; exact ⟨rfl, rfl⟩)
    have he2 : (Op.equal t vx vy).run P w = .ok b w := g2;cases op with
    | eql =>
     simp only [eqRes, Option.some.injEq] at h; subst h;exact ⟨_, rfl, by rw [Sem.run_bind, g1, Result.andThen_ok, hb.1, Sem.run_bind, he2]; rfl⟩
    | neq =>
     simp only [eqRes, Option.some.injEq] at h; subst h;exact ⟨_, rfl, by rw [Sem.run_bind, g1, Result.andThen_ok, hb.2, Sem.run_bind, he2]; rfl⟩
    | _ => simp [eqRes] at h
theorem isIface_und {P : Program} {X : XP} (ok : XPok P X) {t : TypeId} (h : isIface (X.tys.get t) = true) : ∃ ms, P.underlying t = some (.interface ms) := by
 cases ht : X.tys.get t with
 | none => rw [ht] at h; cases h
 | some ti =>
  rw [ht] at h;obtain ⟨d, hd, hk⟩ := (ok.tys t ti ht).und;obtain ⟨k, _, _, _, _⟩ := ti;cases k <;> simp only [isIface, Bool.false_eq_true] at h
  cases d <;> simp only [TKok] at hk
  exact ⟨_, hd⟩
theorem eqNil1 {P : Program} (w : World) {t : TypeId} {ms : Array (String × TypeId)} (hu : P.underlying t = some (.interface ms)) (d : Nat) : (Op.equalIn (d + 1) t .nilIface .nilIface).run P w = .ok true w := by
 simp [Op.equalIn, run_underlying hu]
theorem eqNil2 {P : Program} (w : World) {t : TypeId} {ms : Array (String × TypeId)} (hu : P.underlying t = some (.interface ms)) (t' : TypeId) (u : Value) (d : Nat) : (Op.equalIn (d + 1) t (.iface t' u) .nilIface).run P w = .ok false w := by
 simp [Op.equalIn, run_underlying hu]
theorem qBinNil_run {P : Program} {X : XP} (ok : XPok P X) (w : World) {op : BinOp} {t : TypeId} {x v : AV} {y : Option AV} {ox oy : Operand} (h : qBinNil X op t (some x) y oy = some v) {e : Env} {vx vy : Value}
 (hx : cv e x = some vx) (hy : ∀ a, y = some a → cv e a = some vy) : ∃ z, cv e v = some z ∧ (do eqGuard op t ox oy vx vy; binOp op t vx vy : Sem Value).run P w = .ok z w := by
 unfold qBinNil at h
 split at h
 ·rename_i c;have hvy : vy = .nilIface := by have := hy _ rfl; simpa [cv] using this.symm
  subst hvy;simp only [brec] at h;cases hi : isIface (X.tys.get t) with
  | false => rw [hi] at h; cases h
  | true =>
   rw [hi] at h; simp only [cond_true] at h;obtain ⟨ms, hu⟩ := isIface_und ok hi;unfold nilRes at h
   split at h
   ·rename_i heq;cases heq;have hvx : vx = .nilIface := by simpa [cv] using hx.symm
    subst hvx;have he : (Op.equal t .nilIface .nilIface).run P w = .ok true w := eqNil1 w hu 9999;cases op <;> simp only [eqRes, Option.some.injEq, reduceCtorEq] at h
    ·subst h;refine ⟨_, rfl, ?_⟩;show (do eqGuard .eql t ox (.const c) .nilIface .nilIface; (do pure (.bool (← Op.equal t .nilIface .nilIface))) : Sem Value).run P w = _
     simp [eqGuard, he]
    ·subst h;refine ⟨_, rfl, ?_⟩;show (do eqGuard .neq t ox (.const c) .nilIface .nilIface; (do pure (.bool (!(← Op.equal t .nilIface .nilIface)))) : Sem Value).run P w = _
     simp [eqGuard, he]
   ·rename_i t' v' heq;cases heq;have hvx : ∃ u, vx = .iface t' u := by
     simp only [cv] at hx;cases hv : cv e v' with
     | none => rw [hv] at hx; cases hx
     | some u => rw [hv] at hx; simp only [Option.some.injEq] at hx; exact ⟨u, hx.symm⟩
    obtain ⟨u, rfl⟩ := hvx;have he : (Op.equal t (.iface t' u) .nilIface).run P w = .ok false w := eqNil2 w hu t' u 9999;cases op <;> simp only [eqRes, Option.some.injEq, reduceCtorEq] at h
    ·subst h;refine ⟨_, rfl, ?_⟩;show (do eqGuard .eql t ox (.const c) (.iface t' u) .nilIface; (do pure (.bool (← Op.equal t (.iface t' u) .nilIface))) : Sem Value).run P w = _
     simp [eqGuard, he]
    ·subst h;refine ⟨_, rfl, ?_⟩;show (do eqGuard .neq t ox (.const c) (.iface t' u) .nilIface; (do pure (.bool (!(← Op.equal t (.iface t' u) .nilIface)))) : Sem Value).run P w = _
     simp [eqGuard, he]
   ·cases h
 ·cases h
end
end Go.X
