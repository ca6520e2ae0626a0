/- Strings, equality, binary operations. -/
import Derived.Test.YtnmkiflnonafbaaGreatDoorE2
import Derived.Laws.StructEq
set_option linter.unusedVariables false
set_option linter.unusedSimpArgs false
namespace Go.X
noncomputable section
theorem Zbh {e : Env} {s : List Nat} {x : Value} (h : cv e (.str s) = some x) : (∀ b ∈ s, b < 256) ∧ x = .string (bytesOf s) := by
 simp only [cv] at h
 split at h
 ·rename_i ha;simp only [List.all_eq_true] at ha;exact ⟨fun b hb => ZaF (ha b hb), by simpa using h.symm⟩
 ·cases h
theorem Zdi (e : Env) {s : List Nat} (h : ∀ b ∈ s, b < 256) : cv e (.str s) = some (.string (bytesOf s)) := by
 have : s.all (fun b => Nat.blt b 256) = true := by
  simp only [List.all_eq_true]; intro b hb; rw [Nat.blt_eq]; exact h b hb
 simp only [cv, this, if_true]
theorem Zau (s : List Nat) : (bytesOf s).toList = s.map UInt8.ofNat := by
 simp [bytesOf]
theorem ZeD {a b : Nat} (ha : a < 256) (hb : b < 256) (h : UInt8.ofNat a = UInt8.ofNat b) : a = b := by
 have h1 := congrArg UInt8.toNat h;simp at h1;omega
theorem Zjh : ∀ (a b : List Nat), (∀ x ∈ a, x < 256) → (∀ x ∈ b, x < 256) → ZcO a b = (a.map UInt8.ofNat == b.map UInt8.ofNat) := by
 intro a
 induction a with
 | nil => intro b _ _; cases b <;> rfl
 | cons x a ih =>
  intro b ha hb;cases b with
  | nil => rfl
  | cons y b =>
   simp only [ZcO, List.map_cons];rw [ih b (fun z hz => ha z (by simp [hz])) (fun z hz => hb z (by simp [hz]))]
   have hx := ha x (by simp)
   have hy := hb y (by simp)
   by_cases e : x = y
   ·subst e; rw [ZbK rfl]; simp
   ·rw [Zbx e];have : (UInt8.ofNat x == UInt8.ofNat y) = false := beq_eq_false_iff_ne.2 fun h => e (ZeD hx hy h)
    simp [List.cons_beq_cons, this]
theorem Zj2 : ∀ (a b : List Nat), (∀ x ∈ a, x < 256) → (∀ x ∈ b, x < 256) → ZcN a b = Op.bytesLess (a.map UInt8.ofNat) (b.map UInt8.ofNat) := by
 intro a
 induction a with
 | nil => intro b _ _; cases b <;> rfl
 | cons x a ih =>
  intro b ha hb;cases b with
  | nil => rfl
  | cons y b =>
   simp only [ZcN, List.map_cons, Op.bytesLess];rw [ih b (fun z hz => ha z (by simp [hz])) (fun z hz => hb z (by simp [hz]))]
   have hx := ha x (by simp)
   have hy := hb y (by simp)
   have h1 : Nat.blt x y = decide (UInt8.ofNat x < UInt8.ofNat y) := by
    rw [ZbT]; congr 1;rw [UInt8.lt_iff_toNat_lt]; simp; omega
   have h2 : Nat.beq x y = (UInt8.ofNat x == UInt8.ofNat y) := by
    by_cases e : x = y
    ·subst e; rw [ZbK rfl]; simp
    ·rw [Zbx e]; symm; exact beq_eq_false_iff_ne.2 fun h => e (ZeD hx hy h)
   rw [h1, h2]
theorem Zfc (a b : List Nat) : bytesOf a ++ bytesOf b = bytesOf (a ++ b) := by
 apply ByteArray.ext;simp [bytesOf]
theorem Zai (a : List Nat) : (bytesOf a).size = a.length := by simp [bytesOf, ByteArray.size]
theorem ZlC {P : Program} (w : World) {op : BinOp} {a b : List Nat} {v : AV} (h : Zfa op a b = some v) (t : TypeId) (e : Env) (ha : ∀ x ∈ a, x < 256) (hb : ∀ x ∈ b, x < 256) :
 ∃ y, cv e v = some y ∧ (binOp op t (.string (bytesOf a)) (.string (bytesOf b))).run P w = .ok y w := by
 have h1 := Zjh a b ha hb;have h2 := Zj2 a b ha hb;cases op with
 | add =>
  simp only [Zfa, Zaw] at h;cases hl : Nat.blt (a.length + b.length) 4611686018427387904 with
  | false => rw [hl] at h; cases h
  | true =>
   rw [hl] at h; simp only [cond_true, Option.some.injEq] at h; subst h;have := ZaF hl;refine ⟨_, Zdi e (fun x hx => by rcases List.mem_append.1 hx with h | h; exact ha x h; exact hb x h), ?_⟩
   have hn : ¬ (((bytesOf a).size + (bytesOf b).size : Nat) : Int) > IntKind.i64.max := by
    rw [Zai, Zai]; simp [IntKind.max, IntKind.signed, IntKind.bits]; omega
   simp only [binOp, Op.stringOp, hn, if_false, Zfc]; rfl
 | eql => simp only [Zfa, Option.some.injEq] at h; subst h; exact ⟨_, rfl, by simp only [binOp, Op.stringOp, Zau, h1]; rfl⟩
 | neq => simp only [Zfa, Option.some.injEq] at h; subst h; exact ⟨_, rfl, by simp only [binOp, Op.stringOp, Zau, h1]; rfl⟩
 | lss => simp only [Zfa, Option.some.injEq] at h; subst h; exact ⟨_, rfl, by simp only [binOp, Op.stringOp, Zau, h2]; rfl⟩
 | leq => simp only [Zfa, Option.some.injEq] at h; subst h; exact ⟨_, rfl, by simp only [binOp, Op.stringOp, Zau, h1, h2]; rfl⟩
 | gtr => simp only [Zfa, Option.some.injEq] at h; subst h; exact ⟨_, rfl, by simp only [binOp, Op.stringOp, Zau, h1, h2]; rfl⟩
 | geq => simp only [Zfa, Option.some.injEq] at h; subst h; exact ⟨_, rfl, by simp only [binOp, Op.stringOp, Zau, h2]; rfl⟩
 | _ => simp [Zfa] at h
theorem Zbz {e : Env} {b o : Nat} {x : Value} (h : cv e (.ptr b o) = some x) : ∃ y, e.f b = some y ∧ x = .pointer (some ⟨y.1, o, none⟩) := by
 simp only [cv] at h; cases hb : e.f b <;> rw [hb] at h <;> simp at h; exact ⟨_, rfl, h.symm⟩
theorem Zbk {e : Env} {b o n : Nat} {c : Cap} {x : Value} (h : cv e (.sl b o n c) = some x) : ∃ y, e.f b = some y ∧ x = .slice (some ⟨y.1, o, none⟩) n (c.val y.2) := by
 simp only [cv] at h; cases hb : e.f b <;> rw [hb] at h <;> simp at h; exact ⟨_, rfl, h.symm⟩
theorem Zg5 {e : Env} {f : FuncId} {a b : List AV} {x : Value} (h : cv e (.fn f a b) = some x) : ∃ y z, cvs e a = some y ∧ cvs e b = some z ∧ x = .func (.func f) y.toArray z.toArray := by
 simp only [cv] at h; cases ha : cvs e a <;> cases hb : cvs e b <;> rw [ha, hb] at h <;> simp at h; exact ⟨_, _, rfl, rfl, h.symm⟩
theorem ZeE {e : Env} {b : Nat} {x : Value} (h : cv e (.yld b) = some x) : ∃ y, e.f b = some y ∧ x = .func (.yield y.1) #[] #[] := by
 simp only [cv] at h; cases hb : e.f b <;> rw [hb] at h <;> simp at h; exact ⟨_, rfl, h.symm⟩
theorem ZeF {e : Env} {a : List AV} {x : Value} (h : cv e (.agg a) = some x) : ∃ y, cvs e a = some y ∧ x = .agg y.toArray := by
 simp only [cv] at h; cases ha : cvs e a <;> rw [ha] at h <;> simp at h; exact ⟨_, rfl, h.symm⟩
theorem Zoq {e : Env} {a : List AV} {x : Value} (h : cv e (.tup a) = some x) : ∃ y, cvs e a = some y ∧ x = .tuple y.toArray := by
 simp only [cv] at h; cases ha : cvs e a <;> rw [ha] at h <;> simp at h; exact ⟨_, rfl, h.symm⟩
theorem Za8 {e : Env} {k : IntKind} {n : Int} {x : Value} (h : cv e (.int k n) = some x) : x = .int k n := by simpa [cv] using h.symm
theorem Zck {e : Env} {b : Bool} {x : Value} (h : cv e (.bool b) = some x) : x = .bool b := by simpa [cv] using h.symm
theorem ZlD {P : Program} (w : World) {t : TypeId} {ti : TyI} (ht : TyOk P t ti) {x y : AV} {b : Bool} (h : eq1 ti x y = some b) {e : Env} {vx vy : Value} (hx : cv e x = some vx) (hy : cv e y = some vy) (d : Nat) :
 (Op.equalIn (d + 1) t vx vy).run P w = .ok b w := by
 obtain ⟨dd, hd, hk⟩ := ht.und;unfold eq1 at h
 split at h
 all_goals first
  | (cases h; done)
  | skip
 ·rename_i hti;rw [hti] at hk; cases dd <;> simp [Zd4] at hk
  cases Zck hx; cases Zck hy;simp only [Option.some.injEq] at h; subst h;simp [Op.equalIn, run_underlying hd]
 ·rename_i k k' hti;rw [hti] at hk; cases dd <;> simp [Zd4] at hk
  cases Za8 hx; cases Za8 hy;simp only [Zaw] at h;cases hkk : kEq _ _ with
  | false => rw [hkk] at h; cases h
  | true =>
   rw [hkk] at h; simp only [cond_true, Option.some.injEq, Zfx] at h; subst h;obtain rfl := Zje hkk;simp [Op.equalIn, run_underlying hd]
 ·rename_i hti;rw [hti] at hk; cases dd <;> simp [Zd4] at hk
  obtain ⟨ha, rfl⟩ := Zbh hx;obtain ⟨hb, rfl⟩ := Zbh hy;simp only [Option.some.injEq] at h; subst h;rw [run_equalIn_string w d t _ _ hd, Zau, Zau, Zjh _ _ ha hb]
 ·rename_i hti;rw [hti] at hk; cases dd <;> simp [Zd4] at hk
  simp only [cv, Option.some.injEq] at hx hy; subst hx; subst hy;simp only [Option.some.injEq] at h; subst h;simp [Op.equalIn, run_underlying hd]
 ·rename_i hti;rw [hti] at hk; cases dd <;> simp [Zd4] at hk
  simp only [cv, Option.some.injEq] at hx; subst hx;obtain ⟨y, _, rfl⟩ := Zbz hy;simp only [Option.some.injEq] at h; subst h;simp [Op.equalIn, run_underlying hd]
 ·rename_i hti;rw [hti] at hk; cases dd <;> simp [Zd4] at hk
  simp only [cv, Option.some.injEq] at hy; subst hy;obtain ⟨y, _, rfl⟩ := Zbz hx;simp only [Option.some.injEq] at h; subst h;simp [Op.equalIn, run_underlying hd]
 ·rename_i hti;rw [hti] at hk; cases dd <;> simp [Zd4] at hk
  simp only [cv, Option.some.injEq] at hx hy; subst hx; subst hy;simp only [Option.some.injEq] at h; subst h;simp [Op.equalIn, run_underlying hd]
 ·rename_i hti;rw [hti] at hk; cases dd <;> simp [Zd4] at hk
  simp only [cv, Option.some.injEq] at hx; subst hx;obtain ⟨y, _, rfl⟩ := Zbk hy;simp only [Option.some.injEq] at h; subst h;simp [Op.equalIn, run_underlying hd]
 ·rename_i hti;rw [hti] at hk; cases dd <;> simp [Zd4] at hk
  simp only [cv, Option.some.injEq] at hy; subst hy;obtain ⟨y, _, rfl⟩ := Zbk hx;simp only [Option.some.injEq] at h; subst h;simp [Op.equalIn, run_underlying hd]
 ·rename_i hti;rw [hti] at hk; cases dd <;> simp [Zd4] at hk
  simp only [cv, Option.some.injEq] at hx hy; subst hx; subst hy;simp only [Option.some.injEq] at h; subst h;simp [Op.equalIn, run_underlying hd]
 ·rename_i hti;rw [hti] at hk; cases dd <;> simp [Zd4] at hk
  simp only [cv, Option.some.injEq] at hx; subst hx;obtain ⟨y, z, _, _, rfl⟩ := Zg5 hy;simp only [Option.some.injEq] at h; subst h;simp [Op.equalIn, run_underlying hd]
 ·rename_i hti;rw [hti] at hk; cases dd <;> simp [Zd4] at hk
  simp only [cv, Option.some.injEq] at hy; subst hy;obtain ⟨y, z, _, _, rfl⟩ := Zg5 hx;simp only [Option.some.injEq] at h; subst h;simp [Op.equalIn, run_underlying hd]
 ·rename_i hti;rw [hti] at hk; cases dd <;> simp [Zd4] at hk
  simp only [cv, Option.some.injEq] at hx; subst hx;obtain ⟨y, _, rfl⟩ := ZeE hy;simp only [Option.some.injEq] at h; subst h;simp [Op.equalIn, run_underlying hd]
 ·rename_i hti;rw [hti] at hk; cases dd <;> simp [Zd4] at hk
  simp only [cv, Option.some.injEq] at hy; subst hy;obtain ⟨y, _, rfl⟩ := ZeE hx;simp only [Option.some.injEq] at h; subst h;simp [Op.equalIn, run_underlying hd]
theorem Zbl {P : Program} (w : World) {op : BinOp} {t : TypeId} {ox oy : Operand} {vx vy : Value} (h1 : ¬ (vx = .nilIface ∧ vy = .nilIface)) (h2 : ∀ a b, ¬ (vx = .agg a ∧ vy = .agg b)) :
 (eqGuard op t ox oy vx vy).run P w = .ok () w := by
 have key : ∀ op, op = .eql ∨ op = .neq → (eqGuard op t ox oy vx vy).run P w = .ok () w := by
  intro op hop;rcases hop with rfl | rfl <;> (cases vx <;> cases vy <;> first | rfl | exact absurd ⟨rfl, rfl⟩ h1 | exact absurd ⟨rfl, rfl⟩ (h2 _ _))
 cases op <;> first | rfl | exact key _ (.inl rfl) | exact key _ (.inr rfl)
theorem Zj3 {P : Program} {X : XP} (ok : XPok P X) (w : World) {e : Env} {xs ys : List AV} {us vs : List Value} (hx : cvs e xs = some us) (hy : cvs e ys = some vs) {ty off : Nat} {b : Bool}
 (h : ZiP (X.tys.get ty) xs[off]? ys[off]? = some b) (d : Nat) :
 ∃ p q, (part ty us.toArray off).run P w = .ok p w ∧ (part ty vs.toArray off).run P w = .ok q w ∧ (Op.equalIn (d + 1) ty p q).run P w = .ok b w := by
 unfold ZiP at h
 split at h
 ·rename_i ti x y ht hxx hyy;simp only [Zaw] at h;have hk := ok.tys ty ti ht;cases ha : ti.isAgg with
  | true => rw [ha] at h; cases h
  | false =>
   rw [ha] at h; simp only [cond_false] at h;obtain ⟨p, hp, hpx⟩ := Zby hx _ _ hxx;obtain ⟨q, hq, hqy⟩ := Zby hy _ _ hyy;refine ⟨p, q, ?_, ?_, ZlD w hk h hp hq d⟩
   ·simp [part, Zbt w hk, ha, hpx]
   ·simp [part, Zbt w hk, ha, hqy]
 ·cases h
theorem Zg6 {P : Program} {X : XP} (ok : XPok P X) (w : World) {e : Env} {xs ys : List AV} {us vs : List Value} (hx : cvs e xs = some us) (hy : cvs e ys = some vs) (d : Nat) :
 ∀ (fs : List Field) (gs : List FldI) (b : Bool), (fs.map fun f => (f.offset, f.type, P.cellsOf f.type)) = gs.map (fun g => (g.off, g.ty, g.size)) → (∀ f ∈ fs, f.name ≠ "_") →
  eqFields X xs ys gs = some b → (Op.eqFields (d + 1) us.toArray vs.toArray fs).run P w = .ok b w := by
 intro fs
 induction fs with
 | nil =>
  intro gs b hm _ h;cases gs with
  | nil => simp only [eqFields, Option.some.injEq] at h; subst h; rfl
  | cons g gs => simp at hm
 | cons f fs ih =>
  intro gs b hm hn h;cases gs with
  | nil => simp at hm
  | cons g gs =>
   simp only [List.map_cons, List.cons.injEq, Prod.mk.injEq] at hm;obtain ⟨⟨h1, h2, _⟩, hm⟩ := hm;simp only [eqFields] at h;have hnm := hn f (by simp)
   cases hl : ZiP (X.tys.get g.ty) xs[g.off]? ys[g.off]? with
   | none => rw [hl] at h; cases h
   | some r =>
    rw [hl] at h;obtain ⟨p, q, hp, hq, he⟩ := Zj3 ok w hx hy hl d;rw [← h1, ← h2] at hp hq;rw [← h2] at he;simp only [Op.eqFields, if_pos hnm, Sem.run_bind, hp, hq, he, Result.andThen_ok];cases r with
    | false => simp only [andThen, Option.some.injEq] at h; subst h; simp
    | true =>
     simp only [andThen] at h;have := ih gs b hm (fun f hf => hn f (by simp [hf])) h
     simpa using this
theorem Zo3 {P : Program} {X : XP} (ok : XPok P X) (w : World) {t : TypeId} {ti : TyI} (ht : TyOk P t ti) {x y : AV} {b : Bool} (h : eqA X ti x y = some b) {e : Env} {vx vy : Value}
 (hx : cv e x = some vx) (hy : cv e y = some vy) (op : BinOp) (ox oy : Operand) (d : Nat) :
 (eqGuard op t ox oy vx vy).run P w = .ok () w ∧ (Op.equalIn (d + 2) t vx vy).run P w = .ok b w := by
 unfold eqA at h
 split at h
 ·rename_i fs xs ys hti;simp only [Zaw] at h;cases hc : ti.cmp with
  | false => rw [hc] at h; cases h
  | true =>
   rw [hc] at h; simp only [cond_true] at h;obtain ⟨us, hus, rfl⟩ := ZeF hx;obtain ⟨vs, hvs, rfl⟩ := ZeF hy;obtain ⟨g1, g2, g3⟩ := ht.cmp hc;refine ⟨run_eqGuard_agg w op t ox oy _ _ g2, ?_⟩;obtain ⟨dd, hd, hk⟩ := ht.und;rw [hti] at hk; cases dd <;> simp only [Zd4] at hk
   rename_i gs;have hf : P.fieldsOf t = gs := by simp [Program.fieldsOf, hd]
   rw [run_equalIn_struct w (d + 1) t _ _ (by rw [hf]; exact hd) g1, hf]
   exact Zg6 ok w hus hvs d gs.toList fs b hk (fun f hm => g3 gs hd f (by simpa using hm)) h
 ·rename_i hns;refine ⟨?_, ZlD w ht h hx hy (d + 1)⟩;unfold eq1 at h
  split at h
  all_goals first
   | (cases h; done)
   | skip
  all_goals
   apply Zbl
   ·rintro ⟨h1, h2⟩;subst h1; subst h2
    first
     | (simp only [cv, Option.some.injEq, reduceCtorEq] at hx; done)
     | (simp only [cv, Option.some.injEq, reduceCtorEq] at hy; done)
     | (obtain ⟨_, h⟩ := Zbh hx; cases h)
     | (obtain ⟨_, _, h⟩ := Zbz hx; cases h)
     | (obtain ⟨_, _, h⟩ := Zbk hx; cases h)
   ·rintro a b ⟨h1, h2⟩;subst h1; subst h2
    first
     | (simp only [cv, Option.some.injEq, reduceCtorEq] at hx; done)
     | (simp only [cv, Option.some.injEq, reduceCtorEq] at hy; done)
     | (obtain ⟨_, h⟩ := Zbh hx; cases h)
     | (obtain ⟨_, _, h⟩ := Zbz hx; cases h)
     | (obtain ⟨_, _, h⟩ := Zbk hx; cases h)
theorem Zm0 {P : Program} {X : XP} (ok : XPok P X) (w : World) {op : BinOp} {t : TypeId} {x y v : AV} (h : Zrm X op t x y = some v) {e : Env} {vx vy : Value}
 (hx : cv e x = some vx) (hy : cv e y = some vy) (ox oy : Operand) :
 ∃ z, cv e v = some z ∧ (do eqGuard op t ox oy vx vy; binOp op t vx vy : Sem Value).run P w = .ok z w := by
 unfold Zrm at h
 split at h
 ·cases Za8 hx; cases Za8 hy;obtain ⟨z, hz, hr⟩ := Zj1 (P := P) w h t e;refine ⟨z, hz, ?_⟩;rw [Sem.run_bind, Zbl w (by simp) (by simp), Result.andThen_ok, hr]
 ·obtain ⟨ha, rfl⟩ := Zbh hx;obtain ⟨hb, rfl⟩ := Zbh hy;obtain ⟨z, hz, hr⟩ := ZlC (P := P) w h t e ha hb;refine ⟨z, hz, ?_⟩;rw [Sem.run_bind, Zbl w (by simp) (by simp), Result.andThen_ok, hr]
 ·rename_i n1 n2;cases ht : X.tys.get t with
  | none => rw [ht] at h; cases h
  | some ti =>
   rw [ht] at h;simp only [ZiQ] at h;cases he : eqA X ti x y with
   | none => rw [he] at h; cases op <;> simp [ZkQ] at h
   | some b =>
    rw [he] at h;obtain ⟨g1, g2⟩ := Zo3 ok w (ok.tys t ti ht) he hx hy op ox oy 9998;have hb : (binOp .eql t vx vy = do pure (.bool (← Op.equal t vx vy))) ∧ (binOp .neq t vx vy = do pure (.bool (!(← Op.equal t vx vy)))) := by
     unfold eqA at he
     split at he
     ·obtain ⟨us, hus, rfl⟩ := ZeF hx;obtain ⟨vs, hvs, rfl⟩ := ZeF hy;exact ⟨rfl, rfl⟩
     ·unfold eq1 at he
      split at he
      all_goals first
       | (cases he; done)
       | (exact absurd rfl (n1 _ _ _ _ rfl); done)
       | (exact (n1 _ _ _ _ rfl rfl).elim; done)
       | (exact (n2 _ _ rfl rfl).elim; done)
       | (cases Zck hx; cases Zck hy; exact ⟨rfl, rfl⟩)
       | (simp only [cv, Option.some.injEq] at hx hy; subst hx; subst hy; exact ⟨rfl, rfl⟩)
       | (simp only [cv, Option.some.injEq] at hx; subst hx; obtain ⟨y, _, rfl⟩ := Zbz hy; exact ⟨rfl, rfl⟩)
       | (simp only [cv, Option.some.injEq] at hy; subst hy; obtain ⟨y, _, rfl⟩ := Zbz hx; exact ⟨rfl, rfl⟩)
       | (simp only [cv, Option.some.injEq] at hx; subst hx; obtain ⟨y, _, rfl⟩ := Zbk hy; exact ⟨rfl, rfl⟩)
       | (simp only [cv, Option.some.injEq] at hy; subst hy; obtain ⟨y, _, rfl⟩ := Zbk hx; exact ⟨rfl, rfl⟩)
       | (simp only [cv, Option.some.injEq] at hx; subst hx; obtain ⟨y, z, _, _, rfl⟩ := Zg5 hy; exact ⟨rfl, rfl⟩)
       | (simp only [cv, Option.some.injEq] at hy; subst hy; obtain ⟨y, z, _, _, rfl⟩ := Zg5 hx; exact ⟨rfl, rfl⟩)
       | (simp only [cv, Option.some.injEq] at hx; subst hx; obtain ⟨y, _, rfl⟩ := ZeE hy; exact ⟨rfl, rfl⟩)
       | (simp only [cv, Option.some.injEq] at hy; subst hy; obtain ⟨y, _, rfl⟩ := ZeE hx; exact ⟨rfl, rfl⟩)
    have he2 : (Op.equal t vx vy).run P w = .ok b w := g2;cases op with
    | eql =>
     simp only [ZkQ, Option.some.injEq] at h; subst h;exact ⟨_, rfl, by rw [Sem.run_bind, g1, Result.andThen_ok, hb.1, Sem.run_bind, he2]; rfl⟩
    | neq =>
     simp only [ZkQ, Option.some.injEq] at h; subst h;exact ⟨_, rfl, by rw [Sem.run_bind, g1, Result.andThen_ok, hb.2, Sem.run_bind, he2]; rfl⟩
    | _ => simp [ZkQ] at h
end
end Go.X
