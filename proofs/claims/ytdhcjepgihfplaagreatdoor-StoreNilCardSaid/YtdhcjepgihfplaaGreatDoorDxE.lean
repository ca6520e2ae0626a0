/- Numbers and strings: the executor's arithmetic is the model's. -/
import Derived.Test.YtdhcjepgihfplaaGreatDoorDxD
namespace Go.X
noncomputable section

theorem kEq_of {a b : IntKind} (h : kEq a b = true) : a = b := by cases a <;> cases b <;> simp [kEq] at h <;> rfl
theorem iEq_eq (a b : Int) : iEq a b = (a == b) := by
  by_cases h : a = b
  · subst h
    rw [beq_self_eq_true]
    cases a <;> simp only [iEq] <;> exact nbeq_t rfl
  · rw [beq_eq_false_iff_ne.2 h]
    cases a <;> cases b <;> simp only [iEq] <;> exact nbeq_f (fun e => h (by rw [e]))

theorem nblt_eq (a b : Nat) : Nat.blt a b = decide (a < b) := by
  by_cases h : a < b
  · rw [decide_eq_true h, Nat.blt_eq]; exact h
  · rw [decide_eq_false h]; cases hb : Nat.blt a b with
    | false => rfl
    | true => exact absurd (nblt_of hb) h

theorem iLt_eq (a b : Int) : iLt a b = decide (a < b) := by
  cases a with
  | ofNat a => cases b with
    | ofNat b => simp only [iLt, nblt_eq]; congr 1; simp
    | negSucc b => simp only [iLt]; symm; simp; omega
  | negSucc a => cases b with
    | ofNat b => simp only [iLt]; symm; simp; omega
    | negSucc b => simp only [iLt, nblt_eq]; congr 1; simp; omega

theorem iLe_eq (a b : Int) : iLe a b = decide (a ≤ b) := by
  simp only [iLe, iLt_eq]
  by_cases h : a ≤ b
  · simp [h]
  · simp [h]; omega

theorem nmod (a b : Nat) : Nat.mod a b = a % b := rfl
theorem nsub (a b : Nat) : Nat.sub a b = a - b := rfl
theorem nadd (a b : Nat) : Nat.add a b = a + b := rfl
theorem nmul (a b : Nat) : Nat.mul a b = a * b := rfl
theorem ndiv (a b : Nat) : Nat.div a b = a / b := rfl
theorem npow (a b : Nat) : Nat.pow a b = a ^ b := rfl

theorem wrap_def (k : IntKind) (n : Int) : k.wrap n = if (kTop k : Int) ≤ n % (kAll k : Int) then n % (kAll k : Int) - (kAll k : Int) else n % (kAll k : Int) := by
  cases k <;> simp [IntKind.wrap, IntKind.bits, IntKind.signed, kTop, kAll] <;> omega

theorem wrapN_eq (k : IntKind) (m : Nat) (h : m < kAll k) : wrapN k m = k.wrap m := by
  rw [wrap_def]
  simp only [wrapN, brec, nblt_eq, nsub, Nat.pred_eq_sub_one]
  by_cases hh : m < kTop k
  · rw [decide_eq_true hh, cond_true]
    cases k <;> simp only [kAll, kTop] at h hh ⊢ <;> simp <;> omega
  · rw [decide_eq_false hh, cond_false]
    cases k <;> simp only [kAll, kTop] at h hh ⊢ <;> simp <;> omega

theorem fwrap_eq (k : IntKind) (n : Int) : fwrap k n = k.wrap n := by
  have hk : 0 < kAll k := by cases k <;> simp [kAll]
  have hw : ∀ a b : Int, a % (kAll k : Int) = b % (kAll k : Int) → k.wrap a = k.wrap b := by
    intro a b h
    rw [wrap_def, wrap_def, h]
  cases n with
  | ofNat m =>
    simp only [fwrap, brec, nblt_eq, nmod]
    by_cases h : m < kTop k
    · rw [decide_eq_true h]
      have : m < kAll k := by cases k <;> simp only [kAll, kTop] at h ⊢ <;> omega
      have h2 := wrapN_eq k m this
      simp only [wrapN, nblt_eq, decide_eq_true h] at h2
      simpa using h2
    · rw [decide_eq_false h]
      simp only [cond_false]
      rw [wrapN_eq k _ (Nat.mod_lt _ hk)]
      apply hw; simp
  | negSucc m =>
    simp only [fwrap, nmod, nsub, Nat.pred_eq_sub_one]
    rw [wrapN_eq k _ (by omega)]
    apply hw
    cases k <;> simp only [kAll] <;> omega

theorem natOf_eq (k : IntKind) (n : Int) : natOf k n = (BitVec.ofInt k.bits n).toNat ∧ natOf k n < kAll k ∧ kAll k = 2 ^ k.bits := by
  have hk : 0 < kAll k := by cases k <;> simp [kAll]
  have h2 : kAll k = 2 ^ k.bits := by cases k <;> simp [kAll, IntKind.bits]
  have hb : (BitVec.ofInt k.bits n).toNat = (n % ((kAll k : Nat) : Int)).toNat := by rw [BitVec.toNat_ofInt, h2]
  have h1 : natOf k n = (n % ((kAll k : Nat) : Int)).toNat := by
    cases n with
    | ofNat m => simp only [natOf, nmod]; simp; omega
    | negSucc m => simp only [natOf, nmod, nsub, Nat.pred_eq_sub_one]; cases k <;> simp only [kAll] <;> omega
  refine ⟨by rw [h1, hb], ?_, h2⟩
  rw [h1]
  have := Int.emod_lt_of_pos n (show (0 : Int) < (kAll k : Int) by omega)
  omega

theorem iAdd_eq (a b : Int) : iAdd a b = a + b := by cases a <;> cases b <;> rfl
theorem iSub_eq (a b : Int) : iSub a b = a - b := by
  cases a with
  | ofNat a => cases b with
    | ofNat b =>
      simp only [iSub, brec, nsub, Nat.pred_eq_sub_one]
      cases h : Nat.ble b a with
      | true => have := nble_of h; simp; omega
      | false =>
        have : ¬ b ≤ a := fun hh => by rw [Nat.ble_eq_true_of_le hh] at h; cases h
        simp; omega
    | negSucc b => rfl
  | negSucc a => cases b <;> rfl

/-- integers of one kind, but for shifts -/
theorem intBin_run {P : Program} (w : World) {op : BinOp} {k : IntKind} {a b : Int} {v : AV} (h : intBin op k a b = some v) (t : TypeId) (hs : op ≠ .shl ∧ op ≠ .shr) (e : Env) :
    ∃ y, cv e v = some y ∧ (binOp op t (.int k a) (.int k b)).run P w = .ok y w := by
  have hna := natOf_eq k a
  have hnb := natOf_eq k b
  cases op with
  | shl => exact absurd rfl hs.1
  | shr => exact absurd rfl hs.2
  | add => simp only [intBin, Option.some.injEq] at h; subst h; exact ⟨_, rfl, by simp [binOp, Op.intArith, fwrap_eq, iAdd_eq]⟩
  | sub => simp only [intBin, Option.some.injEq] at h; subst h; exact ⟨_, rfl, by simp [binOp, Op.intArith, fwrap_eq, iSub_eq]⟩
  | mul => simp only [intBin, Option.some.injEq] at h; subst h; exact ⟨_, rfl, by simp [binOp, Op.intArith, fwrap_eq]⟩
  | quo =>
    simp only [intBin, brec, iEq_eq] at h
    by_cases hb : b = 0
    · rw [beq_iff_eq.2 hb] at h; cases h
    · rw [beq_eq_false_iff_ne.2 hb] at h
      simp only [cond_false, Option.some.injEq] at h; subst h
      exact ⟨_, rfl, by simp [binOp, Op.intDiv, fwrap_eq, hb]⟩
  | rem =>
    simp only [intBin, brec, iEq_eq] at h
    by_cases hb : b = 0
    · rw [beq_iff_eq.2 hb] at h; cases h
    · rw [beq_eq_false_iff_ne.2 hb] at h
      simp only [cond_false, Option.some.injEq] at h; subst h
      exact ⟨_, rfl, by simp [binOp, Op.intDiv, hb]⟩
  | and =>
    simp only [intBin, Option.some.injEq] at h; subst h
    refine ⟨_, rfl, ?_⟩
    have : Nat.land (natOf k a) (natOf k b) < kAll k := Nat.lt_of_le_of_lt Nat.and_le_left hna.2.1
    rw [wrapN_eq k _ this]
    simp only [binOp, Op.intBits, ne_eq, not_true_eq_false, if_false, Sem.run_pure, BitVec.toNat_and, hna.1, hnb.1]; rfl
  | or =>
    simp only [intBin, Option.some.injEq] at h; subst h
    refine ⟨_, rfl, ?_⟩
    have : Nat.lor (natOf k a) (natOf k b) < kAll k := by
      have h1 := hna.2.1; have h2 := hnb.2.1; rw [hna.2.2] at h1 h2 ⊢; exact Nat.or_lt_two_pow h1 h2
    rw [wrapN_eq k _ this]
    simp only [binOp, Op.intBits, ne_eq, not_true_eq_false, if_false, Sem.run_pure, BitVec.toNat_or, hna.1, hnb.1]; rfl
  | xor =>
    simp only [intBin, Option.some.injEq] at h; subst h
    refine ⟨_, rfl, ?_⟩
    have : Nat.xor (natOf k a) (natOf k b) < kAll k := by
      have h1 := hna.2.1; have h2 := hnb.2.1; rw [hna.2.2] at h1 h2 ⊢; exact Nat.xor_lt_two_pow h1 h2
    rw [wrapN_eq k _ this]
    simp only [binOp, Op.intBits, ne_eq, not_true_eq_false, if_false, Sem.run_pure, BitVec.toNat_xor, hna.1, hnb.1]; rfl
  | andNot =>
    simp only [intBin, Option.some.injEq] at h; subst h
    refine ⟨_, rfl, ?_⟩
    have : Nat.land (natOf k a) (Nat.sub (Nat.pred (kAll k)) (natOf k b)) < kAll k := Nat.lt_of_le_of_lt Nat.and_le_left hna.2.1
    rw [wrapN_eq k _ this]
    simp only [binOp, Op.intBits, ne_eq, not_true_eq_false, if_false, Sem.run_pure, BitVec.toNat_and, BitVec.toNat_not, hna.1, hnb.1, hna.2.2, nsub, Nat.pred_eq_sub_one]; rfl
  | eql => simp only [intBin, Option.some.injEq] at h; subst h; exact ⟨_, rfl, by simp [binOp, Op.intCmp, iEq_eq]⟩
  | neq => simp only [intBin, Option.some.injEq] at h; subst h; exact ⟨_, rfl, by simp [binOp, Op.intCmp, iEq_eq]; rfl⟩
  | lss => simp only [intBin, Option.some.injEq] at h; subst h; exact ⟨_, rfl, by simp [binOp, Op.intCmp, iLt_eq]⟩
  | leq => simp only [intBin, Option.some.injEq] at h; subst h; exact ⟨_, rfl, by simp [binOp, Op.intCmp, iLe_eq]⟩
  | gtr => simp only [intBin, Option.some.injEq] at h; subst h; exact ⟨_, rfl, by simp [binOp, Op.intCmp, iLt_eq]⟩
  | geq => simp only [intBin, Option.some.injEq] at h; subst h; exact ⟨_, rfl, by simp [binOp, Op.intCmp, iLe_eq]⟩

theorem leastN_eq (a b : Nat) : leastN a b = min a b := by
  simp only [leastN, brec]
  cases h : Nat.ble a b with
  | true => have := nble_of h; simp; omega
  | false =>
    have : ¬ a ≤ b := fun hh => by rw [Nat.ble_eq_true_of_le hh] at h; cases h
    simp; omega

theorem kBits_eq (k : IntKind) : kBits k = k.bits := by cases k <;> rfl

theorem shiftA_run {P : Program} (w : World) {op : BinOp} {k k' : IntKind} {a b : Int} {v : AV} (h : shiftA op k a b = some v) (hs : op = .shl ∨ op = .shr) (t : TypeId) (e : Env) :
    ∃ y, cv e v = some y ∧ (binOp op t (.int k a) (.int k' b)).run P w = .ok y w := by
  cases b with
  | negSucc b => simp [shiftA] at h
  | ofNat b =>
    have hneg : ¬ (Int.ofNat b < 0) := by simp
    rcases hs with rfl | rfl
    · simp only [shiftA, leastN_eq, kBits_eq] at h
      have hv : v = .int k (k.wrap (a * 2 ^ min b k.bits)) := by
        cases a with
        | ofNat m => simp only [shlA, Option.some.injEq, nmul, npow, fwrap_eq] at h; rw [← h]; congr 2
        | negSucc m => simp only [shlA, Option.some.injEq, npow, fwrap_eq] at h; rw [← h]; congr 2
      subst hv
      refine ⟨_, rfl, ?_⟩
      simp only [binOp, Op.shift, hneg, if_false]; simp
    · simp only [shiftA, leastN_eq, kBits_eq] at h
      have hv : v = .int k (a.fdiv (2 ^ min b k.bits)) := by
        cases a with
        | ofNat m =>
          simp only [shrA, Option.some.injEq, ndiv, npow] at h; rw [← h]; congr 1
          have := Int.ofNat_fdiv m (2 ^ min b k.bits)
          simpa using this
        | negSucc m => simp only [shrA, Option.some.injEq, npow] at h; rw [← h]; congr 2
      subst hv
      refine ⟨_, rfl, ?_⟩
      simp only [binOp, Op.shift, hneg, if_false]; simp

theorem binInt_run {P : Program} (w : World) {op : BinOp} {k k' : IntKind} {a b : Int} {v : AV} (h : binInt op k k' a b = some v) (t : TypeId) (e : Env) :
    ∃ y, cv e v = some y ∧ (binOp op t (.int k a) (.int k' b)).run P w = .ok y w := by
  by_cases h1 : op = .shl
  · subst h1; exact shiftA_run w (show shiftA .shl k a b = some v from h) (.inl rfl) t e
  · by_cases h2 : op = .shr
    · subst h2; exact shiftA_run w (show shiftA .shr k a b = some v from h) (.inr rfl) t e
    · have : (@Bool.rec (fun _ => Option AV) none (intBin op k a b) (kEq k k')) = some v := by
        rw [← h]; cases op <;> first | rfl | exact absurd rfl h1 | exact absurd rfl h2
      rw [brec] at this
      cases hk : kEq k k' with
      | false => rw [hk] at this; cases this
      | true =>
        rw [hk] at this
        obtain rfl := kEq_of hk
        exact intBin_run w this t ⟨h1, h2⟩ e

end
end Go.X
