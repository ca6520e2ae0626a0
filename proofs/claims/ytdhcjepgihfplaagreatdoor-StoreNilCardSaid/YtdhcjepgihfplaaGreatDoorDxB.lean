/- Tries; what an abstract value stands for; what an abstract heap says of a world. -/
import Derived.Test.YtdhcjepgihfplaaGreatDoorDxA
import Derived.Below
namespace Go.X

theorem brec {α : Type} (a b : α) (c : Bool) : @Bool.rec (fun _ => α) a b c = cond c b a := by cases c <;> rfl

theorem nbeq_t {a b : Nat} (h : a = b) : Nat.beq a b = true := by rw [Nat.beq_eq]; exact h
theorem nbeq_f {a b : Nat} (h : a ≠ b) : Nat.beq a b = false := by
  cases hb : Nat.beq a b with
  | false => rfl
  | true => exact absurd (Nat.eq_of_beq_eq_true hb) h
theorem nbeq_of {a b : Nat} (h : Nat.beq a b = true) : a = b := Nat.eq_of_beq_eq_true h
theorem nblt_of {a b : Nat} (h : Nat.blt a b = true) : a < b := by simpa [Nat.blt_eq] using h
theorem nble_of {a b : Nat} (h : Nat.ble a b = true) : a ≤ b := Nat.le_of_ble_eq_true h

/-! ### tries -/
section tries
variable {α : Type}

@[simp] theorem Tr.get_nil (n : Nat) : (Tr.nil : Tr α).get n = none := rfl

theorem Tr.get_node (v : Option α) (l r : Tr α) (n : Nat) :
    (Tr.node v l r).get n = if n = 0 then v else if n % 2 = 1 then l.get (n / 2) else r.get (n / 2 - 1) := by
  show @Bool.rec _ _ _ _ = _
  rw [brec, brec]
  by_cases h0 : n = 0
  · subst h0; rfl
  · have : Nat.beq n 0 = false := nbeq_f h0
    rw [this, if_neg h0]
    by_cases h1 : n % 2 = 1
    · have : Nat.beq (Nat.mod n 2) 1 = true := nbeq_t h1
      rw [this, if_pos h1]; rfl
    · have : Nat.beq (Nat.mod n 2) 1 = false := nbeq_f h1
      rw [this, if_neg h1]; rfl

theorem Tr.sing_zero (x : Option α) (n : Nat) : Tr.sing x 0 n = .node x .nil .nil := rfl

theorem Tr.sing_succ (x : Option α) (f n : Nat) :
    Tr.sing x (f + 1) n = if n = 0 then .node x .nil .nil else if n % 2 = 1 then .node none (Tr.sing x f (n / 2)) .nil else .node none .nil (Tr.sing x f (n / 2 - 1)) := by
  show @Bool.rec _ _ _ _ = _
  rw [brec, brec]
  by_cases h0 : n = 0
  · subst h0; rfl
  · have : Nat.beq n 0 = false := nbeq_f h0
    rw [this, if_neg h0]
    by_cases h1 : n % 2 = 1
    · have : Nat.beq (Nat.mod n 2) 1 = true := nbeq_t h1
      rw [this, if_pos h1]; rfl
    · have : Nat.beq (Nat.mod n 2) 1 = false := nbeq_f h1
      rw [this, if_neg h1]; rfl

theorem Tr.get_sing (x : Option α) : ∀ (f n m : Nat), n ≤ f → (Tr.sing x f n).get m = if m = n then x else none := by
  intro f
  induction f with
  | zero =>
    intro n m h
    obtain rfl : n = 0 := by omega
    rw [Tr.sing_zero, Tr.get_node]
    simp
  | succ f ih =>
    intro n m h
    rw [Tr.sing_succ]
    by_cases h0 : n = 0
    · subst h0; rw [if_pos rfl, Tr.get_node]; simp
    · rw [if_neg h0]
      by_cases h1 : n % 2 = 1
      · rw [if_pos h1, Tr.get_node]
        by_cases m0 : m = 0
        · subst m0; rw [if_pos rfl, if_neg (by omega)]
        · rw [if_neg m0]
          by_cases m1 : m % 2 = 1
          · rw [if_pos m1, ih _ _ (by omega)]
            by_cases e : m = n
            · subst e; simp
            · rw [if_neg e, if_neg (by omega)]
          · rw [if_neg m1, if_neg (by omega)]; rfl
      · rw [if_neg h1, Tr.get_node]
        by_cases m0 : m = 0
        · subst m0; rw [if_pos rfl, if_neg (by omega)]
        · rw [if_neg m0]
          by_cases m1 : m % 2 = 1
          · rw [if_pos m1, if_neg (by omega)]; rfl
          · rw [if_neg m1, ih _ _ (by omega)]
            by_cases e : m = n
            · subst e; simp
            · rw [if_neg e, if_neg (by omega)]

theorem Tr.set_nil (n : Nat) (x : Option α) : (Tr.nil : Tr α).set n x = Tr.sing x n n := rfl

theorem Tr.set_node (v : Option α) (l r : Tr α) (n : Nat) (x : Option α) :
    (Tr.node v l r).set n x = if n = 0 then .node x l r else if n % 2 = 1 then .node v (l.set (n / 2) x) r else .node v l (r.set (n / 2 - 1) x) := by
  show @Bool.rec _ _ _ _ = _
  rw [brec, brec]
  by_cases h0 : n = 0
  · subst h0; rfl
  · have : Nat.beq n 0 = false := nbeq_f h0
    rw [this, if_neg h0]
    by_cases h1 : n % 2 = 1
    · have : Nat.beq (Nat.mod n 2) 1 = true := nbeq_t h1
      rw [this, if_pos h1]; rfl
    · have : Nat.beq (Nat.mod n 2) 1 = false := nbeq_f h1
      rw [this, if_neg h1]; rfl

theorem Tr.get_set (t : Tr α) (n m : Nat) (x : Option α) : (t.set n x).get m = if m = n then x else t.get m := by
  induction t generalizing n m with
  | nil => rw [Tr.set_nil, Tr.get_sing _ _ _ _ (Nat.le_refl _)]; rfl
  | node v l r ihl ihr =>
    rw [Tr.set_node]
    by_cases h0 : n = 0
    · subst h0
      rw [if_pos rfl, Tr.get_node, Tr.get_node]
      by_cases m0 : m = 0
      · simp [m0]
      · simp [m0]
    · rw [if_neg h0]
      by_cases h1 : n % 2 = 1
      · rw [if_pos h1, Tr.get_node, Tr.get_node]
        by_cases m0 : m = 0
        · subst m0; rw [if_pos rfl, if_pos rfl, if_neg (by omega)]
        · rw [if_neg m0, if_neg m0]
          by_cases m1 : m % 2 = 1
          · rw [if_pos m1, if_pos m1, ihl]
            by_cases e : m = n
            · subst e; simp
            · rw [if_neg e, if_neg (by omega)]
          · rw [if_neg m1, if_neg m1, if_neg (by omega)]
      · rw [if_neg h1, Tr.get_node, Tr.get_node]
        by_cases m0 : m = 0
        · subst m0; rw [if_pos rfl, if_pos rfl, if_neg (by omega)]
        · rw [if_neg m0, if_neg m0]
          by_cases m1 : m % 2 = 1
          · rw [if_pos m1, if_pos m1, if_neg (by omega)]
          · rw [if_neg m1, if_neg m1, ihr]
            by_cases e : m = n
            · subst e; simp
            · rw [if_neg e, if_neg (by omega)]

theorem Tr.get_put (t : Tr α) (xs : List α) : ∀ (n m : Nat), (t.put n xs).get m = if n ≤ m ∧ m < n + xs.length then xs[m - n]? else t.get m := by
  induction xs generalizing t with
  | nil => intro n m; rw [if_neg (by simp)]; rfl
  | cons x xs ih =>
    intro n m
    show ((t.set n (some x)).put (n + 1) xs).get m = _
    rw [ih, Tr.get_set]
    simp only [List.length_cons]
    by_cases h : n + 1 ≤ m ∧ m < n + 1 + xs.length
    · rw [if_pos h, if_pos (by omega)]
      have : m - n = (m - (n + 1)) + 1 := by omega
      rw [this, List.getElem?_cons_succ]
    · rw [if_neg h]
      by_cases e : m = n
      · subst e; rw [if_pos rfl, if_pos (by omega)]; simp
      · rw [if_neg e, if_neg (by omega)]

theorem Tr.take_some {t : Tr α} : ∀ {k n : Nat} {l : List α}, t.take n k = some l → l.length = k ∧ ∀ i, i < k → t.get (n + i) = l[i]? := by
  intro k
  induction k with
  | zero => intro n l h; simp only [Tr.take, Option.some.injEq] at h; subst h; simp
  | succ k ih =>
    intro n l h
    simp only [Tr.take] at h
    cases hx : t.get n with
    | none => rw [hx] at h; cases h
    | some x =>
      rw [hx] at h
      cases hr : t.take (n + 1) k with
      | none => rw [hr] at h; cases h
      | some r =>
        rw [hr] at h
        simp only [Option.some.injEq] at h
        subst h
        obtain ⟨hl, hg⟩ := ih hr
        refine ⟨by simp [hl], fun i hi => ?_⟩
        cases i with
        | zero => simpa using hx
        | succ i =>
          have := hg i (by omega)
          rw [show n + (i + 1) = n + 1 + i by omega, this]; simp
end tries

/-! ### values -/
structure Env where
  f : Nat → Option (Nat × Nat)
  sy : Nat → Value

/-- the type that the cells of a block bear (kept among the other values) -/
def Env.ty (e : Env) (B : Nat) : TypeId := match e.sy (2 * B + 1) with | .int _ n => n.toNat | _ => 0

/-- the type of a block's cells: of one that is only read nothing is asked -/
def Env.elR (e : Env) (B : Nat) : Bool → TypeId → TypeId
  | true, _ => e.ty B
  | false, el => el

def Cap.val (κ : Nat) : Cap → Nat
  | .fix n => n
  | .opn k => κ - k

def bytesOf (l : List Nat) : ByteArray := ⟨(l.map UInt8.ofNat).toArray⟩

/-- the value, where it is as is said -/
def RC.val : RC → Value → Option Value
  | .md k m r, .int k' (.ofNat x) => if k' = k ∧ x % m = r then some (.int k (.ofNat x)) else none
  | .rng k lo hi, .int k' x => if k' = k ∧ lo ≤ x ∧ x ≤ hi then some (.int k x) else none
  | .slLen lo hi, .slice a n c => if lo ≤ n ∧ n ≤ hi then some (.slice a n c) else none
  | .strLen lo hi, .string s => if lo ≤ s.size ∧ s.size ≤ hi then some (.string s) else none
  | .lenOf lo hi, .slice _ n _ => if lo ≤ n ∧ n ≤ hi then some (.int .i64 (Int.ofNat n)) else none
  | .lenOf lo hi, .string s => if lo ≤ s.size ∧ s.size ≤ hi then some (.int .i64 (Int.ofNat s.size)) else none
  | _, _ => none

mutual
def cv (e : Env) : AV → Option Value
  | .undef => some Go.undef
  | .bool b => some (.bool b)
  | .int k n => some (.int k n)
  | .str s => if s.all (fun b => Nat.blt b 256) = true then some (.string (bytesOf s)) else none
  | .nilp => some (.pointer none)
  | .nils => some (.slice none 0 0)
  | .nilm => some (.map none)
  | .nilf => some .nilFunc
  | .nili => some .nilIface
  | .ptr b o => match e.f b with
    | some x => some (.pointer (some ⟨x.1, o, none⟩))
    | none => none
  | .sl b o n c => match e.f b with
    | some x => some (.slice (some ⟨x.1, o, none⟩) n (c.val x.2))
    | none => none
  | .fn f a b => match cvs e a, cvs e b with
    | some x, some y => some (.func (.func f) x.toArray y.toArray)
    | _, _ => none
  | .yld l => match e.f l with
    | some x => some (.func (.yield x.1) #[] #[])
    | none => none
  | .ifc t v => match cv e v with
    | some x => some (.iface t x)
    | none => none
  | .agg vs => match cvs e vs with
    | some x => some (.agg x.toArray)
    | none => none
  | .tup vs => match cvs e vs with
    | some x => some (.tuple x.toArray)
    | none => none
  | .capOf b k => match e.f b with
    | some x => some (.int .i64 ((x.2 - k : Nat) : Int))
    | none => none
  | .sym i => some (e.sy i)
  | .res i c => c.val (e.sy i)
  | .pan _ => none
def cvs (e : Env) : List AV → Option (List Value)
  | [] => some []
  | v :: vs => match cv e v, cvs e vs with
    | some x, some y => some (x :: y)
    | _, _ => none
end

/-- e' knows all that e knows, as e does -/
def Env.le (e e' : Env) : Prop := (∀ b x, e.f b = some x → e'.f b = some x) ∧ e'.sy = e.sy

theorem Env.le_refl (e : Env) : e.le e := ⟨fun _ _ h => h, rfl⟩
theorem Env.le_trans {a b c : Env} (h : a.le b) (k : b.le c) : a.le c := ⟨fun _ _ hx => k.1 _ _ (h.1 _ _ hx), k.2.trans h.2⟩

mutual
theorem cv_le {e e' : Env} (h : e.le e') : ∀ (v : AV) (x : Value), cv e v = some x → cv e' v = some x
  | .undef, _, hx => by simpa [cv] using hx
  | .bool _, _, hx => by simpa [cv] using hx
  | .int _ _, _, hx => by simpa [cv] using hx
  | .str _, _, hx => by simpa [cv] using hx
  | .nilp, _, hx => by simpa [cv] using hx
  | .nils, _, hx => by simpa [cv] using hx
  | .nilm, _, hx => by simpa [cv] using hx
  | .nilf, _, hx => by simpa [cv] using hx
  | .nili, _, hx => by simpa [cv] using hx
  | .ptr b o, x, hx => by
    simp only [cv] at hx ⊢
    cases hb : e.f b with
    | none => rw [hb] at hx; cases hx
    | some y => rw [hb] at hx; rw [h.1 _ _ hb]; exact hx
  | .sl b o n c, x, hx => by
    simp only [cv] at hx ⊢
    cases hb : e.f b with
    | none => rw [hb] at hx; cases hx
    | some y => rw [hb] at hx; rw [h.1 _ _ hb]; exact hx
  | .fn f a b, x, hx => by
    simp only [cv] at hx ⊢
    cases ha : cvs e a with
    | none => rw [ha] at hx; cases hx
    | some y =>
      cases hb : cvs e b with
      | none => rw [ha, hb] at hx; cases hx
      | some z => rw [ha, hb] at hx; rw [cvs_le h a y ha, cvs_le h b z hb]; exact hx
  | .yld b, x, hx => by
    simp only [cv] at hx ⊢
    cases hb : e.f b with
    | none => rw [hb] at hx; cases hx
    | some y => rw [hb] at hx; rw [h.1 _ _ hb]; exact hx
  | .ifc t v, x, hx => by
    simp only [cv] at hx ⊢
    cases hv : cv e v with
    | none => rw [hv] at hx; cases hx
    | some y => rw [hv] at hx; rw [cv_le h v y hv]; exact hx
  | .agg vs, x, hx => by
    simp only [cv] at hx ⊢
    cases hv : cvs e vs with
    | none => rw [hv] at hx; cases hx
    | some y => rw [hv] at hx; rw [cvs_le h vs y hv]; exact hx
  | .tup vs, x, hx => by
    simp only [cv] at hx ⊢
    cases hv : cvs e vs with
    | none => rw [hv] at hx; cases hx
    | some y => rw [hv] at hx; rw [cvs_le h vs y hv]; exact hx
  | .capOf b k, x, hx => by
    simp only [cv] at hx ⊢
    cases hb : e.f b with
    | none => rw [hb] at hx; cases hx
    | some y => rw [hb] at hx; rw [h.1 _ _ hb]; exact hx
  | .sym i, x, hx => by
    simp only [cv] at hx ⊢; rw [h.2]; exact hx
  | .res i c, x, hx => by
    simp only [cv] at hx ⊢; rw [h.2]; exact hx
  | .pan _, x, hx => by cases hx
theorem cvs_le {e e' : Env} (h : e.le e') : ∀ (vs : List AV) (xs : List Value), cvs e vs = some xs → cvs e' vs = some xs
  | [], _, hx => by simpa [cvs] using hx
  | v :: vs, x, hx => by
    simp only [cvs] at hx ⊢
    cases hv : cv e v with
    | none => rw [hv] at hx; cases hx
    | some y =>
      cases hw : cvs e vs with
      | none => rw [hv, hw] at hx; cases hx
      | some z => rw [hv, hw] at hx; rw [cv_le h v y hv, cvs_le h vs z hw]; exact hx
end

theorem cvs_cons {e : Env} {v : AV} {vs : List AV} {x : List Value} (h : cvs e (v :: vs) = some x) : ∃ y z, cv e v = some y ∧ cvs e vs = some z ∧ x = y :: z := by
  simp only [cvs] at h
  cases hv : cv e v with
  | none => rw [hv] at h; cases h
  | some y =>
    cases hw : cvs e vs with
    | none => rw [hv, hw] at h; cases h
    | some z => rw [hv, hw] at h; exact ⟨y, z, rfl, rfl, by simpa using h.symm⟩

theorem cvs_mk {e : Env} {v : AV} {vs : List AV} {y : Value} {z : List Value} (hv : cv e v = some y) (hw : cvs e vs = some z) : cvs e (v :: vs) = some (y :: z) := by
  simp only [cvs, hv, hw]

theorem cvs_length {e : Env} : ∀ {vs : List AV} {xs : List Value}, cvs e vs = some xs → xs.length = vs.length := by
  intro vs
  induction vs with
  | nil => intro xs h; simp only [cvs, Option.some.injEq] at h; subst h; rfl
  | cons v vs ih => intro xs h; obtain ⟨y, z, _, hz, rfl⟩ := cvs_cons h; simp [ih hz]

theorem cvs_get {e : Env} : ∀ {vs : List AV} {xs : List Value}, cvs e vs = some xs → ∀ (i : Nat) (v : AV), vs[i]? = some v → ∃ x, cv e v = some x ∧ xs[i]? = some x := by
  intro vs
  induction vs with
  | nil => intro xs _ i v hv; simp at hv
  | cons a vs ih =>
    intro xs h i v hv
    obtain ⟨y, z, hy, hz, rfl⟩ := cvs_cons h
    cases i with
    | zero => simp at hv; subst hv; exact ⟨y, hy, by simp⟩
    | succ i => simp at hv ⊢; exact ih hz i v hv

theorem cvs_append {e : Env} {a b : List AV} {x y : List Value} (ha : cvs e a = some x) (hb : cvs e b = some y) : cvs e (a ++ b) = some (x ++ y) := by
  induction a generalizing x with
  | nil => simp only [cvs, Option.some.injEq] at ha; subst ha; simpa using hb
  | cons v a ih => obtain ⟨p, q, hp, hq, rfl⟩ := cvs_cons ha; exact cvs_mk hp (ih hq)

/-- a value of which something is known is no aggregate, no bool -/
theorem RC.val_cells {c : RC} {v x : Value} (h : c.val v = some x) : x.cells.toList = [x] ∧ ∀ b, x ≠ .bool b := by
  unfold RC.val at h
  split at h
  all_goals first
    | (cases h; done)
    | (split at h
       · cases h; exact ⟨rfl, fun b hb => by cases hb⟩
       · cases h)

/-- a value's cells stand for the cells of what it stands for -/
theorem cv_cells {e : Env} {v : AV} {x : Value} (h : cv e v = some x) (hs : ∀ i, v ≠ .sym i) : cvs e v.cells = some x.cells.toList := by
  cases v with
  | agg vs =>
    simp only [cv] at h
    cases hv : cvs e vs with
    | none => rw [hv] at h; cases h
    | some y => rw [hv] at h; simp only [Option.some.injEq] at h; subst h; exact hv
  | sym i => exact absurd rfl (hs i)
  | res i c => rw [(RC.val_cells (show c.val (e.sy i) = some x from h)).1]; exact cvs_mk h rfl
  | pan _ => cases h
  | undef => simp only [cv, Option.some.injEq] at h; subst h; rfl
  | bool b => simp only [cv, Option.some.injEq] at h; subst h; rfl
  | int k n => simp only [cv, Option.some.injEq] at h; subst h; rfl
  | str s =>
    have h0 := h
    simp only [cv] at h
    split at h
    · simp only [Option.some.injEq] at h; subst h; exact cvs_mk h0 rfl
    · cases h
  | nilp => simp only [cv, Option.some.injEq] at h; subst h; rfl
  | nils => simp only [cv, Option.some.injEq] at h; subst h; rfl
  | nilm => simp only [cv, Option.some.injEq] at h; subst h; rfl
  | nilf => simp only [cv, Option.some.injEq] at h; subst h; rfl
  | nili => simp only [cv, Option.some.injEq] at h; subst h; rfl
  | ptr b o =>
    have h0 := h
    simp only [cv] at h
    cases hb : e.f b with
    | none => rw [hb] at h; cases h
    | some y => rw [hb] at h; simp only [Option.some.injEq] at h; subst h; exact cvs_mk h0 rfl
  | sl b o n c =>
    have h0 := h
    simp only [cv] at h
    cases hb : e.f b with
    | none => rw [hb] at h; cases h
    | some y => rw [hb] at h; simp only [Option.some.injEq] at h; subst h; exact cvs_mk h0 rfl
  | yld b =>
    have h0 := h
    simp only [cv] at h
    cases hb : e.f b with
    | none => rw [hb] at h; cases h
    | some y => rw [hb] at h; simp only [Option.some.injEq] at h; subst h; exact cvs_mk h0 rfl
  | capOf b o =>
    have h0 := h
    simp only [cv] at h
    cases hb : e.f b with
    | none => rw [hb] at h; cases h
    | some y => rw [hb] at h; simp only [Option.some.injEq] at h; subst h; exact cvs_mk h0 rfl
  | ifc t w =>
    have h0 := h
    simp only [cv] at h
    cases hb : cv e w with
    | none => rw [hb] at h; cases h
    | some y => rw [hb] at h; simp only [Option.some.injEq] at h; subst h; exact cvs_mk h0 rfl
  | tup w =>
    have h0 := h
    simp only [cv] at h
    cases hb : cvs e w with
    | none => rw [hb] at h; cases h
    | some y => rw [hb] at h; simp only [Option.some.injEq] at h; subst h; exact cvs_mk h0 rfl
  | fn f a b =>
    have h0 := h
    simp only [cv] at h
    cases ha : cvs e a with
    | none => rw [ha] at h; cases h
    | some y =>
      cases hb : cvs e b with
      | none => rw [ha, hb] at h; cases h
      | some z => rw [ha, hb] at h; simp only [Option.some.injEq] at h; subst h; exact cvs_mk h0 rfl

end Go.X
