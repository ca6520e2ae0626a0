/- Tries; what an abstract value stands for; what an abstract heap says of a world. -/
import Derived.Test.YtnmkiflnonafbaaGreatDoorE1
import Derived.Below
import Derived.Laws.IdiomCopy
import Derived.Laws.Cells
set_option linter.unusedVariables false
namespace Go.X
theorem brec {α : Type} (a b : α) (c : Bool) : @Bool.rec (fun _ => α) a b c = cond c b a := by cases c <;> rfl
theorem nbeq_t {a b : Nat} (h : a = b) : Nat.beq a b = true := by rw [Nat.beq_eq]; exact h
theorem nbeq_f {a b : Nat} (h : a ≠ b) : Nat.beq a b = false := by
 cases hb : Nat.beq a b with
 | false => rfl
 | true => exact absurd (Nat.eq_of_beq_eq_true hb) h
theorem nbeq_of {a b : Nat} (h : Nat.beq a b = true) : a = b := Nat.eq_of_beq_eq_true h
theorem nblt_of {a b : Nat} (h : Nat.blt a b = true) : a < b := by simpa [Nat.blt_eq] using h
theorem nble_of {a b : Nat} (h : Nat.ble a b = true) : a ≤ b := Nat.le_of_ble_eq_true h
section tries
variable {α : Type}
@[simp] theorem Tr.get_nil (n : Nat) : (Tr.nil : Tr α).get n = none := rfl
theorem Tr.get_node (v : Option α) (l r : Tr α) (n : Nat) :
 (Tr.node v l r).get n = if n = 0 then v else if n % 2 = 1 then l.get (n / 2) else r.get (n / 2 - 1) := by
 show @Bool.rec _ _ _ _ = _;rw [brec, brec]
 by_cases h0 : n = 0
 ·subst h0; rfl
 ·have : Nat.beq n 0 = false := nbeq_f h0;rw [this, if_neg h0]
  by_cases h1 : n % 2 = 1
  ·have : Nat.beq (Nat.mod n 2) 1 = true := nbeq_t h1;rw [this, if_pos h1]; rfl
  ·have : Nat.beq (Nat.mod n 2) 1 = false := nbeq_f h1;rw [this, if_neg h1]; rfl
theorem Tr.sing_zero (x : Option α) (n : Nat) : Tr.sing x 0 n = .node x .nil .nil := rfl
theorem Tr.sing_succ (x : Option α) (f n : Nat) :
 Tr.sing x (f + 1) n = if n = 0 then .node x .nil .nil else if n % 2 = 1 then .node none (Tr.sing x f (n / 2)) .nil else .node none .nil (Tr.sing x f (n / 2 - 1)) := by
 show @Bool.rec _ _ _ _ = _;rw [brec, brec]
 by_cases h0 : n = 0
 ·subst h0; rfl
 ·have : Nat.beq n 0 = false := nbeq_f h0;rw [this, if_neg h0]
  by_cases h1 : n % 2 = 1
  ·have : Nat.beq (Nat.mod n 2) 1 = true := nbeq_t h1;rw [this, if_pos h1]; rfl
  ·have : Nat.beq (Nat.mod n 2) 1 = false := nbeq_f h1;rw [this, if_neg h1]; rfl
theorem Tr.get_sing (x : Option α) : ∀ (f n m : Nat), n ≤ f → (Tr.sing x f n).get m = if m = n then x else none := by
 intro f
 induction f with
 | zero =>
  intro n m h;obtain rfl : n = 0 := by omega
  rw [Tr.sing_zero, Tr.get_node];simp
 | succ f ih =>
  intro n m h;rw [Tr.sing_succ]
  by_cases h0 : n = 0
  ·subst h0; rw [if_pos rfl, Tr.get_node]; simp
  ·rw [if_neg h0]
   by_cases h1 : n % 2 = 1
   ·rw [if_pos h1, Tr.get_node]
    by_cases m0 : m = 0
    ·subst m0; rw [if_pos rfl, if_neg (by omega)]
    ·rw [if_neg m0]
     by_cases m1 : m % 2 = 1
     ·rw [if_pos m1, ih _ _ (by omega)]
      by_cases e : m = n
      ·subst e; simp
      ·rw [if_neg e, if_neg (by omega)]
     ·rw [if_neg m1, if_neg (by omega)]; rfl
   ·rw [if_neg h1, Tr.get_node]
    by_cases m0 : m = 0
    ·subst m0; rw [if_pos rfl, if_neg (by omega)]
    ·rw [if_neg m0]
     by_cases m1 : m % 2 = 1
     ·rw [if_pos m1, if_neg (by omega)]; rfl
     ·rw [if_neg m1, ih _ _ (by omega)]
      by_cases e : m = n
      ·subst e; simp
      ·rw [if_neg e, if_neg (by omega)]
theorem Tr.set_nil (n : Nat) (x : Option α) : (Tr.nil : Tr α).set n x = Tr.sing x n n := rfl
theorem Tr.set_node (v : Option α) (l r : Tr α) (n : Nat) (x : Option α) :
 (Tr.node v l r).set n x = if n = 0 then .node x l r else if n % 2 = 1 then .node v (l.set (n / 2) x) r else .node v l (r.set (n / 2 - 1) x) := by
 show @Bool.rec _ _ _ _ = _;rw [brec, brec]
 by_cases h0 : n = 0
 ·subst h0; rfl
 ·have : Nat.beq n 0 = false := nbeq_f h0;rw [this, if_neg h0]
  by_cases h1 : n % 2 = 1
  ·have : Nat.beq (Nat.mod n 2) 1 = true := nbeq_t h1;rw [this, if_pos h1]; rfl
  ·have : Nat.beq (Nat.mod n 2) 1 = false := nbeq_f h1;rw [this, if_neg h1]; rfl
theorem Tr.get_set (t : Tr α) (n m : Nat) (x : Option α) : (t.set n x).get m = if m = n then x else t.get m := by
 induction t generalizing n m with
 | nil => rw [Tr.set_nil, Tr.get_sing _ _ _ _ (Nat.le_refl _)]; rfl
 | node v l r ihl ihr =>
  rw [Tr.set_node]
  by_cases h0 : n = 0
  ·subst h0;rw [if_pos rfl, Tr.get_node, Tr.get_node]
   by_cases m0 : m = 0
   ·simp [m0]
   ·simp [m0]
  ·rw [if_neg h0]
   by_cases h1 : n % 2 = 1
   ·rw [if_pos h1, Tr.get_node, Tr.get_node]
    by_cases m0 : m = 0
    ·subst m0; rw [if_pos rfl, if_pos rfl, if_neg (by omega)]
    ·rw [if_neg m0, if_neg m0]
     by_cases m1 : m % 2 = 1
     ·rw [if_pos m1, if_pos m1, ihl]
      by_cases e : m = n
      ·subst e; simp
      ·rw [if_neg e, if_neg (by omega)]
     ·rw [if_neg m1, if_neg m1, if_neg (by omega)]
   ·rw [if_neg h1, Tr.get_node, Tr.get_node]
    by_cases m0 : m = 0
    ·subst m0; rw [if_pos rfl, if_pos rfl, if_neg (by omega)]
    ·rw [if_neg m0, if_neg m0]
     by_cases m1 : m % 2 = 1
     ·rw [if_pos m1, if_pos m1, if_neg (by omega)]
     ·rw [if_neg m1, if_neg m1, ihr]
      by_cases e : m = n
      ·subst e; simp
      ·rw [if_neg e, if_neg (by omega)]
theorem Tr.get_put (t : Tr α) (xs : List α) : ∀ (n m : Nat), (t.put n xs).get m = if n ≤ m ∧ m < n + xs.length then xs[m - n]? else t.get m := by
 induction xs generalizing t with
 | nil => intro n m; rw [if_neg (by simp)]; rfl
 | cons x xs ih =>
  intro n m;show ((t.set n (some x)).put (n + 1) xs).get m = _;rw [ih, Tr.get_set];simp only [List.length_cons]
  by_cases h : n + 1 ≤ m ∧ m < n + 1 + xs.length
  ·rw [if_pos h, if_pos (by omega)]
   have : m - n = (m - (n + 1)) + 1 := by omega
   rw [this, List.getElem?_cons_succ]
  ·rw [if_neg h]
   by_cases e : m = n
   ·subst e; rw [if_pos rfl, if_pos (by omega)]; simp
   ·rw [if_neg e, if_neg (by omega)]
theorem Tr.take_some {t : Tr α} : ∀ {k n : Nat} {l : List α}, t.take n k = some l → l.length = k ∧ ∀ i, i < k → t.get (n + i) = l[i]? := by
 intro k
 induction k with
 | zero => intro n l h; simp only [Tr.take, Option.some.injEq] at h; subst h; simp
 | succ k ih =>
  intro n l h;simp only [Tr.take] at h;cases hx : t.get n with
  | none => rw [hx] at h; cases h
  | some x =>
   rw [hx] at h;cases hr : t.take (n + 1) k with
   | none => rw [hr] at h; cases h
   | some r =>
    rw [hr] at h;simp only [Option.some.injEq] at h;subst h;obtain ⟨hl, hg⟩ := ih hr;refine ⟨by simp [hl], fun i hi => ?_⟩
    cases i with
    | zero => simpa using hx
    | succ i =>
     have := hg i (by omega)
     rw [show n + (i + 1) = n + 1 + i by omega, this]; simp
end tries
structure Env where
 f : Nat → Option (Nat × Nat)
 sy : Nat → Value
def Env.ty (e : Env) (B : Nat) : TypeId := match e.sy (2 * B + 1) with | .int _ n => n.toNat | _ => 0
def Env.elR (e : Env) (B : Nat) : Bool → TypeId → TypeId
 | true, _ => e.ty B
 | false, el => el
def Cap.val (κ : Nat) : Cap → Nat
 | .fix n => n
 | .opn k => κ - k
def bytesOf (l : List Nat) : ByteArray := ⟨(l.map UInt8.ofNat).toArray⟩
def hfv : HF → Nat → Nat
 | .full, x => x
 | .sh s, x => x / 2 ^ s
 | .byt i, x => x / 2 ^ (8 * i) % 256
 | .bs i, x => x / 2 ^ (8 * i) % 256 * 2 ^ (8 * i)
 | .lw j, x => x % 2 ^ (8 * j)
def crcStep (x : Nat) : Nat := if x % 2 = 1 then (x / 2) ^^^ 3988292384 else x / 2
def crcByte (x b : Nat) : Nat := crcStep (crcStep (crcStep (crcStep (crcStep (crcStep (crcStep (crcStep (x ^^^ b))))))))
def crcG (l : List Nat) : Nat := (l.foldl crcByte 4294967295) ^^^ 4294967295
def RC.val : RC → Value → Option Value
 | .md k m r, .int k' (.ofNat x) => if k' = k ∧ x % m = r then some (.int k (.ofNat x)) else none
 | .rng k lo hi, .int k' x => if k' = k ∧ lo ≤ x ∧ x ≤ hi then some (.int k x) else none
 | .slLen lo hi, .slice a n c => if lo ≤ n ∧ n ≤ hi then some (.slice a n c) else none
 | .strLen lo hi, .string s => if lo ≤ s.size ∧ s.size ≤ hi then some (.string s) else none
 | .bits k j m r n, .int k' (.ofNat x) => if k' = k ∧ x / 2 ^ j % m = r then some (.int k (.ofNat (x / 2 ^ n))) else none
 | .nat k f lo hi, .int _ (.ofNat x) => if lo ≤ x ∧ x ≤ hi then some (.int k (Int.ofNat (hfv f x))) else none
 | .lenOf lo hi, .slice _ n _ => if lo ≤ n ∧ n ≤ hi then some (.int .i64 (Int.ofNat n)) else none
 | .lenOf lo hi, .string s => if lo ≤ s.size ∧ s.size ≤ hi then some (.int .i64 (Int.ofNat s.size)) else none
 | _, _ => none
def aslV (x : Nat × Nat) (lo hi : Nat) : Value → Option Value
 | .slice (some a) n c => if a = ⟨x.1, x.2, none⟩ ∧ lo ≤ n ∧ n ≤ hi then some (.slice (some a) n c) else none
 | _ => none
theorem aslV_some {x : Nat × Nat} {lo hi : Nat} {v y : Value} (h : aslV x lo hi v = some y) : ∃ n c, v = y ∧ y = .slice (some ⟨x.1, x.2, none⟩) n c ∧ lo ≤ n ∧ n ≤ hi := by
 unfold aslV at h
 split at h
 ·split at h
  ·rename_i hc;obtain ⟨rfl, h1, h2⟩ := hc;simp only [Option.some.injEq] at h;exact ⟨_, _, h, h.symm, h1, h2⟩
  ·cases h
 ·cases h
mutual
def cv (e : Env) : AV → Option Value
 | .undef => some Go.undef
 | .bool b => some (.bool b)
 | .int k n => some (.int k n)
 | .str s => if s.all (fun b => Nat.blt b 256) = true then some (.string (bytesOf s)) else none
 | .nilp => some (.pointer none)
 | .nils => some (.slice none 0 0)
 | .nilm => some (.map none)
 | .nilf => some .nilFunc
 | .nili => some .nilIface
 | .ptr b o => match e.f b with
  | some x => some (.pointer (some ⟨x.1, o, none⟩))
  | none => none
 | .sl b o n c => match e.f b with
  | some x => some (.slice (some ⟨x.1, o, none⟩) n (c.val x.2))
  | none => none
 | .fn f a b => match cvs e a, cvs e b with
  | some x, some y => some (.func (.func f) x.toArray y.toArray)
  | _, _ => none
 | .yld l => match e.f l with
  | some x => some (.func (.yield x.1) #[] #[])
  | none => none
 | .mpr b => match e.f b with
  | some x => some (.map (some x.1))
  | none => none
 | .ifc t v => match cv e v with
  | some x => some (.iface t x)
  | none => none
 | .agg vs => match cvs e vs with
  | some x => some (.agg x.toArray)
  | none => none
 | .tup vs => match cvs e vs with
  | some x => some (.tuple x.toArray)
  | none => none
 | .capOf b k => match e.f b with
  | some x => some (.int .i64 ((x.2 - k : Nat) : Int))
  | none => none
 | .sym i => some (e.sy i)
 | .res i c => c.val (e.sy i)
 | .asl b i lo hi => match e.f b with
  | some x => aslV x lo hi (e.sy i)
  | none => none
 | .eptr b k => match e.f b with
  | some x => some (.pointer (some ⟨x.1, x.2 + k, none⟩))
  | none => none
 | .pan _ => none
def cvs (e : Env) : List AV → Option (List Value)
 | [] => some []
 | v :: vs => match cv e v, cvs e vs with
  | some x, some y => some (x :: y)
  | _, _ => none
end
def Env.le (e e' : Env) : Prop := (∀ b x, e.f b = some x → e'.f b = some x) ∧ e'.sy = e.sy
theorem Env.le_refl (e : Env) : e.le e := ⟨fun _ _ h => h, rfl⟩
theorem Env.le_trans {a b c : Env} (h : a.le b) (k : b.le c) : a.le c := ⟨fun _ _ hx => k.1 _ _ (h.1 _ _ hx), k.2.trans h.2⟩
mutual
theorem cv_le {e e' : Env} (h : e.le e') : ∀ (v : AV) (x : Value), cv e v = some x → cv e' v = some x
 | .undef, _, hx => by simpa [cv] using hx
 | .bool _, _, hx => by simpa [cv] using hx
 | .int _ _, _, hx => by simpa [cv] using hx
 | .str _, _, hx => by simpa [cv] using hx
 | .nilp, _, hx => by simpa [cv] using hx
 | .nils, _, hx => by simpa [cv] using hx
 | .nilm, _, hx => by simpa [cv] using hx
 | .nilf, _, hx => by simpa [cv] using hx
 | .nili, _, hx => by simpa [cv] using hx
 | .ptr b o, x, hx => by
  simp only [cv] at hx ⊢;cases hb : e.f b with
  | none => rw [hb] at hx; cases hx
  | some y => rw [hb] at hx; rw [h.1 _ _ hb]; exact hx
 | .sl b o n c, x, hx => by
  simp only [cv] at hx ⊢;cases hb : e.f b with
  | none => rw [hb] at hx; cases hx
  | some y => rw [hb] at hx; rw [h.1 _ _ hb]; exact hx
 | .fn f a b, x, hx => by
  simp only [cv] at hx ⊢;cases ha : cvs e a with
  | none => rw [ha] at hx; cases hx
  | some y =>
   cases hb : cvs e b with
   | none => rw [ha, hb] at hx; cases hx
   | some z => rw [ha, hb] at hx; rw [cvs_le h a y ha, cvs_le h b z hb]; exact hx
 | .yld b, x, hx => by
  simp only [cv] at hx ⊢;cases hb : e.f b with
  | none => rw [hb] at hx; cases hx
  | some y => rw [hb] at hx; rw [h.1 _ _ hb]; exact hx
 | .mpr b, x, hx => by
  simp only [cv] at hx ⊢;cases hb : e.f b with
  | none => rw [hb] at hx; cases hx
  | some y => rw [hb] at hx; rw [h.1 _ _ hb]; exact hx
 | .ifc t v, x, hx => by
  simp only [cv] at hx ⊢;cases hv : cv e v with
  | none => rw [hv] at hx; cases hx
  | some y => rw [hv] at hx; rw [cv_le h v y hv]; exact hx
 | .agg vs, x, hx => by
  simp only [cv] at hx ⊢;cases hv : cvs e vs with
  | none => rw [hv] at hx; cases hx
  | some y => rw [hv] at hx; rw [cvs_le h vs y hv]; exact hx
 | .tup vs, x, hx => by
  simp only [cv] at hx ⊢;cases hv : cvs e vs with
  | none => rw [hv] at hx; cases hx
  | some y => rw [hv] at hx; rw [cvs_le h vs y hv]; exact hx
 | .capOf b k, x, hx => by
  simp only [cv] at hx ⊢;cases hb : e.f b with
  | none => rw [hb] at hx; cases hx
  | some y => rw [hb] at hx; rw [h.1 _ _ hb]; exact hx
 | .sym i, x, hx => by
  simp only [cv] at hx ⊢; rw [h.2]; exact hx
 | .res i c, x, hx => by
  simp only [cv] at hx ⊢; rw [h.2]; exact hx
 | .asl b i lo hi, x, hx => by
  simp only [cv] at hx ⊢;cases hb : e.f b with
  | none => rw [hb] at hx; cases hx
  | some y => rw [hb] at hx; rw [h.1 _ _ hb, h.2]; exact hx
 | .eptr b k, x, hx => by
  simp only [cv] at hx ⊢;cases hb : e.f b with
  | none => rw [hb] at hx; cases hx
  | some y => rw [hb] at hx; rw [h.1 _ _ hb]; exact hx
 | .pan _, x, hx => by cases hx
theorem cvs_le {e e' : Env} (h : e.le e') : ∀ (vs : List AV) (xs : List Value), cvs e vs = some xs → cvs e' vs = some xs
 | [], _, hx => by simpa [cvs] using hx
 | v :: vs, x, hx => by
  simp only [cvs] at hx ⊢;cases hv : cv e v with
  | none => rw [hv] at hx; cases hx
  | some y =>
   cases hw : cvs e vs with
   | none => rw [hv, hw] at hx; cases hx
   | some z => rw [hv, hw] at hx; rw [cv_le h v y hv, cvs_le h vs z hw]; exact hx
end
theorem cvs_cons {e : Env} {v : AV} {vs : List AV} {x : List Value} (h : cvs e (v :: vs) = some x) : ∃ y z, cv e v = some y ∧ cvs e vs = some z ∧ x = y :: z := by
 simp only [cvs] at h;cases hv : cv e v with
 | none => rw [hv] at h; cases h
 | some y =>
  cases hw : cvs e vs with
  | none => rw [hv, hw] at h; cases h
  | some z => rw [hv, hw] at h; exact ⟨y, z, rfl, rfl, by simpa using h.symm⟩
theorem cvs_mk {e : Env} {v : AV} {vs : List AV} {y : Value} {z : List Value} (hv : cv e v = some y) (hw : cvs e vs = some z) : cvs e (v :: vs) = some (y :: z) := by
 simp only [cvs, hv, hw]
theorem cvs_length {e : Env} : ∀ {vs : List AV} {xs : List Value}, cvs e vs = some xs → xs.length = vs.length := by
 intro vs
 induction vs with
 | nil => intro xs h; simp only [cvs, Option.some.injEq] at h; subst h; rfl
 | cons v vs ih => intro xs h; obtain ⟨y, z, _, hz, rfl⟩ := cvs_cons h; simp [ih hz]
theorem cvs_get {e : Env} : ∀ {vs : List AV} {xs : List Value}, cvs e vs = some xs → ∀ (i : Nat) (v : AV), vs[i]? = some v → ∃ x, cv e v = some x ∧ xs[i]? = some x := by
 intro vs
 induction vs with
 | nil => intro xs _ i v hv; simp at hv
 | cons a vs ih =>
  intro xs h i v hv;obtain ⟨y, z, hy, hz, rfl⟩ := cvs_cons h;cases i with
  | zero => simp at hv; subst hv; exact ⟨y, hy, by simp⟩
  | succ i => simp at hv ⊢; exact ih hz i v hv
theorem cvs_append {e : Env} {a b : List AV} {x y : List Value} (ha : cvs e a = some x) (hb : cvs e b = some y) : cvs e (a ++ b) = some (x ++ y) := by
 induction a generalizing x with
 | nil => simp only [cvs, Option.some.injEq] at ha; subst ha; simpa using hb
 | cons v a ih => obtain ⟨p, q, hp, hq, rfl⟩ := cvs_cons ha; exact cvs_mk hp (ih hq)
theorem RC.val_cells {c : RC} {v x : Value} (h : c.val v = some x) : x.cells.toList = [x] ∧ ∀ b, x ≠ .bool b := by
 unfold RC.val at h
 split at h
 all_goals first
  | (cases h; done)
  | (split at h
     ·cases h; exact ⟨rfl, fun b hb => by cases hb⟩
     ·cases h)
theorem cv_asl {e : Env} {b i lo hi : Nat} {x : Value} (h : cv e (.asl b i lo hi) = some x) : ∃ y n c, e.f b = some y ∧ e.sy i = x ∧ x = .slice (some ⟨y.1, y.2, none⟩) n c ∧ lo ≤ n ∧ n ≤ hi := by
 simp only [cv] at h;cases hb : e.f b with
 | none => rw [hb] at h; cases h
 | some y =>
  rw [hb] at h;obtain ⟨n, c, h1, h2, h3, h4⟩ := aslV_some h;exact ⟨y, n, c, rfl, h1, h2, h3, h4⟩
theorem cv_eptr {e : Env} {b k : Nat} {x : Value} (h : cv e (.eptr b k) = some x) : ∃ y, e.f b = some y ∧ x = .pointer (some ⟨y.1, y.2 + k, none⟩) := by
 simp only [cv] at h; cases hb : e.f b <;> rw [hb] at h <;> simp at h; exact ⟨_, rfl, h.symm⟩
theorem cv_cells {e : Env} {v : AV} {x : Value} (h : cv e v = some x) (hs : ∀ i, v ≠ .sym i) : cvs e v.cells = some x.cells.toList := by
 cases v with
 | agg vs =>
  simp only [cv] at h;cases hv : cvs e vs with
  | none => rw [hv] at h; cases h
  | some y => rw [hv] at h; simp only [Option.some.injEq] at h; subst h; exact hv
 | sym i => exact absurd rfl (hs i)
 | res i c => rw [(RC.val_cells (show c.val (e.sy i) = some x from h)).1]; exact cvs_mk h rfl
 | asl b i lo hi => have h0 := h; obtain ⟨_, _, _, _, _, rfl, _⟩ := cv_asl h; exact cvs_mk h0 rfl
 | eptr b k => have h0 := h; obtain ⟨_, _, rfl⟩ := cv_eptr h; exact cvs_mk h0 rfl
 | pan _ => cases h
 | undef => simp only [cv, Option.some.injEq] at h; subst h; rfl
 | bool b => simp only [cv, Option.some.injEq] at h; subst h; rfl
 | int k n => simp only [cv, Option.some.injEq] at h; subst h; rfl
 | str s =>
  have h0 := h;simp only [cv] at h
  split at h
  ·simp only [Option.some.injEq] at h; subst h; exact cvs_mk h0 rfl
  ·cases h
 | nilp => simp only [cv, Option.some.injEq] at h; subst h; rfl
 | nils => simp only [cv, Option.some.injEq] at h; subst h; rfl
 | nilm => simp only [cv, Option.some.injEq] at h; subst h; rfl
 | nilf => simp only [cv, Option.some.injEq] at h; subst h; rfl
 | nili => simp only [cv, Option.some.injEq] at h; subst h; rfl
 | ptr b o =>
  have h0 := h;simp only [cv] at h;cases hb : e.f b with
  | none => rw [hb] at h; cases h
  | some y => rw [hb] at h; simp only [Option.some.injEq] at h; subst h; exact cvs_mk h0 rfl
 | sl b o n c =>
  have h0 := h;simp only [cv] at h;cases hb : e.f b with
  | none => rw [hb] at h; cases h
  | some y => rw [hb] at h; simp only [Option.some.injEq] at h; subst h; exact cvs_mk h0 rfl
 | yld b =>
  have h0 := h;simp only [cv] at h;cases hb : e.f b with
  | none => rw [hb] at h; cases h
  | some y => rw [hb] at h; simp only [Option.some.injEq] at h; subst h; exact cvs_mk h0 rfl
 | mpr b =>
  have h0 := h;simp only [cv] at h;cases hb : e.f b with
  | none => rw [hb] at h; cases h
  | some y => rw [hb] at h; simp only [Option.some.injEq] at h; subst h; exact cvs_mk h0 rfl
 | capOf b o =>
  have h0 := h;simp only [cv] at h;cases hb : e.f b with
  | none => rw [hb] at h; cases h
  | some y => rw [hb] at h; simp only [Option.some.injEq] at h; subst h; exact cvs_mk h0 rfl
 | ifc t w =>
  have h0 := h;simp only [cv] at h;cases hb : cv e w with
  | none => rw [hb] at h; cases h
  | some y => rw [hb] at h; simp only [Option.some.injEq] at h; subst h; exact cvs_mk h0 rfl
 | tup w =>
  have h0 := h;simp only [cv] at h;cases hb : cvs e w with
  | none => rw [hb] at h; cases h
  | some y => rw [hb] at h; simp only [Option.some.injEq] at h; subst h; exact cvs_mk h0 rfl
 | fn f a b =>
  have h0 := h;simp only [cv] at h;cases ha : cvs e a with
  | none => rw [ha] at h; cases h
  | some y =>
   cases hb : cvs e b with
   | none => rw [ha, hb] at h; cases h
   | some z => rw [ha, hb] at h; simp only [Option.some.injEq] at h; subst h; exact cvs_mk h0 rfl
end Go.X

/- What an abstract heap says of a world; what a step may change. -/
namespace Go.X
noncomputable section
abbrev Loops := List (Nat × Code × Code)
def Tr.getU (t : Tr AV) (i : Nat) : AV := match t.get i with | some v => v | none => .undef
def TmOk (e : Env) (tm : Tr AV) (n : Nat) (tmps : Array Value) : Prop :=
 tmps.size = n ∧ ∀ i, cv e (tm.getU i) = some (tmps.getD i Go.undef)
def SzOk (κ n : Nat) : Sz → Prop
 | .fix m => n = m
 | .opn lo hi es => n = es * κ ∧ lo ≤ κ ∧ ∀ h, hi = some h → κ < h
def XE.toCode : XE → Code
 | .normal => .skip
 | .exit id => .exit id
 | .ret => .ret
 | .pan _ => .skip
def MEsOk (e : Env) : List ME → List MapEntry → Prop
 | [], [] => True
 | m :: ms, x :: xs => (cv e m.key = some x.key ∧ cv e m.val = some x.val ∧ x.born = m.born) ∧ MEsOk e ms xs
 | _, _ => False
theorem MEsOk.le {e e' : Env} (h : e.le e') : ∀ {ms : List ME} {xs : List MapEntry}, MEsOk e ms xs → MEsOk e' ms xs
 | [], [], _ => trivial
 | m :: ms, x :: xs, hx => ⟨⟨cv_le h _ _ hx.1.1, cv_le h _ _ hx.1.2.1, hx.1.2.2⟩, MEsOk.le h hx.2⟩
 | [], _ :: _, hx => hx.elim
 | _ :: _, [], hx => hx.elim
theorem MEsOk.length {e : Env} : ∀ {ms : List ME} {xs : List MapEntry}, MEsOk e ms xs → ms.length = xs.length
 | [], [], _ => rfl
 | _ :: _, _ :: _, hx => by simp [MEsOk.length hx.2]
 | [], _ :: _, hx => hx.elim
 | _ :: _, [], hx => hx.elim
def IterM (e : Env) (r : Option Nat) : Option Nat → Prop
 | none => r = none
 | some b => ∃ y, e.f b = some y ∧ r = some y.1
def FzOk (fz : Nat × Nat) (n : Nat) (sz : Sz) : Prop := fz = (0, 0) ∨ (n ≤ fz.1 ∧ sz.plain = false)
theorem FzOk.plain {fz : Nat × Nat} {n : Nat} {sz : Sz} (h : FzOk fz n sz) (hp : sz.plain = true) : fz = (0, 0) := by
 rcases h with h | ⟨_, h⟩
 ·exact h
 ·rw [hp] at h; cases h
def ObjR (e : Env) (L : Loops) (b : Nat) (x : Nat × Nat) (w : World) : AObj → Prop
 | .blk el ro sz cells => ∃ (c : Array Value) (fz : Nat × Nat), w.heap[x.1]? = some (.cells c (e.elR x.1 ro el) fz) ∧ (ro = false → FzOk fz c.size sz) ∧
  SzOk x.2 c.size sz ∧ ∀ i v, cells.get i = some v → ∃ y, cv e v = some y ∧ c[i]? = some y
 | .loop st pend fn fr ps dfr => ∃ (asg body : Code) (xd : Nat × Nat) (tmps : Array Value), lookL L b = some (asg, body) ∧ e.f dfr = some xd ∧
  w.heap[x.1]? = some (.loop { state := st, pending := pend.map XE.toCode, fn := fn, tmps := tmps, params := ps.toArray, assign := asg, body := body, defers := xd.1 }) ∧
  TmOk e fr.tm fr.n tmps
 | .defr full => w.heap[x.1]? = some (.deferred (if full then some [] else none))
 | .siter s pos => w.heap[x.1]? = some (.stringIter (bytesOf s) pos)
 | .mobj es c => ∃ xs : Array MapEntry, w.heap[x.1]? = some (.map xs c) ∧ MEsOk e es xs.toList
 | .miter m since seen last => ∃ r, w.heap[x.1]? = some (.mapIter r since seen.toArray last) ∧ IterM e r m
 | .arg cells => ∃ (c : Array Value) (el : TypeId) (fz : Nat × Nat), w.heap[x.1]? = some (.cells c el fz) ∧ ∀ i v, cells.get i = some v → ∃ y, cv e v = some y ∧ c[x.2 + i]? = some y
def AObj.wr : AObj → Bool
 | .blk _ ro _ _ => !ro
 | .arg _ => false
 | _ => true
def OraOk1 (o : OraE) (e : Env) : Prop := ∀ x y : AV, numSame o.x x = true → numSame o.y y = true → ∀ vx vy, cv e x = some vx → cv e y = some vy →
 ∃ k a k' b u, vx = .int k a ∧ vy = .int k' b ∧ binInt o.op k k' a b = some u ∧ cv e o.r = cv e u
def OraOk2 (o : OraE) (cs : List AV) (e : Env) : Prop := ∀ bs : List Nat, (∀ b ∈ bs, b < 256) → cvs e cs = some (bs.map fun b => .int .u8 (Int.ofNat b)) → cv e o.r = some (.int .u32 (Int.ofNat (crcG bs)))
def OraOk (l : List OraE) (sy : Nat → Value) : Prop := ∀ o ∈ l, ∀ e : Env, e.sy = sy → (o.cells = none → OraOk1 o e) ∧ ∀ cs, o.cells = some cs → OraOk2 o cs e
structure GP where
 n : Nat
 ora : List OraE
def gpO (P : Program) (O : List OraE) : GP := ⟨P.globals.size, O⟩
abbrev gp (P : Program) (X : XP) : GP := gpO P X.ora
structure HR (NG : GP) (e : Env) (L : Loops) (G : Nat → Option AObj) (nx : Nat) (w : World) : Prop where
 dom : ∀ b x, e.f b = some x → b < nx
 live : ∀ b o, G b = some o → ∃ x, e.f b = some x ∧ ObjR e L b x w o
 inj : ∀ b c o p x y, G b = some o → G c = some p → (o.wr = true ∨ p.wr = true) → e.f b = some x → e.f c = some y → x.1 = y.1 → b = c
 glob : ∀ g, g < NG.n → e.f g = some (g, 0)
 ora : OraOk NG.ora e.sy
def Foot (e : Env) (G : Nat → Option AObj) (B : Nat) : Prop := ∃ b o x, G b = some o ∧ o.wr = true ∧ e.f b = some x ∧ x.1 = B
structure Tran (e : Env) (G : Nat → Option AObj) (nx : Nat) (w : World) (e' : Env) (G' : Nat → Option AObj) (nx' : Nat) (w' : World) : Prop where
 le : e.le e'
 old : ∀ b, b < nx → e'.f b = e.f b
 nx : nx ≤ nx'
 size : w.heap.size ≤ w'.heap.size
 keep : ∀ B, B < w.heap.size → ¬ Foot e G B → w'.heap[B]? = w.heap[B]?
 foot : ∀ B, Foot e' G' B → B < w.heap.size → Foot e G B
 ro : ∀ b o, G' b = some o → o.wr = false → ∃ o0, G b = some o0 ∧ o0.wr = false
 os : w'.os = w.os
 tape : w'.tape = w.tape
 output : w'.output = w.output
theorem Tran.refl (e : Env) (G : Nat → Option AObj) (nx : Nat) (w : World) : Tran e G nx w e G nx w :=
 ⟨Env.le_refl e, fun _ _ => rfl, Nat.le_refl _, Nat.le_refl _, fun _ _ _ => rfl, fun _ h _ => h, fun _ o h hr => ⟨o, h, hr⟩, rfl, rfl, rfl⟩
theorem Tran.trans {e e1 e2 : Env} {G G1 G2 : Nat → Option AObj} {n n1 n2 : Nat} {w w1 w2 : World} (h : Tran e G n w e1 G1 n1 w1) (k : Tran e1 G1 n1 w1 e2 G2 n2 w2) :
 Tran e G n w e2 G2 n2 w2 where
 le := Env.le_trans h.le k.le
 old b hb := (k.old b (Nat.lt_of_lt_of_le hb h.nx)).trans (h.old b hb)
 nx := Nat.le_trans h.nx k.nx
 size := Nat.le_trans h.size k.size
 keep B hB hf := by
  rw [k.keep B (Nat.lt_of_lt_of_le hB h.size) (fun hf1 => hf (h.foot B hf1 hB)), h.keep B hB hf]
 foot B hB hs := h.foot B (k.foot B hB (Nat.lt_of_lt_of_le hs h.size)) hs
 ro b o hb hr := let ⟨o1, h1, h2⟩ := k.ro b o hb hr; h.ro b o1 h1 h2
 os := k.os.trans h.os
 tape := k.tape.trans h.tape
 output := k.output.trans h.output
def Sub (G' G : Nat → Option AObj) : Prop := ∀ b o, G' b = some o → G b = some o
theorem Sub.refl (G : Nat → Option AObj) : Sub G G := fun _ _ h => h
theorem Sub.trans {A B C : Nat → Option AObj} (h : Sub A B) (k : Sub B C) : Sub A C := fun _ _ x => k _ _ (h _ _ x)
theorem Foot.mono {e : Env} {G G' : Nat → Option AObj} (h : Sub G' G) {B : Nat} (hf : Foot e G' B) : Foot e G B := by
 obtain ⟨b, o, x, h1, h2, h3, h4⟩ := hf;exact ⟨b, o, x, h _ _ h1, h2, h3, h4⟩
theorem HR.weaken {NG : GP} {e : Env} {L : Loops} {G G' : Nat → Option AObj} {nx : Nat} {w : World} (h : HR NG e L G nx w) (hs : Sub G' G) : HR NG e L G' nx w where
 dom := h.dom
 live b o hb := h.live b o (hs _ _ hb)
 inj b c o p x y hb hc := h.inj b c o p x y (hs _ _ hb) (hs _ _ hc)
 glob := h.glob
 ora := h.ora
theorem Tran.weaken {e e' : Env} {G G1 G' : Nat → Option AObj} {n n' : Nat} {w w' : World} (h : Tran e G n w e' G1 n' w') (hs : Sub G' G1) : Tran e G n w e' G' n' w' :=
 { h with foot := fun B hB => h.foot B (hB.mono hs), ro := fun b o hb hr => h.ro b o (hs _ _ hb) hr }
theorem Tran.from_sub {e e' : Env} {G G0 G' : Nat → Option AObj} {n n' : Nat} {w w' : World} (h : Tran e G0 n w e' G' n' w') (hs : Sub G0 G) : Tran e G n w e' G' n' w' :=
 { h with keep := fun B hB hf => h.keep B hB (fun hf' => hf (hf'.mono hs)), foot := fun B hB hl => (h.foot B hB hl).mono hs, ro := fun b o hb hr => let ⟨o1, h1, h2⟩ := h.ro b o hb hr; ⟨o1, hs _ _ h1, h2⟩ }
theorem HR.bump {NG : GP} {e : Env} {L : Loops} {G : Nat → Option AObj} {nx nx' : Nat} {w : World} (h : HR NG e L G nx w) (hn : nx ≤ nx') : HR NG e L G nx' w :=
 { h with dom := fun b x hb => Nat.lt_of_lt_of_le (h.dom b x hb) hn }
theorem Tran.bump {e e' : Env} {G G' : Nat → Option AObj} {n n' n2 : Nat} {w w' : World} (h : Tran e G n w e' G' n' w') (hn : n' ≤ n2) : Tran e G n w e' G' n2 w' :=
 { h with nx := Nat.le_trans h.nx hn }
theorem ObjR.lt {e : Env} {L : Loops} {b : Nat} {x : Nat × Nat} {w : World} {o : AObj} (h : ObjR e L b x w o) : x.1 < w.heap.size := by
 have key : ∀ {ob : Obj}, w.heap[x.1]? = some ob → x.1 < w.heap.size := fun {ob} hh => by
  rcases Nat.lt_or_ge x.1 w.heap.size with h1 | h1
  ·exact h1
  ·rw [Array.getElem?_eq_none h1] at hh; cases hh
 cases o with
 | blk el ro sz cells => obtain ⟨c, fz, h1, _⟩ := h; exact key h1
 | loop st pend fn fr ps dfr => obtain ⟨_, _, _, _, _, _, h1, _⟩ := h; exact key h1
 | defr f => exact key h
 | siter s p => exact key h
 | mobj es c => obtain ⟨_, h1, _⟩ := h; exact key h1
 | miter m a b c => obtain ⟨_, h1, _⟩ := h; exact key h1
 | arg c => obtain ⟨_, _, _, h1, _⟩ := h; exact key h1
theorem TmOk.le {e e' : Env} (hle : e.le e') {tm : Tr AV} {n : Nat} {t : Array Value} (h : TmOk e tm n t) : TmOk e' tm n t :=
 ⟨h.1, fun i => cv_le hle _ _ (h.2 i)⟩
theorem ObjR.keep {e e' : Env} {L L' : Loops} {b : Nat} {x : Nat × Nat} {w w' : World} {o : AObj} (h : ObjR e L b x w o) (hle : e.le e')
 (hw : w'.heap[x.1]? = w.heap[x.1]?) (hL : lookL L' b = lookL L b) : ObjR e' L' b x w' o := by
 cases o with
 | blk el ro sz cells =>
  obtain ⟨c, fz, h1, h2, h3, h4⟩ := h;have hel : e'.elR x.1 ro el = e.elR x.1 ro el := by cases ro <;> simp only [Env.elR, Env.ty, hle.2]
  exact ⟨c, fz, hw.trans (hel ▸ h1), h2, h3, fun i v hv => let ⟨y, hy, hc⟩ := h4 i v hv; ⟨y, cv_le hle _ _ hy, hc⟩⟩
 | loop st pend fn fr ps dfr =>
  obtain ⟨asg, body, xd, t, h1, h2, h3, h4⟩ := h;exact ⟨asg, body, xd, t, hL.trans h1, hle.1 _ _ h2, hw.trans h3, h4.le hle⟩
 | defr f => exact hw.trans h
 | siter s p => exact hw.trans h
 | mobj es c => obtain ⟨xs, h1, h2⟩ := h; exact ⟨xs, hw.trans h1, h2.le hle⟩
 | miter m a b c =>
  obtain ⟨r, h1, h2⟩ := h;refine ⟨r, hw.trans h1, ?_⟩;cases m with
  | none => exact h2
  | some b => obtain ⟨y, h3, h4⟩ := h2; exact ⟨y, hle.1 _ _ h3, h4⟩
 | arg cs => obtain ⟨c, el, fz, h1, h2⟩ := h; exact ⟨c, el, fz, hw.trans h1, fun i v hv => let ⟨y, hy, hc⟩ := h2 i v hv; ⟨y, cv_le hle _ _ hy, hc⟩⟩
theorem HR.frame {NG : GP} {e e' : Env} {L : Loops} {G G0 G' : Nat → Option AObj} {n n' : Nat} {w w' : World} (h : HR NG e L G n w) (hs : Sub G0 G)
 (ht : Tran e G0 n w e' G' n' w') (h' : HR NG e' L G' n' w') :
 HR NG e' L (fun b => match G' b with | some o => some o | none => (match G0 b with | some _ => none | none => G b)) n' w' := by
 have hcase : ∀ b o, (match G' b with | some o => some o | none => (match G0 b with | some _ => none | none => G b)) = some o → G' b = some o ∨ (G' b = none ∧ G0 b = none ∧ G b = some o) := by
  intro b o hb;cases h1 : G' b with
  | some p => rw [h1] at hb; left; exact hb
  | none =>
   rw [h1] at hb;cases h2 : G0 b with
   | some p => rw [h2] at hb; cases hb
   | none => rw [h2] at hb; right; exact ⟨rfl, rfl, hb⟩
 have hout : ∀ b o x, G0 b = none → G b = some o → e.f b = some x → x.1 < w.heap.size ∧ ¬ Foot e G0 x.1 := by
  intro b o x h0 hb hx;obtain ⟨y, hy, hO⟩ := h.live b o hb;rw [hx] at hy; cases hy;refine ⟨hO.lt, ?_⟩;rintro ⟨c, p, y, hc, hpw, hy, he⟩;have := h.inj c b p o y x (hs _ _ hc) hb (.inl hpw) hy hx he;subst this;rw [h0] at hc; cases hc
 refine ⟨h'.dom, ?_, ?_, h'.glob, h'.ora⟩
 ·intro b o hb;rcases hcase b o hb with h1 | ⟨h1, h2, h3⟩
  ·exact h'.live b o h1
  ·obtain ⟨x, hx, hO⟩ := h.live b o h3;obtain ⟨hlt, hnf⟩ := hout b o x h2 h3 hx;exact ⟨x, ht.le.1 _ _ hx, hO.keep ht.le (ht.keep _ hlt hnf) rfl⟩
 ·intro b c o p x y hb hc hwr hx hy hxy;have back : ∀ c p y, G c = some p → e'.f c = some y → e.f c = some y := by
   intro c p y hc hy;obtain ⟨y', hy', _⟩ := h.live c p hc;have := ht.le.1 _ _ hy';rw [hy] at this;rw [hy', this]
  have cross : ∀ b c o p x y, G' b = some o → G0 c = none → G c = some p → (o.wr = true ∨ p.wr = true) → e'.f b = some x → e'.f c = some y → x.1 = y.1 → False := by
   intro b c o p x y hb h0 hc hwr hx hy hxy;have hy' := back c p y hc hy;cases hw : o.wr with
   | true =>
    obtain ⟨hlt, hnf⟩ := hout c p y h0 hc hy';exact hnf (ht.foot _ ⟨b, o, x, hb, hw, hx, hxy⟩ hlt)
   | false =>
    obtain ⟨o0, hb0, _⟩ := ht.ro b o hb hw;have hx' := back b o0 x (hs _ _ hb0) hx;have hpw : p.wr = true := hwr.resolve_left (by rw [hw]; exact Bool.false_ne_true)
    have := h.inj b c o0 p x y (hs _ _ hb0) hc (.inr hpw) hx' hy' hxy;subst this;rw [h0] at hb0; cases hb0
  rcases hcase b o hb with h1 | ⟨_, h2, h3⟩
  ·rcases hcase c p hc with k1 | ⟨_, k2, k3⟩
   ·exact h'.inj b c o p x y h1 k1 hwr hx hy hxy
   ·exact (cross b c o p x y h1 k2 k3 hwr hx hy hxy).elim
  ·rcases hcase c p hc with k1 | ⟨_, k2, k3⟩
   ·exact (cross c b p o y x k1 h2 h3 hwr.symm hy hx hxy.symm).elim
   ·exact h.inj b c o p x y h3 k3 hwr (back _ _ _ h3 hx) (back _ _ _ k3 hy) hxy
def upd (G : Nat → Option AObj) (b : Nat) (o : Option AObj) : Nat → Option AObj := fun c => if c = b then o else G c
theorem upd_same (G : Nat → Option AObj) (b : Nat) (o : Option AObj) : upd G b o b = o := by simp [upd]
theorem upd_ne (G : Nat → Option AObj) {b c : Nat} (o : Option AObj) (h : c ≠ b) : upd G b o c = G c := by simp [upd, h]
theorem get_set_upd (t : Tr AObj) (b : Nat) (o : Option AObj) : (t.set b o).get = upd t.get b o := by
 funext c; rw [Tr.get_set]; rfl
theorem HR.upd {NG : GP} {e : Env} {L : Loops} {G : Nat → Option AObj} {n : Nat} {w w' : World} {b : Nat} {o o' : AObj} {x : Nat × Nat} (h : HR NG e L G n w)
 (hb : G b = some o) (hx : e.f b = some x) (hwr : o.wr = true) (hsame : ∀ B, B ≠ x.1 → w'.heap[B]? = w.heap[B]?) (ho : ObjR e L b x w' o') : HR NG e L (upd G b (some o')) n w' := by
 refine ⟨h.dom, ?_, ?_, h.glob, h.ora⟩
 ·intro c p hc
  by_cases e1 : c = b
  ·subst e1; rw [upd_same] at hc; cases hc; exact ⟨x, hx, ho⟩
  ·rw [upd_ne _ _ e1] at hc;obtain ⟨y, hy, hO⟩ := h.live c p hc;exact ⟨y, hy, hO.keep (Env.le_refl e) (hsame _ fun he => e1 (h.inj c b p o y x hc hb (.inr hwr) hy hx he)) rfl⟩
 ·intro c d p q y z hc hd hw hy hz hyz;have hh : ∀ c p, X.upd G b (some o') c = some p → ∃ p', G c = some p' ∧ (p.wr = true → p'.wr = true) := by
   intro c p hc
   by_cases e1 : c = b
   ·subst e1; exact ⟨o, hb, fun _ => hwr⟩
   ·rw [upd_ne _ _ e1] at hc; exact ⟨p, hc, id⟩
  obtain ⟨p', hp', hpw⟩ := hh c p hc;obtain ⟨q', hq', hqw⟩ := hh d q hd;exact h.inj c d p' q' y z hp' hq' (hw.imp hpw hqw) hy hz hyz
theorem Tran.upd {e : Env} {G : Nat → Option AObj} {n : Nat} {w w' : World} {b : Nat} {o o' : AObj} {x : Nat × Nat}
 (hb : G b = some o) (hx : e.f b = some x) (hw : o.wr = true) (hw' : o'.wr = true) (hsame : ∀ B, B ≠ x.1 → w'.heap[B]? = w.heap[B]?) (hsz : w'.heap.size = w.heap.size)
 (hos : w'.os = w.os) (htp : w'.tape = w.tape) (hout : w'.output = w.output) : Tran e G n w e (X.upd G b (some o')) n w' where
 le := Env.le_refl e
 old _ _ := rfl
 nx := Nat.le_refl _
 size := by omega
 keep B _ hf := hsame B fun he => hf ⟨b, o, x, hb, hw, hx, he.symm⟩
 foot B hf _ := by
  obtain ⟨c, p, y, hc, hp, hy, he⟩ := hf
  by_cases e1 : c = b
  ·subst e1; rw [hx] at hy; cases hy; exact ⟨c, o, x, hb, hw, hx, he⟩
  ·rw [upd_ne _ _ e1] at hc; exact ⟨c, p, y, hc, hp, hy, he⟩
 ro c p hc hp := by
  by_cases e1 : c = b
  ·subst e1; rw [upd_same] at hc; cases hc; rw [hw'] at hp; cases hp
  ·rw [upd_ne _ _ e1] at hc; exact ⟨p, hc, hp⟩
 os := hos
 tape := htp
 output := hout
theorem Sub.drop (G : Nat → Option AObj) (b : Nat) : Sub (upd G b none) G := fun c o hc => by
 by_cases e1 : c = b
 ·subst e1; rw [upd_same] at hc; cases hc
 ·rw [upd_ne _ _ e1] at hc; exact hc
def Env.ext (e : Env) (b : Nat) (x : Nat × Nat) : Env := { e with f := fun c => if c = b then some x else e.f c }
theorem Env.ext_same (e : Env) (b : Nat) (x : Nat × Nat) : (e.ext b x).f b = some x := by simp [Env.ext]
theorem Env.ext_ne (e : Env) {b c : Nat} (x : Nat × Nat) (h : c ≠ b) : (e.ext b x).f c = e.f c := by simp [Env.ext, h]
theorem Env.le_ext {e : Env} {b : Nat} (h : e.f b = none) (x : Nat × Nat) : e.le (e.ext b x) :=
 ⟨fun c y hc => by rw [Env.ext_ne _ _ (fun he => by subst he; rw [h] at hc; cases hc)]; exact hc, rfl⟩
theorem HR.alloc {NG : GP} {e : Env} {L : Loops} {G : Nat → Option AObj} {n : Nat} {w w' : World} {b κ : Nat} {o : AObj} {ob : Obj} (h : HR NG e L G n w)
 (hb : e.f b = none) (hn : b < n) (hheap : w'.heap = w.heap.push ob) (ho : ObjR (e.ext b (w.heap.size, κ)) L b (w.heap.size, κ) w' o) :
 HR NG (e.ext b (w.heap.size, κ)) L (X.upd G b (some o)) n w' := by
 have hle := Env.le_ext hb (w.heap.size, κ);have hold : ∀ B, B < w.heap.size → w'.heap[B]? = w.heap[B]? := fun B hB => by rw [hheap, Array.getElem?_push, if_neg (by omega)]
 have hG : G b = none := by
  cases hg : G b with
  | none => rfl
  | some p => obtain ⟨y, hy, _⟩ := h.live b p hg; rw [hb] at hy; cases hy
 refine ⟨?_, ?_, ?_, fun g hg => hle.1 _ _ (h.glob g hg), by rw [hle.2]; exact h.ora⟩
 ·intro c y hc
  by_cases e1 : c = b
  ·subst e1; exact hn
  ·rw [Env.ext_ne _ _ e1] at hc; exact h.dom c y hc
 ·intro c p hc
  by_cases e1 : c = b
  ·subst e1; rw [upd_same] at hc; cases hc; exact ⟨_, Env.ext_same _ _ _, ho⟩
  ·rw [upd_ne _ _ e1] at hc;obtain ⟨y, hy, hO⟩ := h.live c p hc;exact ⟨y, hle.1 _ _ hy, hO.keep hle (hold _ hO.lt) rfl⟩
 ·intro c d p q y z hc hd hw hy hz hyz;have cross : ∀ c p y, c ≠ b → X.upd G b (some o) c = some p → (e.ext b (w.heap.size, κ)).f c = some y → y.1 < w.heap.size := by
   intro c p y e1 hc hy;rw [upd_ne _ _ e1] at hc;rw [Env.ext_ne _ _ e1] at hy;obtain ⟨y', hy', hO⟩ := h.live c p hc;rw [hy] at hy'; cases hy'; exact hO.lt
  by_cases e1 : c = b
  ·by_cases e2 : d = b
   ·rw [e1, e2]
   ·have := cross d q z e2 hd hz;subst e1; rw [Env.ext_same] at hy; cases hy; simp at hyz; omega
  ·by_cases e2 : d = b
   ·have := cross c p y e1 hc hy;subst e2; rw [Env.ext_same] at hz; cases hz; simp at hyz; omega
   ·rw [upd_ne _ _ e1] at hc; rw [upd_ne _ _ e2] at hd;rw [Env.ext_ne _ _ e1] at hy; rw [Env.ext_ne _ _ e2] at hz;exact h.inj c d p q y z hc hd hw hy hz hyz
theorem Tran.alloc {e : Env} {G : Nat → Option AObj} {n n' : Nat} {w w' : World} {b κ : Nat} {o : AObj} {ob : Obj}
 (hb : e.f b = none) (hnb : n ≤ b) (hn : n ≤ n') (hw : o.wr = true) (hheap : w'.heap = w.heap.push ob) (hos : w'.os = w.os) (htp : w'.tape = w.tape) (hout : w'.output = w.output) :
 Tran e G n w (e.ext b (w.heap.size, κ)) (X.upd G b (some o)) n' w' where
 le := Env.le_ext hb _
 old c hc := Env.ext_ne _ _ (by omega)
 nx := hn
 size := by rw [hheap]; simp
 keep B hB _ := by rw [hheap, Array.getElem?_push, if_neg (by omega)]
 foot B hf hB := by
  obtain ⟨c, p, y, hc, hp, hy, he⟩ := hf
  by_cases e1 : c = b
  ·subst e1; rw [Env.ext_same] at hy; cases hy; simp at he; omega
  ·rw [upd_ne _ _ e1] at hc; rw [Env.ext_ne _ _ e1] at hy; exact ⟨c, p, y, hc, hp, hy, he⟩
 ro c p hc hp := by
  by_cases e1 : c = b
  ·subst e1; rw [upd_same] at hc; cases hc; rw [hw] at hp; cases hp
  ·rw [upd_ne _ _ e1] at hc; exact ⟨p, hc, hp⟩
 os := hos
 tape := htp
 output := hout
theorem HR.same {NG : GP} {e : Env} {L : Loops} {G : Nat → Option AObj} {n : Nat} {w w' : World} (h : HR NG e L G n w) (hh : w'.heap = w.heap) : HR NG e L G n w' where
 dom := h.dom
 live b o hb := let ⟨x, hx, hO⟩ := h.live b o hb; ⟨x, hx, hO.keep (Env.le_refl e) (by rw [hh]) rfl⟩
 inj := h.inj
 glob := h.glob
 ora := h.ora
theorem Tran.same {e : Env} {G : Nat → Option AObj} {n : Nat} {w w' : World} (hh : w'.heap = w.heap) (hos : w'.os = w.os) (htp : w'.tape = w.tape) (hout : w'.output = w.output) : Tran e G n w e G n w' :=
 ⟨Env.le_refl e, fun _ _ => rfl, Nat.le_refl _, by rw [hh]; exact Nat.le_refl _, fun _ _ _ => by rw [hh], fun _ h _ => h, fun _ o h hr => ⟨o, h, hr⟩, hos, htp, hout⟩
end
end Go.X

/- The tables of types; reading and writing cells. -/
namespace Go.X
noncomputable section
def TKok (P : Program) : TypeDesc → TK → Prop
 | .bool, .bool => True
 | .int k, .int k' => k = k'
 | .string, .str => True
 | .pointer e, .ptr e' => e = e'
 | .slice e, .slice e' => e = e'
 | .array n e, .arr n' e' => n = n' ∧ e = e'
 | .struct fs, .struct gs => (fs.toList.map fun f => (f.offset, f.type, P.cellsOf f.type)) = gs.map (fun g => (g.off, g.ty, g.size))
 | .interface _, .iface => True
 | .func .., .func => True
 | .map k e, .map k' e' => k = k' ∧ e = e'
 | .unsafePointer, .uptr => True
 | .bool, .other | .int _, .other | .string, .other | .pointer _, .other | .slice _, .other | .func .., .other | .interface _, .other | .map .., .other | .chan .., .other | .tuple _, .other | .unsafePointer, .other | .float _, .other | .complex _, .other | .invalid, .other | .named .., .other => True
 | _, _ => False
def isAggV : Value → Bool
 | .agg _ => true
 | _ => false
structure TyOk (P : Program) (t : TypeId) (ti : TyI) : Prop where
 info : ∃ i, P.info? t = some i ∧ i.size = ti.size ∧ i.bytes = ti.bytes ∧ ∃ z, i.zero = some z ∧ ofConsts z.cells.toList = some ti.zero
 len : ti.zero.length = ti.size
 zk : ∃ i z, P.info? t = some i ∧ i.zero = some z ∧ isAggV z = ti.isAgg
 und : ∃ d, P.underlying t = some d ∧ TKok P d ti.k
 flds : ∀ fs, P.underlying t = some (.struct fs) → ∀ f ∈ fs, ∃ i, P.info? f.type = some i
 cmp : ti.cmp = true → P.stoodInHeld t = false ∧ P.eqGuardType P.depth t = false ∧ ∀ fs, P.underlying t = some (.struct fs) → ∀ f ∈ fs, f.name ≠ "_"
structure XPok (P : Program) (X : XP) : Prop where
 tys : ∀ t ti, X.tys.get t = some ti → TyOk P t ti
 glob : X.glob = P.globals.size
theorem ofConst1_cv (e : Env) {v : Value} {a : AV} (h : ofConst1 v = some a) : cv e a = some v ∧ a.isCell = true := by
 cases v with
 | string s =>
  simp only [ofConst1, Option.some.injEq] at h; subst h;refine ⟨?_, rfl⟩;have hall : (s.data.toList.map (·.toNat)).all (fun b => Nat.blt b 256) = true := by
   simp only [List.all_map, List.all_eq_true, Function.comp];intro x _;rw [Nat.blt_eq]; exact UInt8.toNat_lt x
  simp only [cv, hall, if_true, bytesOf, List.map_map];have : (List.map (UInt8.ofNat ∘ fun x => x.toNat) s.data.toList) = s.data.toList := by
   conv => rhs; rw [← List.map_id s.data.toList]
   exact List.map_congr_left fun x _ => by simp
  rw [this]
 | pointer a => cases a <;> simp only [ofConst1, Option.some.injEq, reduceCtorEq] at h; subst h; exact ⟨rfl, rfl⟩
 | slice a n c =>
  cases a with
  | some a => simp [ofConst1] at h
  | none =>
   cases n with
   | succ n => simp [ofConst1] at h
   | zero => cases c with
    | succ c => simp [ofConst1] at h
    | zero => simp only [ofConst1, Option.some.injEq] at h; subst h; exact ⟨rfl, rfl⟩
 | map r => cases r <;> simp only [ofConst1, Option.some.injEq, reduceCtorEq] at h; subst h; exact ⟨rfl, rfl⟩
 | bool b => simp only [ofConst1, Option.some.injEq] at h; subst h; exact ⟨rfl, rfl⟩
 | int k n => simp only [ofConst1, Option.some.injEq] at h; subst h; exact ⟨rfl, rfl⟩
 | nilFunc => simp only [ofConst1, Option.some.injEq] at h; subst h; exact ⟨rfl, rfl⟩
 | nilIface => simp only [ofConst1, Option.some.injEq] at h; subst h; exact ⟨rfl, rfl⟩
 | _ => simp [ofConst1] at h
theorem ofConsts_cvs (e : Env) : ∀ {l : List Value} {a : List AV}, ofConsts l = some a → cvs e a = some l ∧ a.all AV.isCell = true := by
 intro l
 induction l with
 | nil => intro a h; simp only [ofConsts, Option.some.injEq] at h; subst h; exact ⟨rfl, rfl⟩
 | cons v l ih =>
  intro a h;simp only [ofConsts] at h;cases hv : ofConst1 v with
  | none => rw [hv] at h; cases h
  | some x =>
   rw [hv] at h;cases hl : ofConsts l with
   | none => rw [hl] at h; cases h
   | some y =>
    rw [hl] at h; simp only [Option.some.injEq] at h; subst h;exact ⟨cvs_mk (ofConst1_cv e hv).1 (ih hl).1, by simp [(ofConst1_cv e hv).2]; simpa using (ih hl).2⟩
theorem ofConst_cv (e : Env) {v : Value} {a : AV} (h : ofConst v = some a) : cv e a = some v := by
 unfold ofConst at h
 split at h
 ·rename_i cs;cases hc : ofConsts cs.toList with
  | none => rw [hc] at h; cases h
  | some y => rw [hc] at h; simp only [Option.map_some, Option.some.injEq] at h; subst h; simp only [cv, (ofConsts_cvs e hc).1]
 ·simp only [Option.some.injEq] at h; subst h; rfl
 ·exact (ofConst1_cv e h).1
section types
variable {P : Program} {X : XP} {t : TypeId} {ti : TyI} (w : World)
theorem run_typeInfo' {i : TypeInfo} (h : P.info? t = some i) : (typeInfo t).run P w = .ok i w := by simp [typeInfo, h]
theorem run_sizeOf' (h : TyOk P t ti) : (sizeOf t).run P w = .ok ti.size w := by
 obtain ⟨i, hi, hs, _⟩ := h.info;simp [sizeOf, run_typeInfo' w hi, hs]
theorem run_bytesOf' (h : TyOk P t ti) : ∃ i, (typeInfo t).run P w = .ok i w ∧ i.bytes = ti.bytes := by
 obtain ⟨i, hi, _, hb, _⟩ := h.info;exact ⟨i, run_typeInfo' w hi, hb⟩
theorem run_zeroValue' (h : TyOk P t ti) (e : Env) : ∃ z, (zeroValue t).run P w = .ok z w ∧ cvs e ti.zero = some z.cells.toList ∧ ti.zero.all AV.isCell = true := by
 obtain ⟨i, hi, _, _, z, hz, hc⟩ := h.info;exact ⟨z, by simp [zeroValue, run_typeInfo' w hi, hz], (ofConsts_cvs e hc).1, (ofConsts_cvs e hc).2⟩
theorem run_isAgg' (h : TyOk P t ti) : (isAgg t).run P w = .ok ti.isAgg w := by
 obtain ⟨d, hd, hk⟩ := h.und;simp only [isAgg, Sem.run_bind, run_underlying hd, Result.andThen_ok];unfold TyI.isAgg;cases d <;> cases hti : ti.k <;> rw [hti] at hk <;> simp [TKok] at hk <;> simp
end types
theorem add_none (b o n : Nat) : (⟨b, o, none⟩ : Addr).add n = ⟨b, o + n, none⟩ := by unfold Addr.add; split <;> simp_all
theorem getCells_cv {NG : GP} {e : Env} {L : Loops} {H : AHeap} {nx : Nat} {w : World} (h : HR NG e L H.objs.get nx w) {b off n : Nat} {l : List AV} (hg : getCells H b off n = some l) :
 ∃ x xs, e.f b = some x ∧ cvs e l = some xs ∧ xs.length = n ∧ ∀ j v, xs[j]? = some v → w.cell? ⟨x.1, off + j, none⟩ = some v := by
 unfold getCells at hg;cases hb : H.objs.get b with
 | none => rw [hb] at hg; cases hg
 | some o =>
  rw [hb] at hg;cases o with
  | blk el ro sz cells =>
   simp only at hg;obtain ⟨x, hx, c, fz, h1, _, _, h4⟩ := h.live b _ hb;obtain ⟨hlen, hget⟩ := Tr.take_some hg;have key : ∀ (l : List AV) (k : Nat), (∀ i, i < l.length → cells.get (k + i) = l[i]?) → ∃ xs, cvs e l = some xs ∧ ∀ j v, xs[j]? = some v → c[k + j]? = some v := by
    intro l
    induction l with
    | nil => intro k _; exact ⟨[], rfl, by simp⟩
    | cons a l ih =>
     intro k hk;have h0 := hk 0 (by simp)
     simp only [Nat.add_zero, List.getElem?_cons_zero] at h0;obtain ⟨y, hy, hc⟩ := h4 _ _ h0
     obtain ⟨ys, hys, hr⟩ := ih (k + 1) (fun i hi => by
      have := hk (i + 1) (by simpa using hi)
      rw [show k + 1 + i = k + (i + 1) by omega, this]; simp)
     refine ⟨y :: ys, cvs_mk hy hys, fun j v hj => ?_⟩
     cases j with
     | zero => simp at hj; subst hj; exact hc
     | succ j => simp at hj; have := hr j v hj; rwa [show k + (j + 1) = k + 1 + j by omega]
   obtain ⟨xs, hxs, hr⟩ := key l off (fun i hi => hget i (by omega))
   refine ⟨x, xs, hx, hxs, by rw [cvs_length hxs, hlen], fun j v hj => ?_⟩
   simp only [World.cell?, h1];simpa using hr j v hj
  | _ => cases hg
theorem loadV_run {P : Program} {X : XP} (ok : XPok P X) {e : Env} {L : Loops} {H : AHeap} {nx : Nat} {NG : GP} {w : World} (h : HR NG e L H.objs.get nx w) {t b off : Nat} {v : AV}
 (hl : loadV X H t b off = some v) : ∃ x y, e.f b = some x ∧ cv e v = some y ∧ (loadVar t ⟨x.1, off, none⟩).run P w = .ok y w := by
 unfold loadV at hl;cases ht : X.tys.get t with
 | none => rw [ht] at hl; cases hl
 | some ti =>
  have hk := ok.tys t ti ht;rw [ht] at hl;simp only [brec] at hl;cases ha : ti.isAgg with
  | true =>
   rw [ha] at hl;simp only [cond_true] at hl;cases hg : getCells H b off ti.size with
   | none => rw [hg] at hl; cases hl
   | some l =>
    rw [hg] at hl; simp only [Option.some.injEq] at hl; subst hl;obtain ⟨x, xs, hx, hxs, hn, hc⟩ := getCells_cv h hg;refine ⟨x, .agg xs.toArray, hx, by simp only [cv, hxs], ?_⟩
    have hr := run_loadCells_list (P := P) w ⟨x.1, off, none⟩ xs (fun j v hj => by rw [add_none]; exact hc j v hj)
    rw [hn] at hr;simp only [loadVar, Sem.run_bind, run_isAgg' w hk, ha, Result.andThen_ok, if_true, run_sizeOf' w hk, hr, Sem.run_pure]
  | false =>
   rw [ha] at hl;simp only [cond_false] at hl;cases hg : getCells H b off 1 with
   | none => rw [hg] at hl; cases hl
   | some l =>
    rw [hg] at hl;cases l with
    | nil => cases hl
    | cons a l =>
     cases l with
     | cons a' l => cases hl
     | nil =>
      simp only [Option.some.injEq] at hl; subst hl;obtain ⟨x, xs, hx, hxs, hn, hc⟩ := getCells_cv h hg;obtain ⟨y, z, hy, hz, rfl⟩ := cvs_cons hxs;refine ⟨x, y, hx, hy, ?_⟩;have := hc 0 y (by simp)
      simp only [Nat.add_zero] at this;simp [loadVar, run_isAgg' w hk, ha, this]
theorem RC.val_one {c : RC} {v x : Value} (h : c.val v = some x) : x.oneCell' = true := by
 unfold RC.val at h
 split at h
 all_goals first
  | (cases h; done)
  | (split at h
     ·cases h; rfl
     ·cases h)
theorem isCell_one {e : Env} {v : AV} {x : Value} (hv : v.isCell = true) (h : cv e v = some x) : x.oneCell' = true := by
 cases v with
 | agg _ => cases hv
 | tup _ => cases hv
 | undef => cases hv
 | sym _ => cases hv
 | pan _ => cases hv
 | ptr b o => simp only [cv] at h; cases hb : e.f b <;> rw [hb] at h <;> simp at h; subst h; rfl
 | sl b o n c => simp only [cv] at h; cases hb : e.f b <;> rw [hb] at h <;> simp at h; subst h; rfl
 | yld b => simp only [cv] at h; cases hb : e.f b <;> rw [hb] at h <;> simp at h; subst h; rfl
 | mpr b => simp only [cv] at h; cases hb : e.f b <;> rw [hb] at h <;> simp at h; subst h; rfl
 | capOf b k => simp only [cv] at h; cases hb : e.f b <;> rw [hb] at h <;> simp at h; subst h; rfl
 | asl b i lo hi => obtain ⟨_, _, _, _, _, rfl, _⟩ := cv_asl h; rfl
 | eptr b k => obtain ⟨_, _, rfl⟩ := cv_eptr h; rfl
 | ifc t v => simp only [cv] at h; cases hb : cv e v <;> rw [hb] at h <;> simp at h; subst h; rfl
 | str s => simp only [cv] at h; split at h <;> simp at h; subst h; rfl
 | fn f a b =>
  simp only [cv] at h;cases ha : cvs e a <;> cases hb : cvs e b <;> rw [ha, hb] at h <;> simp at h; subst h; rfl
 | res i c => exact RC.val_one (show c.val (e.sy i) = some x from h)
 | _ => simp only [cv, Option.some.injEq] at h; subst h; rfl
theorem isCells_one {e : Env} : ∀ {vs : List AV} {xs : List Value}, vs.all AV.isCell = true → cvs e vs = some xs → ∀ x ∈ xs, x.oneCell' = true := by
 intro vs
 induction vs with
 | nil => intro xs _ h; simp only [cvs, Option.some.injEq] at h; subst h; simp
 | cons v vs ih =>
  intro xs hv h x hx;obtain ⟨y, z, hy, hz, rfl⟩ := cvs_cons h;simp only [List.all_cons, Bool.and_eq_true] at hv;rcases List.mem_cons.1 hx with rfl | hx
  ·exact isCell_one hv.1 hy
  ·exact ih hv.2 hz x hx
def putArr (c : Array Value) (o : Nat) : List Value → Array Value
 | [] => c
 | v :: vs => putArr (c.setIfInBounds o v) (o + 1) vs
theorem size_putArr (vs : List Value) : ∀ (c : Array Value) (o : Nat), (putArr c o vs).size = c.size := by
 induction vs with
 | nil => intro c o; rfl
 | cons v vs ih => intro c o; simp only [putArr]; rw [ih]; simp
theorem get_putArr (vs : List Value) : ∀ (c : Array Value) (o i : Nat), o + vs.length ≤ c.size → (putArr c o vs)[i]? = if o ≤ i ∧ i < o + vs.length then vs[i - o]? else c[i]? := by
 induction vs with
 | nil => intro c o i _; rw [if_neg (by simp)]; rfl
 | cons v vs ih =>
  intro c o i h;simp only [List.length_cons] at h;simp only [putArr];rw [ih _ _ _ (by simp; omega)]
  by_cases h1 : o + 1 ≤ i ∧ i < o + 1 + vs.length
  ·rw [if_pos h1, if_pos (by simp; omega)]
   have : i - o = (i - (o + 1)) + 1 := by omega
   rw [this, List.getElem?_cons_succ]
  ·rw [if_neg h1]
   by_cases e1 : i = o
   ·subst e1;rw [if_pos (by simp), Array.getElem?_setIfInBounds, if_pos rfl, if_pos (by omega)]; simp
   ·rw [if_neg (by simp; omega), Array.getElem?_setIfInBounds_ne (fun h => e1 h.symm)]
theorem setCells_heap (b : Nat) (el : TypeId) (fz : Nat × Nat) : ∀ (vs : List Value) (o : Nat) (w : World) (c : Array Value), w.heap[b]? = some (.cells c el fz) →
 (w.setCells b o vs).heap[b]? = some (.cells (putArr c o vs) el fz) ∧ (∀ B, B ≠ b → (w.setCells b o vs).heap[B]? = w.heap[B]?) ∧ (w.setCells b o vs).heap.size = w.heap.size ∧
 (w.setCells b o vs).os = w.os ∧ (w.setCells b o vs).tape = w.tape ∧ (w.setCells b o vs).output = w.output := by
 intro vs
 induction vs with
 | nil => intro o w c h; exact ⟨h, fun _ _ => rfl, rfl, rfl, rfl, rfl⟩
 | cons v vs ih =>
  intro o w c h;have h1 : (w.setCell ⟨b, o, none⟩ v).heap[b]? = some (.cells (c.setIfInBounds o v) el fz) := by
   simp only [World.setCell, Array.getElem?_modify, if_true, h]; simp
  obtain ⟨g1, g2, g3, g4, g5, g6⟩ := ih (o + 1) _ _ h1;refine ⟨g1, fun B hB => ?_, by rw [World.setCells, g3]; simp, g4, g5, g6⟩
  rw [World.setCells, g2 B hB];simp only [World.setCell, Array.getElem?_modify];rw [if_neg (fun h => hB h.symm)]
theorem SzOk.least {κ n : Nat} {sz : Sz} (h : SzOk κ n sz) : sz.least ≤ n := by
 cases sz with
 | fix m => simp only [SzOk] at h; simp only [Sz.least]; omega
 | opn lo hi es => obtain ⟨h1, h2, _⟩ := h; simp only [Sz.least]; rw [h1]; exact Nat.mul_le_mul_left _ h2
theorem frozen_not {w : World} {a : Addr} {c : Array Value} {el : TypeId} {fz : Nat × Nat} (h1 : w.heap[a.block]? = some (.cells c el fz)) {sz : Sz} (h2 : FzOk fz c.size sz) (h3 : a.off < c.size) : w.frozen? a = false := by
 obtain ⟨lo, hi⟩ := fz;simp only [World.frozen?, h1];rcases h2 with h | ⟨h, _⟩
 ·cases h; simp
 ·simp only [Bool.and_eq_false_imp, decide_eq_true_eq, decide_eq_false_iff_not];intro h4; simp only at h; omega
theorem putCells_run {P : Program} {NG : GP} {e : Env} {L : Loops} {H H' : AHeap} {nx : Nat} {w : World} (h : HR NG e L H.objs.get nx w) {b off : Nat} {vs : List AV} {xs : List Value}
 (hp : putCells H b off vs = some H') (hxs : cvs e vs = some xs) :
 ∃ x w', e.f b = some x ∧ (storeCells ⟨x.1, off, none⟩ xs).run P w = .ok () w' ∧ HR NG e L H'.objs.get nx w' ∧ Tran e H.objs.get nx w e H'.objs.get nx w' ∧ H'.next = H.next := by
 unfold putCells at hp
 split at hp
 ·rename_i el sz cells hb;simp only [brec] at hp;cases hc : (Nat.ble (off + vs.length) sz.least && vs.all AV.isCell) with
  | false => rw [hc] at hp; cases hp
  | true =>
   rw [hc] at hp;simp only [cond_true, Option.some.injEq] at hp;simp only [Bool.and_eq_true] at hc;have hle := nble_of hc.1;obtain ⟨x, hx, c, fz, h1, h2, h3, h4⟩ := h.live b _ hb;have hlen := cvs_length hxs;have hin : off + xs.length ≤ c.size := by rw [hlen]; exact Nat.le_trans hle h3.least
   have hrun := run_storeCells_cells (P := P) x.1 off xs 0 w
    (fun j hj => by simp only [World.cell?, h1, Nat.add_zero]; simp; omega)
    (fun j hj => frozen_not h1 (h2 rfl) (by show off + 0 + j < _; omega))
    (isCells_one hc.2 hxs)
   simp only [Nat.add_zero] at hrun;obtain ⟨g1, g2, g3, g4, g5, g6⟩ := setCells_heap x.1 el fz xs off w c h1;have ho : ObjR e L b x (w.setCells x.1 off xs) (.blk el false sz (cells.put off vs)) := by
    refine ⟨putArr c off xs, fz, g1, by rw [size_putArr]; exact h2, by rw [size_putArr]; exact h3, fun i v hv => ?_⟩
    rw [Tr.get_put] at hv;rw [get_putArr _ _ _ _ hin]
    by_cases hi : off ≤ i ∧ i < off + vs.length
    ·rw [if_pos hi] at hv;rw [if_pos (by omega)]
     exact cvs_get hxs _ _ hv
    ·rw [if_neg hi] at hv;rw [if_neg (by omega)]
     exact h4 i v hv
   subst hp;refine ⟨x, _, hx, hrun, ?_, ?_, rfl⟩
   ·show HR NG e L (H.objs.set b _).get nx _;rw [get_set_upd];exact h.upd hb hx rfl g2 ho
   ·show Tran e H.objs.get nx w e (H.objs.set b _).get nx _;rw [get_set_upd];exact Tran.upd hb hx rfl rfl g2 g3 g4 g5 g6
 ·cases hp
end
end Go.X

/- Numbers and strings: the executor's arithmetic is the model's. -/
namespace Go.X
noncomputable section
theorem kEq_of {a b : IntKind} (h : kEq a b = true) : a = b := by cases a <;> cases b <;> simp [kEq] at h <;> rfl
theorem iEq_eq (a b : Int) : iEq a b = (a == b) := by
 by_cases h : a = b
 ·subst h;rw [beq_self_eq_true];cases a <;> simp only [iEq] <;> exact nbeq_t rfl
 ·rw [beq_eq_false_iff_ne.2 h];cases a <;> cases b <;> simp only [iEq] <;> exact nbeq_f (fun e => h (by rw [e]))
theorem nblt_eq (a b : Nat) : Nat.blt a b = decide (a < b) := by
 by_cases h : a < b
 ·rw [decide_eq_true h, Nat.blt_eq]; exact h
 ·rw [decide_eq_false h]; cases hb : Nat.blt a b with
  | false => rfl
  | true => exact absurd (nblt_of hb) h
theorem iLt_eq (a b : Int) : iLt a b = decide (a < b) := by
 cases a with
 | ofNat a => cases b with
  | ofNat b => simp only [iLt, nblt_eq]; congr 1; simp
  | negSucc b => simp only [iLt]; symm; simp; omega
 | negSucc a => cases b with
  | ofNat b => simp only [iLt]; symm; simp; omega
  | negSucc b => simp only [iLt, nblt_eq]; congr 1; simp; omega
theorem iLe_eq (a b : Int) : iLe a b = decide (a ≤ b) := by
 simp only [iLe, iLt_eq]
 by_cases h : a ≤ b
 ·simp [h]
 ·simp [h]; omega
theorem nmod (a b : Nat) : Nat.mod a b = a % b := rfl
theorem nsub (a b : Nat) : Nat.sub a b = a - b := rfl
theorem nmul (a b : Nat) : Nat.mul a b = a * b := rfl
theorem ndiv (a b : Nat) : Nat.div a b = a / b := rfl
theorem npow (a b : Nat) : Nat.pow a b = a ^ b := rfl
theorem wrap_def (k : IntKind) (n : Int) : k.wrap n = if (kTop k : Int) ≤ n % (kAll k : Int) then n % (kAll k : Int) - (kAll k : Int) else n % (kAll k : Int) := by
 cases k <;> simp [IntKind.wrap, IntKind.bits, IntKind.signed, kTop, kAll] <;> omega
theorem wrapN_eq (k : IntKind) (m : Nat) (h : m < kAll k) : wrapN k m = k.wrap m := by
 rw [wrap_def];simp only [wrapN, brec, nblt_eq, nsub, Nat.pred_eq_sub_one]
 by_cases hh : m < kTop k
 ·rw [decide_eq_true hh, cond_true];cases k <;> simp only [kAll, kTop] at h hh ⊢ <;> simp <;> omega
 ·rw [decide_eq_false hh, cond_false];cases k <;> simp only [kAll, kTop] at h hh ⊢ <;> simp <;> omega
theorem fwrap_eq (k : IntKind) (n : Int) : fwrap k n = k.wrap n := by
 have hk : 0 < kAll k := by cases k <;> simp [kAll]
 have hw : ∀ a b : Int, a % (kAll k : Int) = b % (kAll k : Int) → k.wrap a = k.wrap b := by
  intro a b h;rw [wrap_def, wrap_def, h]
 cases n with
 | ofNat m =>
  simp only [fwrap, brec, nblt_eq, nmod]
  by_cases h : m < kTop k
  ·rw [decide_eq_true h];have : m < kAll k := by cases k <;> simp only [kAll, kTop] at h ⊢ <;> omega
   have h2 := wrapN_eq k m this;simp only [wrapN, nblt_eq, decide_eq_true h] at h2;simpa using h2
  ·rw [decide_eq_false h];simp only [cond_false];rw [wrapN_eq k _ (Nat.mod_lt _ hk)];apply hw; simp
 | negSucc m =>
  simp only [fwrap, nmod, nsub, Nat.pred_eq_sub_one];rw [wrapN_eq k _ (by omega)]
  apply hw;cases k <;> simp only [kAll] <;> omega
theorem natOf_eq (k : IntKind) (n : Int) : natOf k n = (BitVec.ofInt k.bits n).toNat ∧ natOf k n < kAll k ∧ kAll k = 2 ^ k.bits := by
 have hk : 0 < kAll k := by cases k <;> simp [kAll]
 have h2 : kAll k = 2 ^ k.bits := by cases k <;> simp [kAll, IntKind.bits]
 have hb : (BitVec.ofInt k.bits n).toNat = (n % ((kAll k : Nat) : Int)).toNat := by rw [BitVec.toNat_ofInt, h2]
 have h1 : natOf k n = (n % ((kAll k : Nat) : Int)).toNat := by
  cases n with
  | ofNat m => simp only [natOf, nmod]; simp; omega
  | negSucc m => simp only [natOf, nmod, nsub, Nat.pred_eq_sub_one]; cases k <;> simp only [kAll] <;> omega
 refine ⟨by rw [h1, hb], ?_, h2⟩
 rw [h1];have := Int.emod_lt_of_pos n (show (0 : Int) < (kAll k : Int) by omega)
 omega
theorem iAdd_eq (a b : Int) : iAdd a b = a + b := by cases a <;> cases b <;> rfl
theorem iSub_eq (a b : Int) : iSub a b = a - b := by
 cases a with
 | ofNat a => cases b with
  | ofNat b =>
   simp only [iSub, brec, nsub, Nat.pred_eq_sub_one];cases h : Nat.ble b a with
   | true => have := nble_of h; simp; omega
   | false =>
    have : ¬ b ≤ a := fun hh => by rw [Nat.ble_eq_true_of_le hh] at h; cases h
    simp; omega
  | negSucc b => rfl
 | negSucc a => cases b <;> rfl
theorem intBin_run {P : Program} (w : World) {op : BinOp} {k : IntKind} {a b : Int} {v : AV} (h : intBin op k a b = some v) (t : TypeId) (hs : op ≠ .shl ∧ op ≠ .shr) (e : Env) :
 ∃ y, cv e v = some y ∧ (binOp op t (.int k a) (.int k b)).run P w = .ok y w := by
 have hna := natOf_eq k a;have hnb := natOf_eq k b;cases op with
 | shl => exact absurd rfl hs.1
 | shr => exact absurd rfl hs.2
 | add => simp only [intBin, Option.some.injEq] at h; subst h; exact ⟨_, rfl, by simp [binOp, Op.intArith, fwrap_eq, iAdd_eq]⟩
 | sub => simp only [intBin, Option.some.injEq] at h; subst h; exact ⟨_, rfl, by simp [binOp, Op.intArith, fwrap_eq, iSub_eq]⟩
 | mul => simp only [intBin, Option.some.injEq] at h; subst h; exact ⟨_, rfl, by simp [binOp, Op.intArith, fwrap_eq]⟩
 | quo =>
  simp only [intBin, brec, iEq_eq] at h
  by_cases hb : b = 0
  ·rw [beq_iff_eq.2 hb] at h; cases h
  ·rw [beq_eq_false_iff_ne.2 hb] at h;simp only [cond_false, Option.some.injEq] at h; subst h;exact ⟨_, rfl, by simp [binOp, Op.intDiv, fwrap_eq, hb]⟩
 | rem =>
  simp only [intBin, brec, iEq_eq] at h
  by_cases hb : b = 0
  ·rw [beq_iff_eq.2 hb] at h; cases h
  ·rw [beq_eq_false_iff_ne.2 hb] at h;simp only [cond_false, Option.some.injEq] at h; subst h;exact ⟨_, rfl, by simp [binOp, Op.intDiv, hb]⟩
 | and =>
  simp only [intBin, Option.some.injEq] at h; subst h;refine ⟨_, rfl, ?_⟩;have : Nat.land (natOf k a) (natOf k b) < kAll k := Nat.lt_of_le_of_lt Nat.and_le_left hna.2.1;rw [wrapN_eq k _ this];simp only [binOp, Op.intBits, ne_eq, not_true_eq_false, if_false, Sem.run_pure, BitVec.toNat_and, hna.1, hnb.1]; rfl
 | or =>
  simp only [intBin, Option.some.injEq] at h; subst h;refine ⟨_, rfl, ?_⟩;have : Nat.lor (natOf k a) (natOf k b) < kAll k := by
   have h1 := hna.2.1; have h2 := hnb.2.1; rw [hna.2.2] at h1 h2 ⊢; exact Nat.or_lt_two_pow h1 h2
  rw [wrapN_eq k _ this];simp only [binOp, Op.intBits, ne_eq, not_true_eq_false, if_false, Sem.run_pure, BitVec.toNat_or, hna.1, hnb.1]; rfl
 | xor =>
  simp only [intBin, Option.some.injEq] at h; subst h;refine ⟨_, rfl, ?_⟩;have : Nat.xor (natOf k a) (natOf k b) < kAll k := by
   have h1 := hna.2.1; have h2 := hnb.2.1; rw [hna.2.2] at h1 h2 ⊢; exact Nat.xor_lt_two_pow h1 h2
  rw [wrapN_eq k _ this];simp only [binOp, Op.intBits, ne_eq, not_true_eq_false, if_false, Sem.run_pure, BitVec.toNat_xor, hna.1, hnb.1]; rfl
 | andNot =>
  simp only [intBin, Option.some.injEq] at h; subst h;refine ⟨_, rfl, ?_⟩;have : Nat.land (natOf k a) (Nat.sub (Nat.pred (kAll k)) (natOf k b)) < kAll k := Nat.lt_of_le_of_lt Nat.and_le_left hna.2.1;rw [wrapN_eq k _ this];simp only [binOp, Op.intBits, ne_eq, not_true_eq_false, if_false, Sem.run_pure, BitVec.toNat_and, BitVec.toNat_not, hna.1, hnb.1, hna.2.2, nsub, Nat.pred_eq_sub_one]; rfl
 | eql => simp only [intBin, Option.some.injEq] at h; subst h; exact ⟨_, rfl, by simp [binOp, Op.intCmp, iEq_eq]⟩
 | neq => simp only [intBin, Option.some.injEq] at h; subst h; exact ⟨_, rfl, by simp [binOp, Op.intCmp, iEq_eq]; rfl⟩
 | lss => simp only [intBin, Option.some.injEq] at h; subst h; exact ⟨_, rfl, by simp [binOp, Op.intCmp, iLt_eq]⟩
 | leq => simp only [intBin, Option.some.injEq] at h; subst h; exact ⟨_, rfl, by simp [binOp, Op.intCmp, iLe_eq]⟩
 | gtr => simp only [intBin, Option.some.injEq] at h; subst h; exact ⟨_, rfl, by simp [binOp, Op.intCmp, iLt_eq]⟩
 | geq => simp only [intBin, Option.some.injEq] at h; subst h; exact ⟨_, rfl, by simp [binOp, Op.intCmp, iLe_eq]⟩
theorem leastN_eq (a b : Nat) : leastN a b = min a b := by
 simp only [leastN, brec];cases h : Nat.ble a b with
 | true => have := nble_of h; simp; omega
 | false =>
  have : ¬ a ≤ b := fun hh => by rw [Nat.ble_eq_true_of_le hh] at h; cases h
  simp; omega
theorem kBits_eq (k : IntKind) : kBits k = k.bits := by cases k <;> rfl
theorem shiftA_run {P : Program} (w : World) {op : BinOp} {k k' : IntKind} {a b : Int} {v : AV} (h : shiftA op k a b = some v) (hs : op = .shl ∨ op = .shr) (t : TypeId) (e : Env) :
 ∃ y, cv e v = some y ∧ (binOp op t (.int k a) (.int k' b)).run P w = .ok y w := by
 cases b with
 | negSucc b => simp [shiftA] at h
 | ofNat b =>
  have hneg : ¬ (Int.ofNat b < 0) := by simp
  rcases hs with rfl | rfl
  ·simp only [shiftA, leastN_eq, kBits_eq] at h;have hv : v = .int k (k.wrap (a * 2 ^ min b k.bits)) := by
    cases a with
    | ofNat m => simp only [shlA, Option.some.injEq, nmul, npow, fwrap_eq] at h; rw [← h]; congr 2
    | negSucc m => simp only [shlA, Option.some.injEq, npow, fwrap_eq] at h; rw [← h]; congr 2
   subst hv;refine ⟨_, rfl, ?_⟩;simp only [binOp, Op.shift, hneg, if_false]; simp
  ·simp only [shiftA, leastN_eq, kBits_eq] at h;have hv : v = .int k (a.fdiv (2 ^ min b k.bits)) := by
    cases a with
    | ofNat m =>
     simp only [shrA, Option.some.injEq, ndiv, npow] at h; rw [← h]; congr 1;have := Int.ofNat_fdiv m (2 ^ min b k.bits);simpa using this
    | negSucc m => simp only [shrA, Option.some.injEq, npow] at h; rw [← h]; congr 2
   subst hv;refine ⟨_, rfl, ?_⟩;simp only [binOp, Op.shift, hneg, if_false]; simp
theorem binInt_run {P : Program} (w : World) {op : BinOp} {k k' : IntKind} {a b : Int} {v : AV} (h : binInt op k k' a b = some v) (t : TypeId) (e : Env) :
 ∃ y, cv e v = some y ∧ (binOp op t (.int k a) (.int k' b)).run P w = .ok y w := by
 by_cases h1 : op = .shl
 ·subst h1; exact shiftA_run w (show shiftA .shl k a b = some v from h) (.inl rfl) t e
 ·by_cases h2 : op = .shr
  ·subst h2; exact shiftA_run w (show shiftA .shr k a b = some v from h) (.inr rfl) t e
  ·have : (@Bool.rec (fun _ => Option AV) none (intBin op k a b) (kEq k k')) = some v := by
    rw [← h]; cases op <;> first | rfl | exact absurd rfl h1 | exact absurd rfl h2
   rw [brec] at this;cases hk : kEq k k' with
   | false => rw [hk] at this; cases this
   | true =>
    rw [hk] at this;obtain rfl := kEq_of hk;exact intBin_run w this t ⟨h1, h2⟩ e
end
end Go.X
