/- Tries; what an abstract value stands for; what an abstract heap says of a world. -/
import Derived.Test.YtnmkiflnonafbaaGreatDoorE1
import Derived.Below
import Derived.Laws.IdiomCopy
import Derived.Laws.Cells
set_option linter.unusedVariables false
set_option linter.unusedSimpArgs false
namespace Go.X
theorem Zaw {α : Type} (a b : α) (c : Bool) : @Bool.rec (fun _ => α) a b c = cond c b a := by cases c <;> rfl
theorem ZbK {a b : Nat} (h : a = b) : Nat.beq a b = true := by rw [Nat.beq_eq]; exact h
theorem Zbx {a b : Nat} (h : a ≠ b) : Nat.beq a b = false := by
 cases hb : Nat.beq a b with
 | false => rfl
 | true => exact absurd (Nat.eq_of_beq_eq_true hb) h
theorem Zab {a b : Nat} (h : Nat.beq a b = true) : a = b := Nat.eq_of_beq_eq_true h
theorem ZaF {a b : Nat} (h : Nat.blt a b = true) : a < b := by simpa [Nat.blt_eq] using h
theorem Zak {a b : Nat} (h : Nat.ble a b = true) : a ≤ b := Nat.le_of_ble_eq_true h
section tries
variable {α : Type}
@[simp] theorem Tr.get_nil (n : Nat) : (Tr.nil : Tr α).get n = none := rfl
theorem Tr.get_node (v : Option α) (l r : Tr α) (n : Nat) :
 (Tr.node v l r).get n = if n = 0 then v else if n % 2 = 1 then l.get (n / 2) else r.get (n / 2 - 1) := by
 show @Bool.rec _ _ _ _ = _;rw [Zaw, Zaw]
 by_cases h0 : n = 0
 ·subst h0; rfl
 ·have : Nat.beq n 0 = false := Zbx h0;rw [this, if_neg h0]
  by_cases h1 : n % 2 = 1
  ·have : Nat.beq (Nat.mod n 2) 1 = true := ZbK h1;rw [this, if_pos h1]; rfl
  ·have : Nat.beq (Nat.mod n 2) 1 = false := Zbx h1;rw [this, if_neg h1]; rfl
theorem Tr.sing_zero (x : Option α) (n : Nat) : Tr.sing x 0 n = .node x .nil .nil := rfl
theorem Tr.sing_succ (x : Option α) (f n : Nat) :
 Tr.sing x (f + 1) n = if n = 0 then .node x .nil .nil else if n % 2 = 1 then .node none (Tr.sing x f (n / 2)) .nil else .node none .nil (Tr.sing x f (n / 2 - 1)) := by
 show @Bool.rec _ _ _ _ = _;rw [Zaw, Zaw]
 by_cases h0 : n = 0
 ·subst h0; rfl
 ·have : Nat.beq n 0 = false := Zbx h0;rw [this, if_neg h0]
  by_cases h1 : n % 2 = 1
  ·have : Nat.beq (Nat.mod n 2) 1 = true := ZbK h1;rw [this, if_pos h1]; rfl
  ·have : Nat.beq (Nat.mod n 2) 1 = false := Zbx h1;rw [this, if_neg h1]; rfl
theorem Tr.get_sing (x : Option α) : ∀ (f n m : Nat), n ≤ f → (Tr.sing x f n).get m = if m = n then x else none := by
 intro f
 induction f with
 | zero =>
  intro n m h;obtain rfl : n = 0 := by omega
  rw [Tr.sing_zero, Tr.get_node];simp
 | succ f ih =>
  intro n m h;rw [Tr.sing_succ]
  by_cases h0 : n = 0
  ·subst h0; rw [if_pos rfl, Tr.get_node]; simp
  ·rw [if_neg h0]
   by_cases h1 : n % 2 = 1
   ·rw [if_pos h1, Tr.get_node]
    by_cases m0 : m = 0
    ·subst m0; rw [if_pos rfl, if_neg (by omega)]
    ·rw [if_neg m0]
     by_cases m1 : m % 2 = 1
     ·rw [if_pos m1, ih _ _ (by omega)]
      by_cases e : m = n
      ·subst e; simp
      ·rw [if_neg e, if_neg (by omega)]
     ·rw [if_neg m1, if_neg (by omega)]; rfl
   ·rw [if_neg h1, Tr.get_node]
    by_cases m0 : m = 0
    ·subst m0; rw [if_pos rfl, if_neg (by omega)]
    ·rw [if_neg m0]
     by_cases m1 : m % 2 = 1
     ·rw [if_pos m1, if_neg (by omega)]; rfl
     ·rw [if_neg m1, ih _ _ (by omega)]
      by_cases e : m = n
      ·subst e; simp
      ·rw [if_neg e, if_neg (by omega)]
theorem Tr.set_nil (n : Nat) (x : Option α) : (Tr.nil : Tr α).set n x = Tr.sing x n n := rfl
theorem Tr.set_node (v : Option α) (l r : Tr α) (n : Nat) (x : Option α) :
 (Tr.node v l r).set n x = if n = 0 then .node x l r else if n % 2 = 1 then .node v (l.set (n / 2) x) r else .node v l (r.set (n / 2 - 1) x) := by
 show @Bool.rec _ _ _ _ = _;rw [Zaw, Zaw]
 by_cases h0 : n = 0
 ·subst h0; rfl
 ·have : Nat.beq n 0 = false := Zbx h0;rw [this, if_neg h0]
  by_cases h1 : n % 2 = 1
  ·have : Nat.beq (Nat.mod n 2) 1 = true := ZbK h1;rw [this, if_pos h1]; rfl
  ·have : Nat.beq (Nat.mod n 2) 1 = false := Zbx h1;rw [this, if_neg h1]; rfl
theorem Tr.get_set (t : Tr α) (n m : Nat) (x : Option α) : (t.set n x).get m = if m = n then x else t.get m := by
 induction t generalizing n m with
 | nil => rw [Tr.set_nil, Tr.get_sing _ _ _ _ (Nat.le_refl _)]; rfl
 | node v l r ihl ihr =>
  rw [Tr.set_node]
  by_cases h0 : n = 0
  ·subst h0;rw [if_pos rfl, Tr.get_node, Tr.get_node]
   by_cases m0 : m = 0
   ·simp [m0]
   ·simp [m0]
  ·rw [if_neg h0]
   by_cases h1 : n % 2 = 1
   ·rw [if_pos h1, Tr.get_node, Tr.get_node]
    by_cases m0 : m = 0
    ·subst m0; rw [if_pos rfl, if_pos rfl, if_neg (by omega)]
    ·rw [if_neg m0, if_neg m0]
     by_cases m1 : m % 2 = 1
     ·rw [if_pos m1, if_pos m1, ihl]
      by_cases e : m = n
      ·subst e; simp
      ·rw [if_neg e, if_neg (by omega)]
     ·rw [if_neg m1, if_neg m1, if_neg (by omega)]
   ·rw [if_neg h1, Tr.get_node, Tr.get_node]
    by_cases m0 : m = 0
    ·subst m0; rw [if_pos rfl, if_pos rfl, if_neg (by omega)]
    ·rw [if_neg m0, if_neg m0]
     by_cases m1 : m % 2 = 1
     ·rw [if_pos m1, if_pos m1, if_neg (by omega)]
     ·rw [if_neg m1, if_neg m1, ihr]
      by_cases e : m = n
      ·subst e; simp
      ·rw [if_neg e, if_neg (by omega)]
theorem Tr.get_put (t : Tr α) (xs : List α) : ∀ (n m : Nat), (t.put n xs).get m = if n ≤ m ∧ m < n + xs.length then xs[m - n]? else t.get m := by
 induction xs generalizing t with
 | nil => intro n m; rw [if_neg (by simp)]; rfl
 | cons x xs ih =>
  intro n m;show ((t.set n (some x)).put (n + 1) xs).get m = _;rw [ih, Tr.get_set];simp only [List.length_cons]
  by_cases h : n + 1 ≤ m ∧ m < n + 1 + xs.length
  ·rw [if_pos h, if_pos (by omega)]
   have : m - n = (m - (n + 1)) + 1 := by omega
   rw [this, List.getElem?_cons_succ]
  ·rw [if_neg h]
   by_cases e : m = n
   ·subst e; rw [if_pos rfl, if_pos (by omega)]; simp
   ·rw [if_neg e, if_neg (by omega)]
theorem Tr.take_some {t : Tr α} : ∀ {k n : Nat} {l : List α}, t.take n k = some l → l.length = k ∧ ∀ i, i < k → t.get (n + i) = l[i]? := by
 intro k
 induction k with
 | zero => intro n l h; simp only [Tr.take, Option.some.injEq] at h; subst h; simp
 | succ k ih =>
  intro n l h;simp only [Tr.take] at h;cases hx : t.get n with
  | none => rw [hx] at h; cases h
  | some x =>
   rw [hx] at h;cases hr : t.take (n + 1) k with
   | none => rw [hr] at h; cases h
   | some r =>
    rw [hr] at h;simp only [Option.some.injEq] at h;subst h;obtain ⟨hl, hg⟩ := ih hr;refine ⟨by simp [hl], fun i hi => ?_⟩
    cases i with
    | zero => simpa using hx
    | succ i =>
     have := hg i (by omega)
     rw [show n + (i + 1) = n + 1 + i by omega, this]; simp
end tries
structure Env where
 f : Nat → Option (Nat × Nat)
 sy : Nat → Value
def Env.ty (e : Env) (B : Nat) : TypeId := match e.sy (2 * B + 1) with | .int _ n => n.toNat | _ => 0
def Env.elR (e : Env) (B : Nat) : Bool → TypeId → TypeId
 | true, _ => e.ty B
 | false, el => el
def Cap.val (κ : Nat) : Cap → Nat
 | .fix n => n
 | .opn k => κ - k
def bytesOf (l : List Nat) : ByteArray := ⟨(l.map UInt8.ofNat).toArray⟩
mutual
def cv (e : Env) : AV → Option Value
 | .undef => some Go.undef
 | .bool b => some (.bool b)
 | .int k n => some (.int k n)
 | .str s => if s.all (fun b => Nat.blt b 256) = true then some (.string (bytesOf s)) else none
 | .nilp => some (.pointer none)
 | .nils => some (.slice none 0 0)
 | .nilm => some (.map none)
 | .nilf => some .nilFunc
 | .nili => some .nilIface
 | .ptr b o => match e.f b with
  | some x => some (.pointer (some ⟨x.1, o, none⟩))
  | none => none
 | .sl b o n c => match e.f b with
  | some x => some (.slice (some ⟨x.1, o, none⟩) n (c.val x.2))
  | none => none
 | .fn f a b => match cvs e a, cvs e b with
  | some x, some y => some (.func (.func f) x.toArray y.toArray)
  | _, _ => none
 | .yld l => match e.f l with
  | some x => some (.func (.yield x.1) #[] #[])
  | none => none
 | .ifc t v => match cv e v with
  | some x => some (.iface t x)
  | none => none
 | .agg vs => match cvs e vs with
  | some x => some (.agg x.toArray)
  | none => none
 | .tup vs => match cvs e vs with
  | some x => some (.tuple x.toArray)
  | none => none
 | .capOf b k => match e.f b with
  | some x => some (.int .i64 ((x.2 - k : Nat) : Int))
  | none => none
 | .sym i => some (e.sy i)
def cvs (e : Env) : List AV → Option (List Value)
 | [] => some []
 | v :: vs => match cv e v, cvs e vs with
  | some x, some y => some (x :: y)
  | _, _ => none
end
def Env.le (e e' : Env) : Prop := (∀ b x, e.f b = some x → e'.f b = some x) ∧ e'.sy = e.sy
theorem Env.le_refl (e : Env) : e.le e := ⟨fun _ _ h => h, rfl⟩
theorem Env.le_trans {a b c : Env} (h : a.le b) (k : b.le c) : a.le c := ⟨fun _ _ hx => k.1 _ _ (h.1 _ _ hx), k.2.trans h.2⟩
mutual
theorem ZjX {e e' : Env} (h : e.le e') : ∀ (v : AV) (x : Value), cv e v = some x → cv e' v = some x
 | .undef, _, hx => by simpa [cv] using hx
 | .bool _, _, hx => by simpa [cv] using hx
 | .int _ _, _, hx => by simpa [cv] using hx
 | .str _, _, hx => by simpa [cv] using hx
 | .nilp, _, hx => by simpa [cv] using hx
 | .nils, _, hx => by simpa [cv] using hx
 | .nilm, _, hx => by simpa [cv] using hx
 | .nilf, _, hx => by simpa [cv] using hx
 | .nili, _, hx => by simpa [cv] using hx
 | .ptr b o, x, hx => by
  simp only [cv] at hx ⊢;cases hb : e.f b with
  | none => rw [hb] at hx; cases hx
  | some y => rw [hb] at hx; rw [h.1 _ _ hb]; exact hx
 | .sl b o n c, x, hx => by
  simp only [cv] at hx ⊢;cases hb : e.f b with
  | none => rw [hb] at hx; cases hx
  | some y => rw [hb] at hx; rw [h.1 _ _ hb]; exact hx
 | .fn f a b, x, hx => by
  simp only [cv] at hx ⊢;cases ha : cvs e a with
  | none => rw [ha] at hx; cases hx
  | some y =>
   cases hb : cvs e b with
   | none => rw [ha, hb] at hx; cases hx
   | some z => rw [ha, hb] at hx; rw [ZbL h a y ha, ZbL h b z hb]; exact hx
 | .yld b, x, hx => by
  simp only [cv] at hx ⊢;cases hb : e.f b with
  | none => rw [hb] at hx; cases hx
  | some y => rw [hb] at hx; rw [h.1 _ _ hb]; exact hx
 | .ifc t v, x, hx => by
  simp only [cv] at hx ⊢;cases hv : cv e v with
  | none => rw [hv] at hx; cases hx
  | some y => rw [hv] at hx; rw [ZjX h v y hv]; exact hx
 | .agg vs, x, hx => by
  simp only [cv] at hx ⊢;cases hv : cvs e vs with
  | none => rw [hv] at hx; cases hx
  | some y => rw [hv] at hx; rw [ZbL h vs y hv]; exact hx
 | .tup vs, x, hx => by
  simp only [cv] at hx ⊢;cases hv : cvs e vs with
  | none => rw [hv] at hx; cases hx
  | some y => rw [hv] at hx; rw [ZbL h vs y hv]; exact hx
 | .capOf b k, x, hx => by
  simp only [cv] at hx ⊢;cases hb : e.f b with
  | none => rw [hb] at hx; cases hx
  | some y => rw [hb] at hx; rw [h.1 _ _ hb]; exact hx
 | .sym i, x, hx => by
  simp only [cv] at hx ⊢; rw [h.2]; exact hx
theorem ZbL {e e' : Env} (h : e.le e') : ∀ (vs : List AV) (xs : List Value), cvs e vs = some xs → cvs e' vs = some xs
 | [], _, hx => by simpa [cvs] using hx
 | v :: vs, x, hx => by
  simp only [cvs] at hx ⊢;cases hv : cv e v with
  | none => rw [hv] at hx; cases hx
  | some y =>
   cases hw : cvs e vs with
   | none => rw [hv, hw] at hx; cases hx
   | some z => rw [hv, hw] at hx; rw [ZjX h v y hv, ZbL h vs z hw]; exact hx
end
theorem Zap {e : Env} {v : AV} {vs : List AV} {x : List Value} (h : cvs e (v :: vs) = some x) : ∃ y z, cv e v = some y ∧ cvs e vs = some z ∧ x = y :: z := by
 simp only [cvs] at h;cases hv : cv e v with
 | none => rw [hv] at h; cases h
 | some y =>
  cases hw : cvs e vs with
  | none => rw [hv, hw] at h; cases h
  | some z => rw [hv, hw] at h; exact ⟨y, z, rfl, rfl, by simpa using h.symm⟩
theorem Za2 {e : Env} {v : AV} {vs : List AV} {y : Value} {z : List Value} (hv : cv e v = some y) (hw : cvs e vs = some z) : cvs e (v :: vs) = some (y :: z) := by
 simp only [cvs, hv, hw]
theorem Zal {e : Env} : ∀ {vs : List AV} {xs : List Value}, cvs e vs = some xs → xs.length = vs.length := by
 intro vs
 induction vs with
 | nil => intro xs h; simp only [cvs, Option.some.injEq] at h; subst h; rfl
 | cons v vs ih => intro xs h; obtain ⟨y, z, _, hz, rfl⟩ := Zap h; simp [ih hz]
theorem Zby {e : Env} : ∀ {vs : List AV} {xs : List Value}, cvs e vs = some xs → ∀ (i : Nat) (v : AV), vs[i]? = some v → ∃ x, cv e v = some x ∧ xs[i]? = some x := by
 intro vs
 induction vs with
 | nil => intro xs _ i v hv; simp at hv
 | cons a vs ih =>
  intro xs h i v hv;obtain ⟨y, z, hy, hz, rfl⟩ := Zap h;cases i with
  | zero => simp at hv; subst hv; exact ⟨y, hy, by simp⟩
  | succ i => simp at hv ⊢; exact ih hz i v hv
theorem ZcC {e : Env} {a b : List AV} {x y : List Value} (ha : cvs e a = some x) (hb : cvs e b = some y) : cvs e (a ++ b) = some (x ++ y) := by
 induction a generalizing x with
 | nil => simp only [cvs, Option.some.injEq] at ha; subst ha; simpa using hb
 | cons v a ih => obtain ⟨p, q, hp, hq, rfl⟩ := Zap ha; exact Za2 hp (ih hq)
theorem Zgd {e : Env} {v : AV} {x : Value} (h : cv e v = some x) (hs : ∀ i, v ≠ .sym i) : cvs e v.cells = some x.cells.toList := by
 cases v with
 | agg vs =>
  simp only [cv] at h;cases hv : cvs e vs with
  | none => rw [hv] at h; cases h
  | some y => rw [hv] at h; simp only [Option.some.injEq] at h; subst h; exact hv
 | sym i => exact absurd rfl (hs i)
 | undef => simp only [cv, Option.some.injEq] at h; subst h; rfl
 | bool b => simp only [cv, Option.some.injEq] at h; subst h; rfl
 | int k n => simp only [cv, Option.some.injEq] at h; subst h; rfl
 | str s =>
  have h0 := h;simp only [cv] at h
  split at h
  ·simp only [Option.some.injEq] at h; subst h; exact Za2 h0 rfl
  ·cases h
 | nilp => simp only [cv, Option.some.injEq] at h; subst h; rfl
 | nils => simp only [cv, Option.some.injEq] at h; subst h; rfl
 | nilm => simp only [cv, Option.some.injEq] at h; subst h; rfl
 | nilf => simp only [cv, Option.some.injEq] at h; subst h; rfl
 | nili => simp only [cv, Option.some.injEq] at h; subst h; rfl
 | ptr b o =>
  have h0 := h;simp only [cv] at h;cases hb : e.f b with
  | none => rw [hb] at h; cases h
  | some y => rw [hb] at h; simp only [Option.some.injEq] at h; subst h; exact Za2 h0 rfl
 | sl b o n c =>
  have h0 := h;simp only [cv] at h;cases hb : e.f b with
  | none => rw [hb] at h; cases h
  | some y => rw [hb] at h; simp only [Option.some.injEq] at h; subst h; exact Za2 h0 rfl
 | yld b =>
  have h0 := h;simp only [cv] at h;cases hb : e.f b with
  | none => rw [hb] at h; cases h
  | some y => rw [hb] at h; simp only [Option.some.injEq] at h; subst h; exact Za2 h0 rfl
 | capOf b o =>
  have h0 := h;simp only [cv] at h;cases hb : e.f b with
  | none => rw [hb] at h; cases h
  | some y => rw [hb] at h; simp only [Option.some.injEq] at h; subst h; exact Za2 h0 rfl
 | ifc t w =>
  have h0 := h;simp only [cv] at h;cases hb : cv e w with
  | none => rw [hb] at h; cases h
  | some y => rw [hb] at h; simp only [Option.some.injEq] at h; subst h; exact Za2 h0 rfl
 | tup w =>
  have h0 := h;simp only [cv] at h;cases hb : cvs e w with
  | none => rw [hb] at h; cases h
  | some y => rw [hb] at h; simp only [Option.some.injEq] at h; subst h; exact Za2 h0 rfl
 | fn f a b =>
  have h0 := h;simp only [cv] at h;cases ha : cvs e a with
  | none => rw [ha] at h; cases h
  | some y =>
   cases hb : cvs e b with
   | none => rw [ha, hb] at h; cases h
   | some z => rw [ha, hb] at h; simp only [Option.some.injEq] at h; subst h; exact Za2 h0 rfl
end Go.X

/- What an abstract heap says of a world; what a step may change. -/
namespace Go.X
noncomputable section
abbrev Zag := List (Nat × Code × Code)
def Tr.getU (t : Tr AV) (i : Nat) : AV := match t.get i with | some v => v | none => .undef
def Zia (e : Env) (tm : Tr AV) (n : Nat) (tmps : Array Value) : Prop :=
 tmps.size = n ∧ ∀ i, cv e (tm.getU i) = some (tmps.getD i Go.undef)
def Zo0 (κ n : Nat) : Sz → Prop
 | .fix m => n = m
 | .opn lo hi es => n = es * κ ∧ lo ≤ κ ∧ ∀ h, hi = some h → κ < h
def XE.toCode : XE → Code
 | .normal => .skip
 | .exit id => .exit id
 | .ret => .ret
def Zdx (e : Env) (L : Zag) (b : Nat) (x : Nat × Nat) (w : World) : AObj → Prop
 | .blk el ro sz cells => ∃ (c : Array Value) (fz : Nat × Nat), w.heap[x.1]? = some (.cells c (e.elR x.1 ro el) fz) ∧ (ro = false → fz = (0, 0)) ∧
  Zo0 x.2 c.size sz ∧ ∀ i v, cells.get i = some v → ∃ y, cv e v = some y ∧ c[i]? = some y
 | .loop st pend fn fr ps dfr => ∃ (asg body : Code) (xd : Nat × Nat) (tmps : Array Value), Zec L b = some (asg, body) ∧ e.f dfr = some xd ∧
  w.heap[x.1]? = some (.loop { state := st, pending := pend.map XE.toCode, fn := fn, tmps := tmps, params := ps.toArray, assign := asg, body := body, defers := xd.1 }) ∧
  Zia e fr.tm fr.n tmps
 | .defr full => w.heap[x.1]? = some (.deferred (if full then some [] else none))
 | .siter s pos => w.heap[x.1]? = some (.stringIter (bytesOf s) pos)
def AObj.wr : AObj → Bool
 | .blk _ ro _ _ => !ro
 | _ => true
structure HR (NG : Nat) (e : Env) (L : Zag) (G : Nat → Option AObj) (nx : Nat) (w : World) : Prop where
 dom : ∀ b x, e.f b = some x → b < nx
 live : ∀ b o, G b = some o → ∃ x, e.f b = some x ∧ Zdx e L b x w o
 inj : ∀ b c o p x y, G b = some o → G c = some p → e.f b = some x → e.f c = some y → x.1 = y.1 → b = c
 glob : ∀ g, g < NG → e.f g = some (g, 0)
def Zo1 (e : Env) (G : Nat → Option AObj) (B : Nat) : Prop := ∃ b o x, G b = some o ∧ o.wr = true ∧ e.f b = some x ∧ x.1 = B
structure Tran (e : Env) (G : Nat → Option AObj) (nx : Nat) (w : World) (e' : Env) (G' : Nat → Option AObj) (nx' : Nat) (w' : World) : Prop where
 le : e.le e'
 old : ∀ b, b < nx → e'.f b = e.f b
 nx : nx ≤ nx'
 size : w.heap.size ≤ w'.heap.size
 keep : ∀ B, B < w.heap.size → ¬ Zo1 e G B → w'.heap[B]? = w.heap[B]?
 foot : ∀ B, Zo1 e' G' B → B < w.heap.size → Zo1 e G B
 ro : ∀ b o, G' b = some o → o.wr = false → ∃ o0, G b = some o0 ∧ o0.wr = false
 os : w'.os = w.os
 tape : w'.tape = w.tape
 output : w'.output = w.output
theorem Tran.refl (e : Env) (G : Nat → Option AObj) (nx : Nat) (w : World) : Tran e G nx w e G nx w :=
 ⟨Env.le_refl e, fun _ _ => rfl, Nat.le_refl _, Nat.le_refl _, fun _ _ _ => rfl, fun _ h _ => h, fun _ o h hr => ⟨o, h, hr⟩, rfl, rfl, rfl⟩
theorem Tran.trans {e e1 e2 : Env} {G G1 G2 : Nat → Option AObj} {n n1 n2 : Nat} {w w1 w2 : World} (h : Tran e G n w e1 G1 n1 w1) (k : Tran e1 G1 n1 w1 e2 G2 n2 w2) :
 Tran e G n w e2 G2 n2 w2 where
 le := Env.le_trans h.le k.le
 old b hb := (k.old b (Nat.lt_of_lt_of_le hb h.nx)).trans (h.old b hb)
 nx := Nat.le_trans h.nx k.nx
 size := Nat.le_trans h.size k.size
 keep B hB hf := by
  rw [k.keep B (Nat.lt_of_lt_of_le hB h.size) (fun hf1 => hf (h.foot B hf1 hB)), h.keep B hB hf]
 foot B hB hs := h.foot B (k.foot B hB (Nat.lt_of_lt_of_le hs h.size)) hs
 ro b o hb hr := let ⟨o1, h1, h2⟩ := k.ro b o hb hr; h.ro b o1 h1 h2
 os := k.os.trans h.os
 tape := k.tape.trans h.tape
 output := k.output.trans h.output
def Sub (G' G : Nat → Option AObj) : Prop := ∀ b o, G' b = some o → G b = some o
theorem Sub.refl (G : Nat → Option AObj) : Sub G G := fun _ _ h => h
theorem Sub.trans {A B C : Nat → Option AObj} (h : Sub A B) (k : Sub B C) : Sub A C := fun _ _ x => k _ _ (h _ _ x)
theorem Zo1.mono {e : Env} {G G' : Nat → Option AObj} (h : Sub G' G) {B : Nat} (hf : Zo1 e G' B) : Zo1 e G B := by
 obtain ⟨b, o, x, h1, h2, h3, h4⟩ := hf;exact ⟨b, o, x, h _ _ h1, h2, h3, h4⟩
theorem HR.weaken {NG : Nat} {e : Env} {L : Zag} {G G' : Nat → Option AObj} {nx : Nat} {w : World} (h : HR NG e L G nx w) (hs : Sub G' G) : HR NG e L G' nx w where
 dom := h.dom
 live b o hb := h.live b o (hs _ _ hb)
 inj b c o p x y hb hc := h.inj b c o p x y (hs _ _ hb) (hs _ _ hc)
 glob := h.glob
theorem Tran.weaken {e e' : Env} {G G1 G' : Nat → Option AObj} {n n' : Nat} {w w' : World} (h : Tran e G n w e' G1 n' w') (hs : Sub G' G1) : Tran e G n w e' G' n' w' :=
 { h with foot := fun B hB => h.foot B (hB.mono hs), ro := fun b o hb hr => h.ro b o (hs _ _ hb) hr }
theorem Tran.from_sub {e e' : Env} {G G0 G' : Nat → Option AObj} {n n' : Nat} {w w' : World} (h : Tran e G0 n w e' G' n' w') (hs : Sub G0 G) : Tran e G n w e' G' n' w' :=
 { h with keep := fun B hB hf => h.keep B hB (fun hf' => hf (hf'.mono hs)), foot := fun B hB hl => (h.foot B hB hl).mono hs, ro := fun b o hb hr => let ⟨o1, h1, h2⟩ := h.ro b o hb hr; ⟨o1, hs _ _ h1, h2⟩ }
theorem HR.bump {NG : Nat} {e : Env} {L : Zag} {G : Nat → Option AObj} {nx nx' : Nat} {w : World} (h : HR NG e L G nx w) (hn : nx ≤ nx') : HR NG e L G nx' w :=
 { h with dom := fun b x hb => Nat.lt_of_lt_of_le (h.dom b x hb) hn }
theorem Tran.bump {e e' : Env} {G G' : Nat → Option AObj} {n n' n2 : Nat} {w w' : World} (h : Tran e G n w e' G' n' w') (hn : n' ≤ n2) : Tran e G n w e' G' n2 w' :=
 { h with nx := Nat.le_trans h.nx hn }
theorem Zdx.lt {e : Env} {L : Zag} {b : Nat} {x : Nat × Nat} {w : World} {o : AObj} (h : Zdx e L b x w o) : x.1 < w.heap.size := by
 have key : ∀ {ob : Obj}, w.heap[x.1]? = some ob → x.1 < w.heap.size := fun {ob} hh => by
  rcases Nat.lt_or_ge x.1 w.heap.size with h1 | h1
  ·exact h1
  ·rw [Array.getElem?_eq_none h1] at hh; cases hh
 cases o with
 | blk el ro sz cells => obtain ⟨c, fz, h1, _⟩ := h; exact key h1
 | loop st pend fn fr ps dfr => obtain ⟨_, _, _, _, _, _, h1, _⟩ := h; exact key h1
 | defr f => exact key h
 | siter s p => exact key h
theorem Zia.le {e e' : Env} (hle : e.le e') {tm : Tr AV} {n : Nat} {t : Array Value} (h : Zia e tm n t) : Zia e' tm n t :=
 ⟨h.1, fun i => ZjX hle _ _ (h.2 i)⟩
theorem Zdx.keep {e e' : Env} {L L' : Zag} {b : Nat} {x : Nat × Nat} {w w' : World} {o : AObj} (h : Zdx e L b x w o) (hle : e.le e')
 (hw : w'.heap[x.1]? = w.heap[x.1]?) (hL : Zec L' b = Zec L b) : Zdx e' L' b x w' o := by
 cases o with
 | blk el ro sz cells =>
  obtain ⟨c, fz, h1, h2, h3, h4⟩ := h;have hel : e'.elR x.1 ro el = e.elR x.1 ro el := by cases ro <;> simp only [Env.elR, Env.ty, hle.2]
  exact ⟨c, fz, hw.trans (hel ▸ h1), h2, h3, fun i v hv => let ⟨y, hy, hc⟩ := h4 i v hv; ⟨y, ZjX hle _ _ hy, hc⟩⟩
 | loop st pend fn fr ps dfr =>
  obtain ⟨asg, body, xd, t, h1, h2, h3, h4⟩ := h;exact ⟨asg, body, xd, t, hL.trans h1, hle.1 _ _ h2, hw.trans h3, h4.le hle⟩
 | defr f => exact hw.trans h
 | siter s p => exact hw.trans h
theorem HR.frame {NG : Nat} {e e' : Env} {L : Zag} {G G0 G' : Nat → Option AObj} {n n' : Nat} {w w' : World} (h : HR NG e L G n w) (hs : Sub G0 G)
 (ht : Tran e G0 n w e' G' n' w') (h' : HR NG e' L G' n' w') :
 HR NG e' L (fun b => match G' b with | some o => some o | none => (match G0 b with | some _ => none | none => G b)) n' w' := by
 have hcase : ∀ b o, (match G' b with | some o => some o | none => (match G0 b with | some _ => none | none => G b)) = some o → G' b = some o ∨ (G' b = none ∧ G0 b = none ∧ G b = some o) := by
  intro b o hb;cases h1 : G' b with
  | some p => rw [h1] at hb; left; exact hb
  | none =>
   rw [h1] at hb;cases h2 : G0 b with
   | some p => rw [h2] at hb; cases hb
   | none => rw [h2] at hb; right; exact ⟨rfl, rfl, hb⟩
 have hout : ∀ b o x, G0 b = none → G b = some o → e.f b = some x → x.1 < w.heap.size ∧ ¬ Zo1 e G0 x.1 := by
  intro b o x h0 hb hx;obtain ⟨y, hy, hO⟩ := h.live b o hb;rw [hx] at hy; cases hy;refine ⟨hO.lt, ?_⟩;rintro ⟨c, p, y, hc, _, hy, he⟩;have := h.inj c b p o y x (hs _ _ hc) hb hy hx he;subst this;rw [h0] at hc; cases hc
 refine ⟨h'.dom, ?_, ?_, h'.glob⟩
 ·intro b o hb;rcases hcase b o hb with h1 | ⟨h1, h2, h3⟩
  ·exact h'.live b o h1
  ·obtain ⟨x, hx, hO⟩ := h.live b o h3;obtain ⟨hlt, hnf⟩ := hout b o x h2 h3 hx;exact ⟨x, ht.le.1 _ _ hx, hO.keep ht.le (ht.keep _ hlt hnf) rfl⟩
 ·intro b c o p x y hb hc hx hy hxy;have back : ∀ c p y, G c = some p → e'.f c = some y → e.f c = some y := by
   intro c p y hc hy;obtain ⟨y', hy', _⟩ := h.live c p hc;have := ht.le.1 _ _ hy';rw [hy] at this;rw [hy', this]
  have cross : ∀ b c o p x y, G' b = some o → G0 c = none → G c = some p → e'.f b = some x → e'.f c = some y → x.1 = y.1 → False := by
   intro b c o p x y hb h0 hc hx hy hxy;have hy' := back c p y hc hy;cases hw : o.wr with
   | true =>
    obtain ⟨hlt, hnf⟩ := hout c p y h0 hc hy';exact hnf (ht.foot _ ⟨b, o, x, hb, hw, hx, hxy⟩ hlt)
   | false =>
    obtain ⟨o0, hb0, _⟩ := ht.ro b o hb hw;have hx' := back b o0 x (hs _ _ hb0) hx;have := h.inj b c o0 p x y (hs _ _ hb0) hc hx' hy' hxy;subst this;rw [h0] at hb0; cases hb0
  rcases hcase b o hb with h1 | ⟨_, h2, h3⟩
  ·rcases hcase c p hc with k1 | ⟨_, k2, k3⟩
   ·exact h'.inj b c o p x y h1 k1 hx hy hxy
   ·exact (cross b c o p x y h1 k2 k3 hx hy hxy).elim
  ·rcases hcase c p hc with k1 | ⟨_, k2, k3⟩
   ·exact (cross c b p o y x k1 h2 h3 hy hx hxy.symm).elim
   ·exact h.inj b c o p x y h3 k3 (back _ _ _ h3 hx) (back _ _ _ k3 hy) hxy
def upd (G : Nat → Option AObj) (b : Nat) (o : Option AObj) : Nat → Option AObj := fun c => if c = b then o else G c
theorem upd_same (G : Nat → Option AObj) (b : Nat) (o : Option AObj) : upd G b o b = o := by simp [upd]
theorem upd_ne (G : Nat → Option AObj) {b c : Nat} (o : Option AObj) (h : c ≠ b) : upd G b o c = G c := by simp [upd, h]
theorem Zad (t : Tr AObj) (b : Nat) (o : Option AObj) : (t.set b o).get = upd t.get b o := by
 funext c; rw [Tr.get_set]; rfl
theorem HR.upd {NG : Nat} {e : Env} {L : Zag} {G : Nat → Option AObj} {n : Nat} {w w' : World} {b : Nat} {o o' : AObj} {x : Nat × Nat} (h : HR NG e L G n w)
 (hb : G b = some o) (hx : e.f b = some x) (hsame : ∀ B, B ≠ x.1 → w'.heap[B]? = w.heap[B]?) (ho : Zdx e L b x w' o') : HR NG e L (upd G b (some o')) n w' := by
 refine ⟨h.dom, ?_, ?_, h.glob⟩
 ·intro c p hc
  by_cases e1 : c = b
  ·subst e1; rw [upd_same] at hc; cases hc; exact ⟨x, hx, ho⟩
  ·rw [upd_ne _ _ e1] at hc;obtain ⟨y, hy, hO⟩ := h.live c p hc;exact ⟨y, hy, hO.keep (Env.le_refl e) (hsame _ fun he => e1 (h.inj c b p o y x hc hb hy hx he)) rfl⟩
 ·intro c d p q y z hc hd hy hz hyz;have hh : ∀ c p, X.upd G b (some o') c = some p → ∃ p', G c = some p' := by
   intro c p hc
   by_cases e1 : c = b
   ·subst e1; exact ⟨o, hb⟩
   ·rw [upd_ne _ _ e1] at hc; exact ⟨p, hc⟩
  obtain ⟨p', hp'⟩ := hh c p hc;obtain ⟨q', hq'⟩ := hh d q hd;exact h.inj c d p' q' y z hp' hq' hy hz hyz
theorem Tran.upd {e : Env} {G : Nat → Option AObj} {n : Nat} {w w' : World} {b : Nat} {o o' : AObj} {x : Nat × Nat}
 (hb : G b = some o) (hx : e.f b = some x) (hw : o.wr = true) (hw' : o'.wr = true) (hsame : ∀ B, B ≠ x.1 → w'.heap[B]? = w.heap[B]?) (hsz : w'.heap.size = w.heap.size)
 (hos : w'.os = w.os) (htp : w'.tape = w.tape) (hout : w'.output = w.output) : Tran e G n w e (X.upd G b (some o')) n w' where
 le := Env.le_refl e
 old _ _ := rfl
 nx := Nat.le_refl _
 size := by omega
 keep B _ hf := hsame B fun he => hf ⟨b, o, x, hb, hw, hx, he.symm⟩
 foot B hf _ := by
  obtain ⟨c, p, y, hc, hp, hy, he⟩ := hf
  by_cases e1 : c = b
  ·subst e1; rw [hx] at hy; cases hy; exact ⟨c, o, x, hb, hw, hx, he⟩
  ·rw [upd_ne _ _ e1] at hc; exact ⟨c, p, y, hc, hp, hy, he⟩
 ro c p hc hp := by
  by_cases e1 : c = b
  ·subst e1; rw [upd_same] at hc; cases hc; rw [hw'] at hp; cases hp
  ·rw [upd_ne _ _ e1] at hc; exact ⟨p, hc, hp⟩
 os := hos
 tape := htp
 output := hout
theorem Sub.drop (G : Nat → Option AObj) (b : Nat) : Sub (upd G b none) G := fun c o hc => by
 by_cases e1 : c = b
 ·subst e1; rw [upd_same] at hc; cases hc
 ·rw [upd_ne _ _ e1] at hc; exact hc
def Env.ext (e : Env) (b : Nat) (x : Nat × Nat) : Env := { e with f := fun c => if c = b then some x else e.f c }
theorem Env.ext_same (e : Env) (b : Nat) (x : Nat × Nat) : (e.ext b x).f b = some x := by simp [Env.ext]
theorem Env.ext_ne (e : Env) {b c : Nat} (x : Nat × Nat) (h : c ≠ b) : (e.ext b x).f c = e.f c := by simp [Env.ext, h]
theorem Env.le_ext {e : Env} {b : Nat} (h : e.f b = none) (x : Nat × Nat) : e.le (e.ext b x) :=
 ⟨fun c y hc => by rw [Env.ext_ne _ _ (fun he => by subst he; rw [h] at hc; cases hc)]; exact hc, rfl⟩
theorem HR.alloc {NG : Nat} {e : Env} {L : Zag} {G : Nat → Option AObj} {n : Nat} {w w' : World} {b κ : Nat} {o : AObj} {ob : Obj} (h : HR NG e L G n w)
 (hb : e.f b = none) (hn : b < n) (hheap : w'.heap = w.heap.push ob) (ho : Zdx (e.ext b (w.heap.size, κ)) L b (w.heap.size, κ) w' o) :
 HR NG (e.ext b (w.heap.size, κ)) L (X.upd G b (some o)) n w' := by
 have hle := Env.le_ext hb (w.heap.size, κ);have hold : ∀ B, B < w.heap.size → w'.heap[B]? = w.heap[B]? := fun B hB => by rw [hheap, Array.getElem?_push, if_neg (by omega)]
 have hG : G b = none := by
  cases hg : G b with
  | none => rfl
  | some p => obtain ⟨y, hy, _⟩ := h.live b p hg; rw [hb] at hy; cases hy
 refine ⟨?_, ?_, ?_, fun g hg => hle.1 _ _ (h.glob g hg)⟩
 ·intro c y hc
  by_cases e1 : c = b
  ·subst e1; exact hn
  ·rw [Env.ext_ne _ _ e1] at hc; exact h.dom c y hc
 ·intro c p hc
  by_cases e1 : c = b
  ·subst e1; rw [upd_same] at hc; cases hc; exact ⟨_, Env.ext_same _ _ _, ho⟩
  ·rw [upd_ne _ _ e1] at hc;obtain ⟨y, hy, hO⟩ := h.live c p hc;exact ⟨y, hle.1 _ _ hy, hO.keep hle (hold _ hO.lt) rfl⟩
 ·intro c d p q y z hc hd hy hz hyz;have cross : ∀ c p y, c ≠ b → X.upd G b (some o) c = some p → (e.ext b (w.heap.size, κ)).f c = some y → y.1 < w.heap.size := by
   intro c p y e1 hc hy;rw [upd_ne _ _ e1] at hc;rw [Env.ext_ne _ _ e1] at hy;obtain ⟨y', hy', hO⟩ := h.live c p hc;rw [hy] at hy'; cases hy'; exact hO.lt
  by_cases e1 : c = b
  ·by_cases e2 : d = b
   ·rw [e1, e2]
   ·have := cross d q z e2 hd hz;subst e1; rw [Env.ext_same] at hy; cases hy; simp at hyz; omega
  ·by_cases e2 : d = b
   ·have := cross c p y e1 hc hy;subst e2; rw [Env.ext_same] at hz; cases hz; simp at hyz; omega
   ·rw [upd_ne _ _ e1] at hc; rw [upd_ne _ _ e2] at hd;rw [Env.ext_ne _ _ e1] at hy; rw [Env.ext_ne _ _ e2] at hz;exact h.inj c d p q y z hc hd hy hz hyz
theorem Tran.alloc {e : Env} {G : Nat → Option AObj} {n n' : Nat} {w w' : World} {b κ : Nat} {o : AObj} {ob : Obj}
 (hb : e.f b = none) (hnb : n ≤ b) (hn : n ≤ n') (hw : o.wr = true) (hheap : w'.heap = w.heap.push ob) (hos : w'.os = w.os) (htp : w'.tape = w.tape) (hout : w'.output = w.output) :
 Tran e G n w (e.ext b (w.heap.size, κ)) (X.upd G b (some o)) n' w' where
 le := Env.le_ext hb _
 old c hc := Env.ext_ne _ _ (by omega)
 nx := hn
 size := by rw [hheap]; simp
 keep B hB _ := by rw [hheap, Array.getElem?_push, if_neg (by omega)]
 foot B hf hB := by
  obtain ⟨c, p, y, hc, hp, hy, he⟩ := hf
  by_cases e1 : c = b
  ·subst e1; rw [Env.ext_same] at hy; cases hy; simp at he; omega
  ·rw [upd_ne _ _ e1] at hc; rw [Env.ext_ne _ _ e1] at hy; exact ⟨c, p, y, hc, hp, hy, he⟩
 ro c p hc hp := by
  by_cases e1 : c = b
  ·subst e1; rw [upd_same] at hc; cases hc; rw [hw] at hp; cases hp
  ·rw [upd_ne _ _ e1] at hc; exact ⟨p, hc, hp⟩
 os := hos
 tape := htp
 output := hout
theorem HR.same {NG : Nat} {e : Env} {L : Zag} {G : Nat → Option AObj} {n : Nat} {w w' : World} (h : HR NG e L G n w) (hh : w'.heap = w.heap) : HR NG e L G n w' where
 dom := h.dom
 live b o hb := let ⟨x, hx, hO⟩ := h.live b o hb; ⟨x, hx, hO.keep (Env.le_refl e) (by rw [hh]) rfl⟩
 inj := h.inj
 glob := h.glob
theorem Tran.same {e : Env} {G : Nat → Option AObj} {n : Nat} {w w' : World} (hh : w'.heap = w.heap) (hos : w'.os = w.os) (htp : w'.tape = w.tape) (hout : w'.output = w.output) : Tran e G n w e G n w' :=
 ⟨Env.le_refl e, fun _ _ => rfl, Nat.le_refl _, by rw [hh]; exact Nat.le_refl _, fun _ _ _ => by rw [hh], fun _ h _ => h, fun _ o h hr => ⟨o, h, hr⟩, hos, htp, hout⟩
end
end Go.X

/- The tables of types; reading and writing cells. -/
namespace Go.X
noncomputable section
def Zd4 (P : Program) : TypeDesc → TK → Prop
 | .bool, .bool => True
 | .int k, .int k' => k = k'
 | .string, .str => True
 | .pointer e, .ptr e' => e = e'
 | .slice e, .slice e' => e = e'
 | .array n e, .arr n' e' => n = n' ∧ e = e'
 | .struct fs, .struct gs => (fs.toList.map fun f => (f.offset, f.type, P.cellsOf f.type)) = gs.map (fun g => (g.off, g.ty, g.size))
 | .interface _, .iface => True
 | .func .., .func => True
 | .bool, .other | .int _, .other | .string, .other | .pointer _, .other | .slice _, .other | .func .., .other | .interface _, .other | .map .., .other | .chan .., .other | .tuple _, .other | .unsafePointer, .other | .float _, .other | .complex _, .other | .invalid, .other | .named .., .other => True
 | _, _ => False
structure TyOk (P : Program) (t : TypeId) (ti : TyI) : Prop where
 info : ∃ i, P.info? t = some i ∧ i.size = ti.size ∧ i.bytes = ti.bytes ∧ ∃ z, i.zero = some z ∧ Zbi z.cells.toList = some ti.zero
 len : ti.zero.length = ti.size
 und : ∃ d, P.underlying t = some d ∧ Zd4 P d ti.k
 flds : ∀ fs, P.underlying t = some (.struct fs) → ∀ f ∈ fs, ∃ i, P.info? f.type = some i
 cmp : ti.cmp = true → P.stoodInHeld t = false ∧ P.eqGuardType P.depth t = false ∧ ∀ fs, P.underlying t = some (.struct fs) → ∀ f ∈ fs, f.name ≠ "_"
structure XPok (P : Program) (X : XP) : Prop where
 tys : ∀ t ti, X.tys.get t = some ti → TyOk P t ti
 glob : X.glob = P.globals.size
theorem ZcW (e : Env) {v : Value} {a : AV} (h : ZaD v = some a) : cv e a = some v ∧ a.isCell = true := by
 cases v with
 | string s =>
  simp only [ZaD, Option.some.injEq] at h; subst h;refine ⟨?_, rfl⟩;have hall : (s.data.toList.map (·.toNat)).all (fun b => Nat.blt b 256) = true := by
   simp only [List.all_map, List.all_eq_true, Function.comp];intro x _;rw [Nat.blt_eq]; exact UInt8.toNat_lt x
  simp only [cv, hall, if_true, bytesOf, List.map_map];have : (List.map (UInt8.ofNat ∘ fun x => x.toNat) s.data.toList) = s.data.toList := by
   conv => rhs; rw [← List.map_id s.data.toList]
   exact List.map_congr_left fun x _ => by simp
  rw [this]
 | pointer a => cases a <;> simp only [ZaD, Option.some.injEq, reduceCtorEq] at h; subst h; exact ⟨rfl, rfl⟩
 | slice a n c =>
  cases a with
  | some a => simp [ZaD] at h
  | none =>
   cases n with
   | succ n => simp [ZaD] at h
   | zero => cases c with
    | succ c => simp [ZaD] at h
    | zero => simp only [ZaD, Option.some.injEq] at h; subst h; exact ⟨rfl, rfl⟩
 | map r => cases r <;> simp only [ZaD, Option.some.injEq, reduceCtorEq] at h; subst h; exact ⟨rfl, rfl⟩
 | bool b => simp only [ZaD, Option.some.injEq] at h; subst h; exact ⟨rfl, rfl⟩
 | int k n => simp only [ZaD, Option.some.injEq] at h; subst h; exact ⟨rfl, rfl⟩
 | nilFunc => simp only [ZaD, Option.some.injEq] at h; subst h; exact ⟨rfl, rfl⟩
 | nilIface => simp only [ZaD, Option.some.injEq] at h; subst h; exact ⟨rfl, rfl⟩
 | _ => simp [ZaD] at h
theorem Zbc (e : Env) : ∀ {l : List Value} {a : List AV}, Zbi l = some a → cvs e a = some l ∧ a.all AV.isCell = true := by
 intro l
 induction l with
 | nil => intro a h; simp only [Zbi, Option.some.injEq] at h; subst h; exact ⟨rfl, rfl⟩
 | cons v l ih =>
  intro a h;simp only [Zbi] at h;cases hv : ZaD v with
  | none => rw [hv] at h; cases h
  | some x =>
   rw [hv] at h;cases hl : Zbi l with
   | none => rw [hl] at h; cases h
   | some y =>
    rw [hl] at h; simp only [Option.some.injEq] at h; subst h;exact ⟨Za2 (ZcW e hv).1 (ih hl).1, by simp [(ZcW e hv).2]; simpa using (ih hl).2⟩
theorem ZjY (e : Env) {v : Value} {a : AV} (h : ZhQ v = some a) : cv e a = some v := by
 unfold ZhQ at h
 split at h
 ·rename_i cs;cases hc : Zbi cs.toList with
  | none => rw [hc] at h; cases h
  | some y => rw [hc] at h; simp only [Option.map_some, Option.some.injEq] at h; subst h; simp only [cv, (Zbc e hc).1]
 ·simp only [Option.some.injEq] at h; subst h; rfl
 ·exact (ZcW e h).1
section types
variable {P : Program} {X : XP} {t : TypeId} {ti : TyI} (w : World)
theorem Zax {i : TypeInfo} (h : P.info? t = some i) : (typeInfo t).run P w = .ok i w := by simp [typeInfo, h]
theorem Zae (h : TyOk P t ti) : (sizeOf t).run P w = .ok ti.size w := by
 obtain ⟨i, hi, hs, _⟩ := h.info;simp [sizeOf, Zax w hi, hs]
theorem Zg1 (h : TyOk P t ti) : ∃ i, (typeInfo t).run P w = .ok i w ∧ i.bytes = ti.bytes := by
 obtain ⟨i, hi, _, hb, _⟩ := h.info;exact ⟨i, Zax w hi, hb⟩
theorem ZaT (h : TyOk P t ti) (e : Env) : ∃ z, (zeroValue t).run P w = .ok z w ∧ cvs e ti.zero = some z.cells.toList ∧ ti.zero.all AV.isCell = true := by
 obtain ⟨i, hi, _, _, z, hz, hc⟩ := h.info;exact ⟨z, by simp [zeroValue, Zax w hi, hz], (Zbc e hc).1, (Zbc e hc).2⟩
theorem Zbt (h : TyOk P t ti) : (isAgg t).run P w = .ok ti.isAgg w := by
 obtain ⟨d, hd, hk⟩ := h.und;simp only [isAgg, Sem.run_bind, run_underlying hd, Result.andThen_ok];unfold TyI.isAgg;cases d <;> cases hti : ti.k <;> rw [hti] at hk <;> simp [Zd4] at hk <;> simp
end types
theorem ZaE (b o n : Nat) : (⟨b, o, none⟩ : Addr).add n = ⟨b, o + n, none⟩ := by unfold Addr.add; split <;> simp_all
theorem Za9 {NG : Nat} {e : Env} {L : Zag} {H : AHeap} {nx : Nat} {w : World} (h : HR NG e L H.objs.get nx w) {b off n : Nat} {l : List AV} (hg : ZaM H b off n = some l) :
 ∃ x xs, e.f b = some x ∧ cvs e l = some xs ∧ xs.length = n ∧ ∀ j v, xs[j]? = some v → w.cell? ⟨x.1, off + j, none⟩ = some v := by
 unfold ZaM at hg;cases hb : H.objs.get b with
 | none => rw [hb] at hg; cases hg
 | some o =>
  rw [hb] at hg;cases o with
  | blk el ro sz cells =>
   simp only at hg;obtain ⟨x, hx, c, fz, h1, _, _, h4⟩ := h.live b _ hb;obtain ⟨hlen, hget⟩ := Tr.take_some hg;have key : ∀ (l : List AV) (k : Nat), (∀ i, i < l.length → cells.get (k + i) = l[i]?) → ∃ xs, cvs e l = some xs ∧ ∀ j v, xs[j]? = some v → c[k + j]? = some v := by
    intro l
    induction l with
    | nil => intro k _; exact ⟨[], rfl, by simp⟩
    | cons a l ih =>
     intro k hk;have h0 := hk 0 (by simp)
     simp only [Nat.add_zero, List.getElem?_cons_zero] at h0;obtain ⟨y, hy, hc⟩ := h4 _ _ h0
     obtain ⟨ys, hys, hr⟩ := ih (k + 1) (fun i hi => by
      have := hk (i + 1) (by simpa using hi)
      rw [show k + 1 + i = k + (i + 1) by omega, this]; simp)
     refine ⟨y :: ys, Za2 hy hys, fun j v hj => ?_⟩
     cases j with
     | zero => simp at hj; subst hj; exact hc
     | succ j => simp at hj; have := hr j v hj; rwa [show k + (j + 1) = k + 1 + j by omega]
   obtain ⟨xs, hxs, hr⟩ := key l off (fun i hi => hget i (by omega))
   refine ⟨x, xs, hx, hxs, by rw [Zal hxs, hlen], fun j v hj => ?_⟩
   simp only [World.cell?, h1];simpa using hr j v hj
  | _ => cases hg
theorem Zg2 {P : Program} {X : XP} (ok : XPok P X) {e : Env} {L : Zag} {H : AHeap} {nx NG : Nat} {w : World} (h : HR NG e L H.objs.get nx w) {t b off : Nat} {v : AV}
 (hl : ZmN X H t b off = some v) : ∃ x y, e.f b = some x ∧ cv e v = some y ∧ (loadVar t ⟨x.1, off, none⟩).run P w = .ok y w := by
 unfold ZmN at hl;cases ht : X.tys.get t with
 | none => rw [ht] at hl; cases hl
 | some ti =>
  have hk := ok.tys t ti ht;rw [ht] at hl;simp only [Zaw] at hl;cases ha : ti.isAgg with
  | true =>
   rw [ha] at hl;simp only [cond_true] at hl;cases hg : ZaM H b off ti.size with
   | none => rw [hg] at hl; cases hl
   | some l =>
    rw [hg] at hl; simp only [Option.some.injEq] at hl; subst hl;obtain ⟨x, xs, hx, hxs, hn, hc⟩ := Za9 h hg;refine ⟨x, .agg xs.toArray, hx, by simp only [cv, hxs], ?_⟩
    have hr := run_loadCells_list (P := P) w ⟨x.1, off, none⟩ xs (fun j v hj => by rw [ZaE]; exact hc j v hj)
    rw [hn] at hr;simp only [loadVar, Sem.run_bind, Zbt w hk, ha, Result.andThen_ok, if_true, Zae w hk, hr, Sem.run_pure]
  | false =>
   rw [ha] at hl;simp only [cond_false] at hl;cases hg : ZaM H b off 1 with
   | none => rw [hg] at hl; cases hl
   | some l =>
    rw [hg] at hl;cases l with
    | nil => cases hl
    | cons a l =>
     cases l with
     | cons a' l => cases hl
     | nil =>
      simp only [Option.some.injEq] at hl; subst hl;obtain ⟨x, xs, hx, hxs, hn, hc⟩ := Za9 h hg;obtain ⟨y, z, hy, hz, rfl⟩ := Zap hxs;refine ⟨x, y, hx, hy, ?_⟩;have := hc 0 y (by simp)
      simp only [Nat.add_zero] at this;simp [loadVar, Zbt w hk, ha, this]
theorem ZjZ {e : Env} {v : AV} {x : Value} (hv : v.isCell = true) (h : cv e v = some x) : x.oneCell' = true := by
 cases v with
 | agg _ => cases hv
 | tup _ => cases hv
 | undef => cases hv
 | sym _ => cases hv
 | ptr b o => simp only [cv] at h; cases hb : e.f b <;> rw [hb] at h <;> simp at h; subst h; rfl
 | sl b o n c => simp only [cv] at h; cases hb : e.f b <;> rw [hb] at h <;> simp at h; subst h; rfl
 | yld b => simp only [cv] at h; cases hb : e.f b <;> rw [hb] at h <;> simp at h; subst h; rfl
 | capOf b k => simp only [cv] at h; cases hb : e.f b <;> rw [hb] at h <;> simp at h; subst h; rfl
 | ifc t v => simp only [cv] at h; cases hb : cv e v <;> rw [hb] at h <;> simp at h; subst h; rfl
 | str s => simp only [cv] at h; split at h <;> simp at h; subst h; rfl
 | fn f a b =>
  simp only [cv] at h;cases ha : cvs e a <;> cases hb : cvs e b <;> rw [ha, hb] at h <;> simp at h; subst h; rfl
 | _ => simp only [cv, Option.some.injEq] at h; subst h; rfl
theorem ZeC {e : Env} : ∀ {vs : List AV} {xs : List Value}, vs.all AV.isCell = true → cvs e vs = some xs → ∀ x ∈ xs, x.oneCell' = true := by
 intro vs
 induction vs with
 | nil => intro xs _ h; simp only [cvs, Option.some.injEq] at h; subst h; simp
 | cons v vs ih =>
  intro xs hv h x hx;obtain ⟨y, z, hy, hz, rfl⟩ := Zap h;simp only [List.all_cons, Bool.and_eq_true] at hv;rcases List.mem_cons.1 hx with rfl | hx
  ·exact ZjZ hv.1 hy
  ·exact ih hv.2 hz x hx
def Zce (c : Array Value) (o : Nat) : List Value → Array Value
 | [] => c
 | v :: vs => Zce (c.setIfInBounds o v) (o + 1) vs
theorem ZcX (vs : List Value) : ∀ (c : Array Value) (o : Nat), (Zce c o vs).size = c.size := by
 induction vs with
 | nil => intro c o; rfl
 | cons v vs ih => intro c o; simp only [Zce]; rw [ih]; simp
theorem ZdH (vs : List Value) : ∀ (c : Array Value) (o i : Nat), o + vs.length ≤ c.size → (Zce c o vs)[i]? = if o ≤ i ∧ i < o + vs.length then vs[i - o]? else c[i]? := by
 induction vs with
 | nil => intro c o i _; rw [if_neg (by simp)]; rfl
 | cons v vs ih =>
  intro c o i h;simp only [List.length_cons] at h;simp only [Zce];rw [ih _ _ _ (by simp; omega)]
  by_cases h1 : o + 1 ≤ i ∧ i < o + 1 + vs.length
  ·rw [if_pos h1, if_pos (by simp; omega)]
   have : i - o = (i - (o + 1)) + 1 := by omega
   rw [this, List.getElem?_cons_succ]
  ·rw [if_neg h1]
   by_cases e1 : i = o
   ·subst e1;rw [if_pos (by simp), Array.getElem?_setIfInBounds, if_pos rfl, if_pos (by omega)]; simp
   ·rw [if_neg (by simp; omega), Array.getElem?_setIfInBounds_ne (fun h => e1 h.symm)]
theorem Zdh (b : Nat) (el : TypeId) (fz : Nat × Nat) : ∀ (vs : List Value) (o : Nat) (w : World) (c : Array Value), w.heap[b]? = some (.cells c el fz) →
 (w.setCells b o vs).heap[b]? = some (.cells (Zce c o vs) el fz) ∧ (∀ B, B ≠ b → (w.setCells b o vs).heap[B]? = w.heap[B]?) ∧ (w.setCells b o vs).heap.size = w.heap.size ∧
 (w.setCells b o vs).os = w.os ∧ (w.setCells b o vs).tape = w.tape ∧ (w.setCells b o vs).output = w.output := by
 intro vs
 induction vs with
 | nil => intro o w c h; exact ⟨h, fun _ _ => rfl, rfl, rfl, rfl, rfl⟩
 | cons v vs ih =>
  intro o w c h;have h1 : (w.setCell ⟨b, o, none⟩ v).heap[b]? = some (.cells (c.setIfInBounds o v) el fz) := by
   simp only [World.setCell, Array.getElem?_modify, if_true, h]; simp
  obtain ⟨g1, g2, g3, g4, g5, g6⟩ := ih (o + 1) _ _ h1;refine ⟨g1, fun B hB => ?_, by rw [World.setCells, g3]; simp, g4, g5, g6⟩
  rw [World.setCells, g2 B hB];simp only [World.setCell, Array.getElem?_modify];rw [if_neg (fun h => hB h.symm)]
theorem Zo0.least {κ n : Nat} {sz : Sz} (h : Zo0 κ n sz) : sz.least ≤ n := by
 cases sz with
 | fix m => simp only [Zo0] at h; simp only [Sz.least]; omega
 | opn lo hi es => obtain ⟨h1, h2, _⟩ := h; simp only [Sz.least]; rw [h1]; exact Nat.mul_le_mul_left _ h2
theorem ZbM {P : Program} {NG : Nat} {e : Env} {L : Zag} {H H' : AHeap} {nx : Nat} {w : World} (h : HR NG e L H.objs.get nx w) {b off : Nat} {vs : List AV} {xs : List Value}
 (hp : putCells H b off vs = some H') (hxs : cvs e vs = some xs) :
 ∃ x w', e.f b = some x ∧ (storeCells ⟨x.1, off, none⟩ xs).run P w = .ok () w' ∧ HR NG e L H'.objs.get nx w' ∧ Tran e H.objs.get nx w e H'.objs.get nx w' ∧ H'.next = H.next := by
 unfold putCells at hp
 split at hp
 ·rename_i el sz cells hb;simp only [Zaw] at hp;cases hc : (Nat.ble (off + vs.length) sz.least && vs.all AV.isCell) with
  | false => rw [hc] at hp; cases hp
  | true =>
   rw [hc] at hp;simp only [cond_true, Option.some.injEq] at hp;simp only [Bool.and_eq_true] at hc;have hle := Zak hc.1;obtain ⟨x, hx, c, fz, h1, h2, h3, h4⟩ := h.live b _ hb;have hlen := Zal hxs;have hin : off + xs.length ≤ c.size := by rw [hlen]; exact Nat.le_trans hle h3.least
   have hrun := run_storeCells_cells (P := P) x.1 off xs 0 w
    (fun j hj => by simp only [World.cell?, h1, Nat.add_zero]; simp; omega)
    (fun j hj => by simp [World.frozen?, h1, h2 rfl])
    (ZeC hc.2 hxs)
   simp only [Nat.add_zero] at hrun;obtain ⟨g1, g2, g3, g4, g5, g6⟩ := Zdh x.1 el fz xs off w c h1;have ho : Zdx e L b x (w.setCells x.1 off xs) (.blk el false sz (cells.put off vs)) := by
    refine ⟨Zce c off xs, fz, g1, h2, by rw [ZcX]; exact h3, fun i v hv => ?_⟩
    rw [Tr.get_put] at hv;rw [ZdH _ _ _ _ hin]
    by_cases hi : off ≤ i ∧ i < off + vs.length
    ·rw [if_pos hi] at hv;rw [if_pos (by omega)]
     exact Zby hxs _ _ hv
    ·rw [if_neg hi] at hv;rw [if_neg (by omega)]
     exact h4 i v hv
   subst hp;refine ⟨x, _, hx, hrun, ?_, ?_, rfl⟩
   ·show HR NG e L (H.objs.set b _).get nx _;rw [Zad];exact h.upd hb hx g2 ho
   ·show Tran e H.objs.get nx w e (H.objs.set b _).get nx _;rw [Zad];exact Tran.upd hb hx rfl rfl g2 g3 g4 g5 g6
 ·cases hp
end
end Go.X

/- Numbers and strings: the executor's arithmetic is the model's. -/
namespace Go.X
noncomputable section
theorem Zje {a b : IntKind} (h : kEq a b = true) : a = b := by cases a <;> cases b <;> simp [kEq] at h <;> rfl
theorem Zfx (a b : Int) : iEq a b = (a == b) := by
 by_cases h : a = b
 ·subst h;rw [beq_self_eq_true];cases a <;> simp only [iEq] <;> exact ZbK rfl
 ·rw [beq_eq_false_iff_ne.2 h];cases a <;> cases b <;> simp only [iEq] <;> exact Zbx (fun e => h (by rw [e]))
theorem ZbT (a b : Nat) : Nat.blt a b = decide (a < b) := by
 by_cases h : a < b
 ·rw [decide_eq_true h, Nat.blt_eq]; exact h
 ·rw [decide_eq_false h]; cases hb : Nat.blt a b with
  | false => rfl
  | true => exact absurd (ZaF hb) h
theorem Zg3 (a b : Int) : iLt a b = decide (a < b) := by
 cases a with
 | ofNat a => cases b with
  | ofNat b => simp only [iLt, ZbT]; congr 1; simp
  | negSucc b => simp only [iLt]; symm; simp; omega
 | negSucc a => cases b with
  | ofNat b => simp only [iLt]; symm; simp; omega
  | negSucc b => simp only [iLt, ZbT]; congr 1; simp; omega
theorem Zop (a b : Int) : iLe a b = decide (a ≤ b) := by
 simp only [iLe, Zg3]
 by_cases h : a ≤ b
 ·simp [h]
 ·simp [h]; omega
theorem Zrf (a b : Nat) : Nat.mod a b = a % b := rfl
theorem Zqr (a b : Nat) : Nat.sub a b = a - b := rfl
theorem Zr0 (a b : Nat) : Nat.mul a b = a * b := rfl
theorem Zr1 (a b : Nat) : Nat.div a b = a / b := rfl
theorem Zrg (a b : Nat) : Nat.pow a b = a ^ b := rfl
theorem Zb9 (k : IntKind) (n : Int) : k.wrap n = if (ZjG k : Int) ≤ n % (ZbX k : Int) then n % (ZbX k : Int) - (ZbX k : Int) else n % (ZbX k : Int) := by
 cases k <;> simp [IntKind.wrap, IntKind.bits, IntKind.signed, ZjG, ZbX] <;> omega
theorem Zca (k : IntKind) (m : Nat) (h : m < ZbX k) : wrapN k m = k.wrap m := by
 rw [Zb9];simp only [wrapN, Zaw, ZbT, Zqr, Nat.pred_eq_sub_one]
 by_cases hh : m < ZjG k
 ·rw [decide_eq_true hh, cond_true];cases k <;> simp only [ZbX, ZjG] at h hh ⊢ <;> simp <;> omega
 ·rw [decide_eq_false hh, cond_false];cases k <;> simp only [ZbX, ZjG] at h hh ⊢ <;> simp <;> omega
theorem ZbN (k : IntKind) (n : Int) : Zes k n = k.wrap n := by
 have hk : 0 < ZbX k := by cases k <;> simp [ZbX]
 have hw : ∀ a b : Int, a % (ZbX k : Int) = b % (ZbX k : Int) → k.wrap a = k.wrap b := by
  intro a b h;rw [Zb9, Zb9, h]
 cases n with
 | ofNat m =>
  simp only [Zes, Zaw, ZbT, Zrf]
  by_cases h : m < ZjG k
  ·rw [decide_eq_true h];have : m < ZbX k := by cases k <;> simp only [ZbX, ZjG] at h ⊢ <;> omega
   have h2 := Zca k m this;simp only [wrapN, ZbT, decide_eq_true h] at h2;simpa using h2
  ·rw [decide_eq_false h];simp only [cond_false];rw [Zca k _ (Nat.mod_lt _ hk)];apply hw; simp
 | negSucc m =>
  simp only [Zes, Zrf, Zqr, Nat.pred_eq_sub_one];rw [Zca k _ (by omega)]
  apply hw;cases k <;> simp only [ZbX] <;> omega
theorem Zjf (k : IntKind) (n : Int) : ZbR k n = (BitVec.ofInt k.bits n).toNat ∧ ZbR k n < ZbX k ∧ ZbX k = 2 ^ k.bits := by
 have hk : 0 < ZbX k := by cases k <;> simp [ZbX]
 have h2 : ZbX k = 2 ^ k.bits := by cases k <;> simp [ZbX, IntKind.bits]
 have hb : (BitVec.ofInt k.bits n).toNat = (n % ((ZbX k : Nat) : Int)).toNat := by rw [BitVec.toNat_ofInt, h2]
 have h1 : ZbR k n = (n % ((ZbX k : Nat) : Int)).toNat := by
  cases n with
  | ofNat m => simp only [ZbR, Zrf]; simp; omega
  | negSucc m => simp only [ZbR, Zrf, Zqr, Nat.pred_eq_sub_one]; cases k <;> simp only [ZbX] <;> omega
 refine ⟨by rw [h1, hb], ?_, h2⟩
 rw [h1];have := Int.emod_lt_of_pos n (show (0 : Int) < (ZbX k : Int) by omega)
 omega
theorem Zo2 (a b : Int) : ZrM a b = a + b := by cases a <;> cases b <;> rfl
theorem ZlB (a b : Int) : Zrc a b = a - b := by
 cases a with
 | ofNat a => cases b with
  | ofNat b =>
   simp only [Zrc, Zaw, Zqr, Nat.pred_eq_sub_one];cases h : Nat.ble b a with
   | true => have := Zak h; simp; omega
   | false =>
    have : ¬ b ≤ a := fun hh => by rw [Nat.ble_eq_true_of_le hh] at h; cases h
    simp; omega
  | negSucc b => rfl
 | negSucc a => cases b <;> rfl
theorem Zj0 {P : Program} (w : World) {op : BinOp} {k : IntKind} {a b : Int} {v : AV} (h : Za7 op k a b = some v) (t : TypeId) (hs : op ≠ .shl ∧ op ≠ .shr) (e : Env) :
 ∃ y, cv e v = some y ∧ (binOp op t (.int k a) (.int k b)).run P w = .ok y w := by
 have hna := Zjf k a;have hnb := Zjf k b;cases op with
 | shl => exact absurd rfl hs.1
 | shr => exact absurd rfl hs.2
 | add => simp only [Za7, Option.some.injEq] at h; subst h; exact ⟨_, rfl, by simp [binOp, Op.intArith, ZbN, Zo2]⟩
 | sub => simp only [Za7, Option.some.injEq] at h; subst h; exact ⟨_, rfl, by simp [binOp, Op.intArith, ZbN, ZlB]⟩
 | mul => simp only [Za7, Option.some.injEq] at h; subst h; exact ⟨_, rfl, by simp [binOp, Op.intArith, ZbN]⟩
 | quo =>
  simp only [Za7, Zaw, Zfx] at h
  by_cases hb : b = 0
  ·rw [beq_iff_eq.2 hb] at h; cases h
  ·rw [beq_eq_false_iff_ne.2 hb] at h;simp only [cond_false, Option.some.injEq] at h; subst h;exact ⟨_, rfl, by simp [binOp, Op.intDiv, ZbN, hb]⟩
 | rem =>
  simp only [Za7, Zaw, Zfx] at h
  by_cases hb : b = 0
  ·rw [beq_iff_eq.2 hb] at h; cases h
  ·rw [beq_eq_false_iff_ne.2 hb] at h;simp only [cond_false, Option.some.injEq] at h; subst h;exact ⟨_, rfl, by simp [binOp, Op.intDiv, hb]⟩
 | and =>
  simp only [Za7, Option.some.injEq] at h; subst h;refine ⟨_, rfl, ?_⟩;have : Nat.land (ZbR k a) (ZbR k b) < ZbX k := Nat.lt_of_le_of_lt Nat.and_le_left hna.2.1;rw [Zca k _ this];simp only [binOp, Op.intBits, ne_eq, not_true_eq_false, if_false, Sem.run_pure, BitVec.toNat_and, hna.1, hnb.1]; rfl
 | or =>
  simp only [Za7, Option.some.injEq] at h; subst h;refine ⟨_, rfl, ?_⟩;have : Nat.lor (ZbR k a) (ZbR k b) < ZbX k := by
   have h1 := hna.2.1; have h2 := hnb.2.1; rw [hna.2.2] at h1 h2 ⊢; exact Nat.or_lt_two_pow h1 h2
  rw [Zca k _ this];simp only [binOp, Op.intBits, ne_eq, not_true_eq_false, if_false, Sem.run_pure, BitVec.toNat_or, hna.1, hnb.1]; rfl
 | xor =>
  simp only [Za7, Option.some.injEq] at h; subst h;refine ⟨_, rfl, ?_⟩;have : Nat.xor (ZbR k a) (ZbR k b) < ZbX k := by
   have h1 := hna.2.1; have h2 := hnb.2.1; rw [hna.2.2] at h1 h2 ⊢; exact Nat.xor_lt_two_pow h1 h2
  rw [Zca k _ this];simp only [binOp, Op.intBits, ne_eq, not_true_eq_false, if_false, Sem.run_pure, BitVec.toNat_xor, hna.1, hnb.1]; rfl
 | andNot =>
  simp only [Za7, Option.some.injEq] at h; subst h;refine ⟨_, rfl, ?_⟩;have : Nat.land (ZbR k a) (Nat.sub (Nat.pred (ZbX k)) (ZbR k b)) < ZbX k := Nat.lt_of_le_of_lt Nat.and_le_left hna.2.1;rw [Zca k _ this];simp only [binOp, Op.intBits, ne_eq, not_true_eq_false, if_false, Sem.run_pure, BitVec.toNat_and, BitVec.toNat_not, hna.1, hnb.1, hna.2.2, Zqr, Nat.pred_eq_sub_one]; rfl
 | eql => simp only [Za7, Option.some.injEq] at h; subst h; exact ⟨_, rfl, by simp [binOp, Op.intCmp, Zfx]⟩
 | neq => simp only [Za7, Option.some.injEq] at h; subst h; exact ⟨_, rfl, by simp [binOp, Op.intCmp, Zfx]; rfl⟩
 | lss => simp only [Za7, Option.some.injEq] at h; subst h; exact ⟨_, rfl, by simp [binOp, Op.intCmp, Zg3]⟩
 | leq => simp only [Za7, Option.some.injEq] at h; subst h; exact ⟨_, rfl, by simp [binOp, Op.intCmp, Zop]⟩
 | gtr => simp only [Za7, Option.some.injEq] at h; subst h; exact ⟨_, rfl, by simp [binOp, Op.intCmp, Zg3]⟩
 | geq => simp only [Za7, Option.some.injEq] at h; subst h; exact ⟨_, rfl, by simp [binOp, Op.intCmp, Zop]⟩
theorem Zg4 (a b : Nat) : ZiO a b = min a b := by
 simp only [ZiO, Zaw];cases h : Nat.ble a b with
 | true => have := Zak h; simp; omega
 | false =>
  have : ¬ a ≤ b := fun hh => by rw [Nat.ble_eq_true_of_le hh] at h; cases h
  simp; omega
theorem Zjg (k : IntKind) : ZoD k = k.bits := by cases k <;> rfl
theorem Zfy {P : Program} (w : World) {op : BinOp} {k k' : IntKind} {a b : Int} {v : AV} (h : ZdX op k a b = some v) (hs : op = .shl ∨ op = .shr) (t : TypeId) (e : Env) :
 ∃ y, cv e v = some y ∧ (binOp op t (.int k a) (.int k' b)).run P w = .ok y w := by
 cases b with
 | negSucc b => simp [ZdX] at h
 | ofNat b =>
  have hneg : ¬ (Int.ofNat b < 0) := by simp
  rcases hs with rfl | rfl
  ·simp only [ZdX, Zg4, Zjg] at h;have hv : v = .int k (k.wrap (a * 2 ^ min b k.bits)) := by
    cases a with
    | ofNat m => simp only [Zrk, Option.some.injEq, Zr0, Zrg, ZbN] at h; rw [← h]; congr 2
    | negSucc m => simp only [Zrk, Option.some.injEq, Zrg, ZbN] at h; rw [← h]; congr 2
   subst hv;refine ⟨_, rfl, ?_⟩;simp only [binOp, Op.shift, hneg, if_false]; simp
  ·simp only [ZdX, Zg4, Zjg] at h;have hv : v = .int k (a.fdiv (2 ^ min b k.bits)) := by
    cases a with
    | ofNat m =>
     simp only [Zrl, Option.some.injEq, Zr1, Zrg] at h; rw [← h]; congr 1;have := Int.ofNat_fdiv m (2 ^ min b k.bits);simpa using this
    | negSucc m => simp only [Zrl, Option.some.injEq, Zrg] at h; rw [← h]; congr 2
   subst hv;refine ⟨_, rfl, ?_⟩;simp only [binOp, Op.shift, hneg, if_false]; simp
theorem Zj1 {P : Program} (w : World) {op : BinOp} {k k' : IntKind} {a b : Int} {v : AV} (h : Zn5 op k k' a b = some v) (t : TypeId) (e : Env) :
 ∃ y, cv e v = some y ∧ (binOp op t (.int k a) (.int k' b)).run P w = .ok y w := by
 by_cases h1 : op = .shl
 ·subst h1; exact Zfy w (show ZdX .shl k a b = some v from h) (.inl rfl) t e
 ·by_cases h2 : op = .shr
  ·subst h2; exact Zfy w (show ZdX .shr k a b = some v from h) (.inr rfl) t e
  ·have : (@Bool.rec (fun _ => Option AV) none (Za7 op k a b) (kEq k k')) = some v := by
    rw [← h]; cases op <;> first | rfl | exact absurd rfl h1 | exact absurd rfl h2
   rw [Zaw] at this;cases hk : kEq k k' with
   | false => rw [hk] at this; cases this
   | true =>
    rw [hk] at this;obtain rfl := Zje hk;exact Zj0 w this t ⟨h1, h2⟩ e
end
end Go.X
