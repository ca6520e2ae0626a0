/- Walks 44. -/
import Derived.Test.YtjadmbkmlehfdaaGreatDoorProg
import Derived.Test.YtjadmbkmlehfdaaGreatDoorK36
import Derived.Maps.OwnIn
import Derived.Maps.OwnOps
import Derived.Maps.Ext
import Derived.Test.YtjadmbkmlehfdaaGreatDoorK25
import Derived.Test.YtjadmbkmlehfdaaGreatDoorK30
import Derived.Test.YtjadmbkmlehfdaaGreatDoorK33
import Derived.Test.YtjadmbkmlehfdaaGreatDoorK7
import Derived.Test.YtjadmbkmlehfdaaGreatDoorK43
import Derived.Test.YtjadmbkmlehfdaaGreatDoorK42
import Derived.Test.YtjadmbkmlehfdaaGreatDoorK2
set_option linter.unusedVariables false
set_option linter.unusedSimpArgs false
set_option maxRecDepth 100000
namespace Go.M
open Go.Proofs Go.RowKit Go.Shelf Go.Maps
set_option linter.unusedSimpArgs false
abbrev kLit (k : ByteArray) : Lit := .string k.data.toList
theorem kLit_inj {a b : ByteArray} (h : kLit a = kLit b) : a = b := by
 have h2 : a.data.toList = b.data.toList := Lit.string.inj h
 have h3 : a.data = b.data := Array.toList_inj.1 h2
 cases a; cases b; simp at h3; rw [h3]
structure MapL (D : DataW Unit) (A : ByteArray → Prop) (S : ByteArray → Option Nat) : Prop where
 str : ∀ kl, Maps.has D kl = true → ∃ k : ByteArray, kl = kLit k
 val : ∀ k q, A k → S k = some q → ∀ z, D.atKey (kLit k) z = .lit (.int .i64 ((q : Nat) : Int))
 no : ∀ k, (A k → S k = none) → Maps.has D (kLit k) = false
theorem MapL.empty (S : ByteArray → Option Nat) : MapL (.map []) (fun _ => False) S :=
 ⟨fun kl h => by simp [Maps.has] at h, fun k q h => h.elim, fun k _ => rfl⟩
theorem MapL.put {D : DataW Unit} {A : ByteArray → Prop} {S : ByteArray → Option Nat} (h : MapL D A S) (hm : IsMap D) {k0 : ByteArray} {q : Nat} (hq : S k0 = some q) : MapL (D.put (kLit k0) (.lit (.int .i64 ((q : Nat) : Int)))) (fun k => A k ∨ k = k0) S := by
 refine ⟨fun kl hh => ?_, fun k q' hA hS z => ?_, fun k hn => ?_⟩
 ·by_cases e : kl = kLit k0
  ·exact ⟨k0, e⟩
  ·rw [has_put_other e] at hh
   exact h.str kl hh
 ·by_cases e : k = k0
  ·subst e
   rw [hq] at hS
   cases hS
   exact atKey_put_same hm (show WideAt.IsKeyLit (kLit k) from trivial) _ _
  ·rw [atKey_put_other (fun e2 => e (kLit_inj e2))]
   exact h.val k q' (hA.resolve_right e) hS z
 ·by_cases e : k = k0
  ·subst e
   rw [hn (.inr rfl)] at hq
   cases hq
  ·rw [has_put_other (fun e2 => e (kLit_inj e2))]
   exact h.no k (fun hA => hn (.inl hA))
theorem MapL.skip {D : DataW Unit} {A : ByteArray → Prop} {S : ByteArray → Option Nat} (h : MapL D A S) {k0 : ByteArray} (hq : S k0 = none) : MapL D (fun k => A k ∨ k = k0) S := by
 refine ⟨h.str, fun k q' hA hS z => ?_, fun k hn => h.no k (fun hA => hn (.inl hA))⟩
 rcases hA with hA | e
 ·exact h.val k q' hA hS z
 ·subst e
  rw [hq] at hS
  cases hS
theorem MapL.same {D1 D2 : DataW Unit} {S : ByteArray → Option Nat} (h1 : MapL D1 (fun _ => True) S) (h2 : MapL D2 (fun _ => True) S) (c1 : Canon D1) (c2 : Canon D2) : D1 = D2 := by
 have hh : ∀ k : ByteArray, ∀ q, S k = some q → Maps.has D1 (kLit k) = true ∧ Maps.has D2 (kLit k) = true := fun k q hq => ⟨has_true_of_atKey (h1.val k q trivial hq), has_true_of_atKey (h2.val k q trivial hq)⟩
 have hn : ∀ k : ByteArray, S k = none → Maps.has D1 (kLit k) = false ∧ Maps.has D2 (kLit k) = false := fun k hq => ⟨h1.no k (fun _ => hq), h2.no k (fun _ => hq)⟩
 refine Maps.ext c1 c2 (fun kl => ?_) (fun kl z hk => ?_)
 ·by_cases e : ∃ k, kl = kLit k
  ·obtain ⟨k, rfl⟩ := e
   cases hS : S k with
   | none => obtain ⟨a, b⟩ := hn k hS; rw [a, b]
   | some q => obtain ⟨a, b⟩ := hh k q hS; rw [a, b]
  ·have a : Maps.has D1 kl = false := by
    cases hx : Maps.has D1 kl with
    | false => rfl
    | true => exact absurd (h1.str kl hx) e
   have b : Maps.has D2 kl = false := by
    cases hx : Maps.has D2 kl with
    | false => rfl
    | true => exact absurd (h2.str kl hx) e
   rw [a, b]
 ·obtain ⟨k, rfl⟩ := h1.str kl hk
  cases hS : S k with
  | none => obtain ⟨a, b⟩ := hn k hS; rw [a] at hk; cases hk
  | some q => rw [h1.val k q trivial hS, h2.val k q trivial hS]
end Go.M
namespace Go.M
open Go.Proofs Go.RowKit Go.Shelf Go.Maps
set_option linter.unusedSimpArgs false
attribute [local go_sem] Oper.semAt_some
def seqM (M : ByteArray → List Ent) (k : ByteArray) : Option Nat := (liveOf (M k)).map (·.seq)
def KeyA (key : Nat → ByteArray) (i : Nat) (k : ByteArray) : Prop := ∃ j, j < i ∧ key j = k
abbrev OwnS (V : World) (b n : Nat) (D : DataW Unit) : Prop := V.ownsMap Tryz.prog 9 (plainElem Tryz.prog 2) b n D
theorem OwnS.upd {F : Nat → Prop} {V V' : World} {b n : Nat} {D : DataW Unit} (h : OwnS V b n D) (U : Upd F V V') (hF : ¬ F b) : OwnS V' b n D := by
 have hl := World.ownsMap.lt h
 obtain ⟨es, clock, hb, r⟩ := h
 exact ⟨es, clock, (U.keep b hl hF).trans hb, r⟩
structure LmI (w : World) (PP : Nat) (M : ByteArray → List Ent) (key : Nat → ByteArray) (pre : List Nat) (V : World) : Prop where
 p : V.cell? ⟨w.heap.size, 0, none⟩ = some (.pointer (some ⟨PP, 0, none⟩))
 m : ∃ D, OwnS V (w.heap.size + 1) pre.length D ∧ MapL D (KeyA key pre.length) (seqM M)
 h : V.cell? ⟨w.heap.size + 2, 0, none⟩ = some (.map (some (w.heap.size + 1)))
 o : Old w V
theorem LmI.grown {w A B : World} {PP : Nat} {M : ByteArray → List Ent} {key : Nat → ByteArray} {pre : List Nat} {row : Option Nat} (h : LmI w PP M key pre A) (hg : A.grownBy B row) (hr : ∀ r, row = some r → w.heap.size + 2 < r) : LmI w PP M key pre B := by
 have U : Upd (fun b => row = some b) A B := (Upd.refl _ A).grown hg (fun k e => .inl e)
 obtain ⟨p, ⟨D, h1, h2⟩, h3, h4⟩ := h
 exact ⟨U.cellOf p (fun e => by have := hr _ e; omega), ⟨D, h1.kept hg (fun e => by have := hr _ e.symm; omega), h2⟩, U.cellOf h3 (fun e => by have := hr _ e; omega), h4.grown hg (fun k e => .inr (by have := hr k e; omega))⟩
theorem wf_i64 {a : Int} (h0 : 0 ≤ a) (h1 : a ≤ 1099511627776) : (Lit.int .i64 a).wf = true := by
 have h2 : IntKind.i64.min = -9223372036854775808 := by decide
 have h3 : IntKind.i64.max = 9223372036854775807 := by decide
 show (decide (IntKind.i64.min ≤ a) && decide (a ≤ IntKind.i64.max)) = true
 simp only [Bool.and_eq_true, decide_eq_true_eq]
 omega
theorem KeyA.succ {key : Nat → ByteArray} {i : Nat} {k : ByteArray} : KeyA key (i + 1) k ↔ KeyA key i k ∨ k = key i :=
 ⟨fun ⟨j, hj, e⟩ => by
   by_cases h : j = i
   ·subst h; exact .inr e.symm
   ·exact .inl ⟨j, by omega, e⟩, fun h => by
   rcases h with ⟨j, hj, e⟩ | e
   ·exact ⟨j, by omega, e⟩
   ·exact ⟨i, by omega, e.symm⟩⟩
end Go.M
namespace Go.M
open Go.Proofs Go.RowKit Go.Shelf Go.Maps
set_option linter.unusedSimpArgs false
end Go.M
namespace Go.M
open Go.Proofs Go.RowKit Go.Maps
set_option linter.unusedSimpArgs false
theorem ordL_none : ∀ f S (Y : Ix), (∀ s ∈ S, redM Y.1 Y.2 s = false) → ordL f S Y = []
 | 0, S, Y, _ => rfl
 | f + 1, S, Y, h => by
  unfold ordL
  rw [List.find?_eq_none.2 (fun s hs => by rw [h s hs]; decide)]
theorem ord_again {n : Nat} {st st' : Nat → Nat} {M M' : ByteArray → List Ent} {x x' : IdxS} (hX : (M', x'.es) = (ordO n st M x).foldl dropX (M, x.es)) (hst : ∀ i, st' i = if i ∈ ordO n st M x then 0 else st i) (hn : n ≤ 10) : (∀ i, i < n → st' i = 2 → redM M' x'.es i = false) ∧ ordO n st' M' x' = [] := by
 have h1 : ∀ i, i < n → st' i = 2 → redM M' x'.es i = false := fun i hi h2 => by
  rw [hst] at h2
  by_cases hm : i ∈ ordO n st M x
  ·rw [if_pos hm] at h2; cases h2
  ·rw [if_neg hm] at h2
   have := ordL_end 10 (stL st n 2) (M, x.es) (stL_nodup _ _ _) (by have := stL_len st n 2; omega) i (stL_mem.2 ⟨hi, h2⟩) hm
   have hX' : ((ordL 10 (stL st n 2) (M, x.es)).foldl dropX (M, x.es)) = (M', x'.es) := hX.symm
   rw [hX'] at this
   exact this
 exact ⟨h1, ordL_none _ _ _ (fun s hs => by obtain ⟨q1, q2⟩ := stL_mem.1 hs; exact h1 s q1 q2)⟩
abbrev OwnB (V : World) (b n : Nat) (D : DataW Unit) : Prop := V.ownsMap Tryz.prog 3 (plainElem Tryz.prog 4) b n D
abbrev iLit (i : Nat) : Lit := .int .i64 ((i : Nat) : Int)
def MapB (D : DataW Unit) (L : List Nat) : Prop := ∀ i : Nat, D.atKey (iLit i) (.lit (.bool false)) = .lit (.bool (decide (i ∈ L)))
theorem MapB.empty : MapB (.map []) [] := fun i => by rfl
theorem MapB.put {D : DataW Unit} {L : List Nat} (h : MapB D L) (hm : IsMap D) (i : Nat) : MapB (D.put (iLit i) (.lit (.bool true))) (L ++ [i]) := fun j => by
 by_cases e : j = i
 ·subst e
  rw [atKey_put_same hm (show WideAt.IsKeyLit (iLit j) from trivial)]
  simp
 ·rw [atKey_put_other (fun e2 => e (by simp only [Lit.int.injEq, true_and] at e2; omega)), h j]
  simp [e]
theorem OwnB.upd {F : Nat → Prop} {V V' : World} {b n : Nat} {D : DataW Unit} (h : OwnB V b n D) (U : Upd F V V') (hF : ¬ F b) : OwnB V' b n D := by
 have hl := World.ownsMap.lt h
 obtain ⟨es, clock, hb, r⟩ := h
 exact ⟨es, clock, (U.keep b hl hF).trans hb, r⟩
theorem wf_nat {i : Nat} (h : i ≤ 1000) : (Lit.int .i64 ((i : Nat) : Int)).wf = true := wf_i64 (by omega) (by omega)
end Go.M
namespace Go.M
open Go.Proofs Go.RowKit
set_option linter.unusedSimpArgs false
theorem ordL_congr : ∀ f {S : List Nat} {M : ByteArray → List Ent} {es es' : Nat → List Ent}, (∀ i ∈ S, es i = es' i) → ordL f S (M, es) = ordL f S (M, es')
 | 0, S, M, es, es', h => by simp [ordL]
 | f + 1, S, M, es, es', h => by
  have hf : S.find? (fun t => redM M es t) = S.find? (fun t => redM M es' t) := by
   clear f
   induction S with
   | nil => rfl
   | cons a l ih =>
    rw [List.find?_cons, List.find?_cons, ih (fun i hi => h i (List.mem_cons_of_mem _ hi))]
    unfold redM
    rw [h a (List.mem_cons_self ..)]
  unfold ordL
  rw [hf]
  cases ht : S.find? (fun t => redM M es' t) with
  | none => rfl
  | some t =>
   have hm := List.mem_of_find?_eq_some ht
   simp only
   unfold dropX
   simp only
   rw [h t hm]
   exact congrArg _ (ordL_congr f (fun i hi => by
    have := h i (List.mem_of_mem_erase hi)
    unfold dropE
    split
    ·rfl
    ·exact this))
structure ExE (w w1 : World) (D B X : Nat) (col : Col) (s : DevS) (x : IdxS) : Prop where
 e : EIn w1 col 0 D B X 6 s 2 (exT 4) (exM 5) x
 ok : EOk 6 s (exT 4) x 20
 o : ordO 6 (exT 4) (exM 5) x = [0, 1, 2]
 es : ∀ i, i < 6 → x.es i = exEs 5 i
 u : Old w w1
 z : ∀ b, b < w.heap.size → (col b).1 = 0
theorem ex_end {w wb w1 : World} {Z : Nat → Prop} {D B X : Nat} (h : ExS Z wb w1 D B X 5 5 4 4) (hO : Old w wb) (hz : ∀ b, b < w.heap.size → Z b) : ∃ col s x, ExE w w1 D B X col s x := by
 obtain ⟨⟨col, s, x, hE, he, hi, o0, o1, hle, hzz⟩, hu⟩ := h
 refine ⟨col, s, x, hE, ⟨fun i hi h2 => ?_, fun i hi' h2 => ?_, o0, by omega⟩, ?_, he, hO.after hu (fun b hb hn => hn (hz b hb)), fun b hb => hzz b (Nat.lt_of_lt_of_le hb hO.size) (hz b hb)⟩
 ·rw [he i hi]
  exact (by decide : ∀ i, i < 6 → exT 4 i = 2 → exEs 5 i ≠ []) i hi h2
 ·have h4 := (by decide : ∀ i, i < 6 → exT 4 i = 2 → i < 4) i hi' h2
  have := (hi i hi').2.2 h4
  unfold unsOf
  rw [this]
  simp
 ·unfold ordO
  rw [ordL_congr 10 (es' := exEs 5) (fun i hi => he i (stL_mem.1 hi).1)]
  decide +kernel
structure ExF (w w4 : World) (D B X : Nat) : Prop where
 nw : ∀ W, Old w4 W → Calls Tryz.prog 67 #[.pointer (some ⟨X, 0, none⟩), .string ⟨#[97]⟩] W fun e w' => e = .returned (.tuple #[.agg #[.int .i64 3, .string ⟨#[97]⟩, .bool false, .int .i64 3, .int .i64 0, .int .i64 18], .bool true]) ∧ Old W w'
 fr : ∀ W, Old w4 W → Calls Tryz.prog 27 #[.pointer (some ⟨B, 0, none⟩)] W fun e w' => e = .returned (.int .i64 5) ∧ W = w'
 ln : ∀ W, Old w4 W → Calls Tryz.prog 48 #[.pointer (some ⟨X, 0, none⟩)] W fun e w' => e = .returned (.int .i64 1) ∧ Old W w'
 u : Old w w4
structure ExG (w w2 : World) (D B X g c : Nat) (col : Col) (s : DevS) (x : IdxS) : Prop where
 e : ExE w w2 D B X col s x
 c0 : w2.cell? ⟨g, 0, none⟩ = some (.int .i64 0)
 c1 : w2.cell? ⟨g, 1, none⟩ = some (.int .i64 1)
 c2 : w2.cell? ⟨g, 2, none⟩ = some (.int .i64 2)
 cg : (col g).1 = 0
theorem ExE.order {w w1 : World} {D B X : Nat} {col : Col} {s : DevS} {x : IdxS} (h : ExE w w1 D B X col s x) :
 Calls Tryz.prog 24 #[.pointer (some ⟨B, 0, none⟩), .pointer (some ⟨X, 0, none⟩)] w1 fun e w2 => ∃ g c, e = .returned (.tuple #[.slice (some ⟨g, 0, none⟩) 3 c, .int .i64 0]) ∧ ExG w w2 D B X g c col s x := by
 refine (h.e.porder h.ok.ne).mono ?_
 rintro e w2 ⟨v, rfl, own, U, hg⟩
 rw [h.o] at own
 obtain ⟨g, c, rfl⟩ := own_block own (by decide)
 have hc := fun i y (hy : (intsV [0, 1, 2])[i]? = some y) => own.cells (g := g) rfl i y hy
 exact ⟨g, c, rfl, ⟨h.e.old U, h.ok, h.o, h.es, h.u.trans U, h.z⟩, hc 0 _ rfl, hc 1 _ rfl, hc 2 _ rfl, h.e.new g (hg g rfl)⟩
structure ExH (w w3 : World) (D B X g : Nat) : Prop where
 e : ∃ col s st M x, EIn w3 col 0 D B X 6 s 2 st M x ∧ EOk 6 s st x 50 ∧ ordO 6 st M x = [] ∧ M ⟨#[97]⟩ = [⟨3, ⟨#[97]⟩, false, 3, 0, 18⟩] ∧ sumL (fun i => (x.es i).length) 6 = 1 ∧ cntS st 6 0 = 5 ∧ (∀ b, b < w.heap.size → (col b).1 = 0) ∧ (col g).1 = 0
 u : Old w w3
 c0 : w3.cell? ⟨g, 0, none⟩ = some (.int .i64 0)
 c1 : w3.cell? ⟨g, 1, none⟩ = some (.int .i64 1)
 c2 : w3.cell? ⟨g, 2, none⟩ = some (.int .i64 2)
theorem ExG.run {w w2 : World} {D B X g c : Nat} {col : Col} {s : DevS} {x : IdxS} (h : ExG w w2 D B X g c col s x) :
 Calls Tryz.prog 25 #[.pointer (some ⟨D, 0, none⟩), .pointer (some ⟨B, 0, none⟩), .pointer (some ⟨X, 0, none⟩)] w2 fun e w3 => e = .returned (.tuple #[.int .i64 3, .int .i64 0]) ∧ ExH w w3 D B X g := by
 obtain ⟨⟨hE, ok, ho, hes, hu, hz⟩, c0, c1, c2, cg⟩ := h
 have hl := World.block_lt_of_cell? w2 _ c0
 simp only at hl
 refine (hE.prun ok (by rw [ho]; decide)).mono ?_
 rintro e w3 ⟨rfl, ⟨col', s', st', M', x', hE', hX, hst, -, ok', hk, -⟩, U⟩
 have hag := ord_again hX hst (by decide)
 rw [ho] at hX hst ok' ⊢
 have hM : M' = leftOf (leftOf (leftOf (exM 5) (x.es 0)) (x.es 1)) (x.es 2) := congrArg Prod.fst hX
 have hx : x'.es = dropE (dropE (dropE x.es 0) 1) 2 := congrArg Prod.snd hX
 have hs : st' = fun i => if i ∈ [0, 1, 2] then 0 else exT 4 i := funext hst
 have ng : ¬ EF col g := fun hf => by have := hf.1; omega
 refine ⟨rfl, ⟨col', s', st', M', x', hE', ⟨ok'.ne, ok'.du, ok'.o0, ok'.o1⟩, hag.2, ?_, ?_, ?_, fun b hb => by rw [hk b (Nat.lt_of_lt_of_le hb hu.size), hz b hb], by rw [hk g hl, cg]⟩, hu.after U (fun b hb hf => by have := hf.1; rw [hz b hb] at this; omega), U.cellOf c0 ng, U.cellOf c1 ng, U.cellOf c2 ng⟩
 ·rw [hM, hes 0 (by omega), hes 1 (by omega), hes 2 (by omega)]
  rfl
 ·have e3 : x'.es 3 = exEs 5 3 := by rw [hx]; exact hes 3 (by omega)
  have e4 : x'.es 4 = exEs 5 4 := by rw [hx]; exact hes 4 (by omega)
  have e5 : x'.es 5 = exEs 5 5 := by rw [hx]; exact hes 5 (by omega)
  have e0 : x'.es 0 = [] := by rw [hx]; rfl
  have e1 : x'.es 1 = [] := by rw [hx]; rfl
  have e2 : x'.es 2 = [] := by rw [hx]; rfl
  simp only [sumL]
  rw [e0, e1, e2, e3, e4, e5]
  rfl
 ·rw [hs]
  decide
theorem ExH.run {w w3 : World} {D B X g : Nat} (h : ExH w w3 D B X g) :
 Calls Tryz.prog 25 #[.pointer (some ⟨D, 0, none⟩), .pointer (some ⟨B, 0, none⟩), .pointer (some ⟨X, 0, none⟩)] w3 fun e w4 => e = .returned (.tuple #[.int .i64 0, .int .i64 0]) ∧ ExF w w4 D B X ∧ w4.cell? ⟨g, 0, none⟩ = some (.int .i64 0) ∧ w4.cell? ⟨g, 1, none⟩ = some (.int .i64 1) ∧ w4.cell? ⟨g, 2, none⟩ = some (.int .i64 2) := by
 obtain ⟨⟨col, s, st, M, x, hE, ok, ho, hM, hn, hc, hz, cg⟩, hu, c0, c1, c2⟩ := h
 refine (hE.prun ok (by rw [ho]; decide)).mono ?_
 rintro e w4 ⟨rfl, ⟨col', s', st', M', x', hE', hX, hst, -, ok', hk, -⟩, U⟩
 rw [ho] at hX hst ⊢
 have hM' : M' = M := congrArg Prod.fst hX
 have hx : x'.es = x.es := congrArg Prod.snd hX
 have hs : st' = st := funext fun i => by rw [hst]; rfl
 have ng : ¬ EF col g := fun hf => by have := hf.1; omega
 subst hM' hs
 refine ⟨rfl, ⟨fun W O => ?_, fun W O => ?_, fun W O => ?_, hu.after U (fun b hb hf => by have := hf.1; rw [hz b hb] at this; omega)⟩, U.cellOf c0 ng, U.cellOf c1 ng, U.cellOf c2 ng⟩
 ·obtain ⟨sv, hi⟩ := (hE'.old O).idx.ixk ⟨#[97]⟩
  rw [hM] at hi
  exact (newest_walk hi)
 ·have := (hE'.old O).tab.free
  rw [hc] at this
  exact this
 ·have := (hE'.old O).idx.ilen
  rw [hx, hn] at this
  exact this
set_option maxHeartbeats 4000000 in
theorem works36 {w : World} (hdb : DbAt w) (hse : SealAt w) (hdr : DropAt w) (hlo : LoadAt w) :
 Calls Tryz.prog 20 #[] w fun e w' => e = .returned (.bool true) ∧ Kpt w w' := by
 have HEX := Lib.hid (example36 hdb hse hdr hlo)
 have HIN : Hid (∀ {W : World} {g1 g2 c1 c2 : Nat}, W.cell? ⟨g1, 0, none⟩ = some (.int .i64 0) → W.cell? ⟨g1, 1, none⟩ = some (.int .i64 1) → W.cell? ⟨g1, 2, none⟩ = some (.int .i64 2) → W.cell? ⟨g2, 0, none⟩ = some (.int .i64 0) → W.cell? ⟨g2, 1, none⟩ = some (.int .i64 1) → W.cell? ⟨g2, 2, none⟩ = some (.int .i64 2) →
  Calls Tryz.prog 68 #[.slice (some ⟨g1, 0, none⟩) 3 c1, .slice (some ⟨g2, 0, none⟩) 3 c2] W fun e w' => e = .returned (.bool true) ∧ Old W w') := Lib.hid (fun a0 a1 a2 b0 b1 b2 => ints36 (L := [0, 1, 2]) (fun i y h => by
   match i, h with
   | 0, h => cases h; exact a0
   | 1, h => cases h; exact a1
   | 2, h => cases h; exact a2) (fun i y h => by
   match i, h with
   | 0, h => cases h; exact b0
   | 1, h => cases h; exact b1
   | 2, h => cases h; exact b2) (by decide))
 clear hdb hse hdr hlo
 go_enter Tryz.func20, Tryz.ntmps20
 go_wp2_with (first | (go_at_call 66; refine HEX.out.mono ?_; rintro e1 w1 ⟨D, B, X, rfl, Z, wb, a1, a2, a3⟩; have H1 := Lib.hid (ex_end a1 a2 a3); clear a1 a2 a3) | (go_at_call 24; obtain ⟨col, s, x, h1⟩ := H1.out; refine h1.order.mono ?_; rintro e2 w2 ⟨g, c, rfl, h2⟩; have H2 := Lib.hid h2; clear h1 h2) | (go_at_call 25; refine H2.out.run.mono ?_; rintro e3 w3 ⟨rfl, h3⟩; have H3 := Lib.hid h3; clear h3 H2) | (go_at_call 25; refine H3.out.run.mono ?_; rintro e4 w4 ⟨rfl, h4, a0, a1, a2⟩; have H4 := Lib.hid (And.intro h4 (And.intro a0 (And.intro a1 a2))); clear h4 a0 a1 a2 H3) | (go_at_call 67; refine (H4.out.1.nw _ (Upd.refl _ _)).mono ?_; rintro e5 w5 ⟨rfl, hU⟩; have q0 := Old.cellOf' hU H4.out.2.1; have q1 := Old.cellOf' hU H4.out.2.2.1; have q2 := Old.cellOf' hU H4.out.2.2.2; have ql := World.block_lt_of_cell? w5 _ q0; simp only at ql; have qn : ¬ g = w5.heap.size := (by omega); have H5 := Lib.hid hU; clear hU) | (go_at_call 68; refine (HIN.out (by go_simp) (by go_simp) (by go_simp) (by go_simp) (by go_simp) (by go_simp)).mono ?_; rintro e6 w6 ⟨rfl, hU⟩; have O6 : Hid (Old w4 w6) := (((H5.out.alloc _).alloc _).trans hU); have a3 : w6.cell? ⟨w5.heap.size, 3, none⟩ = some (.int .i64 3) := Old.cellOf' hU (by go_simp); clear hU) | (go_at_call 27; refine (H4.out.1.fr _ O6.out).mono ?_; rintro e7 w7 ⟨rfl, rfl⟩) | (go_at_call 48; refine (H4.out.1.ln _ O6.out).mono ?_; rintro e8 w8 ⟨rfl, hU⟩; have a3 := Old.cellOf' hU a3; have H8 := Lib.hid hU; clear hU))
 go_ret
 have U := H4.out.1.u.trans (O6.out.trans H8.out)
 exact ⟨rfl, fun b hb => U.keep b hb (fun x => x), U.os, U.out⟩
end Go.M
