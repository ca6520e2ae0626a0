/- Walks 47. -/
import Derived.Test.YtjadmbkmlehfdaaGreatDoorProg
import Derived.Test.YtjadmbkmlehfdaaGreatDoorK45
import Derived.Test.YtjadmbkmlehfdaaGreatDoorK46
import Derived.Test.YtjadmbkmlehfdaaGreatDoorK44
import Derived.Test.YtjadmbkmlehfdaaGreatDoorK30
import Derived.Test.YtjadmbkmlehfdaaGreatDoorK2
import Derived.Test.YtjadmbkmlehfdaaGreatDoorK42
import Derived.Test.YtjadmbkmlehfdaaGreatDoorK34
set_option linter.unusedVariables false
set_option linter.unusedSimpArgs false
set_option maxRecDepth 100000
namespace Go.M
open Go.Proofs Go.RowKit Go.Maps
set_option linter.unusedSimpArgs false
theorem find_least {p : Nat → Bool} : ∀ {S : List Nat} {t s : Nat}, S.Pairwise (· < ·) → S.find? p = some t → s ∈ S → p s = true → t ≤ s
 | [], t, s, _, h, _, _ => by simp at h
 | a :: S, t, s, hS, h, hs, hp => by
  obtain ⟨h1, h2⟩ := List.pairwise_cons.1 hS
  rw [List.find?_cons] at h
  cases ha : p a with
  | true =>
   rw [ha] at h
   simp only [Option.some.injEq] at h
   subst h
   rcases List.mem_cons.1 hs with rfl | hs
   ·exact Nat.le_refl _
   ·exact Nat.le_of_lt (h1 s hs)
  | false =>
   rw [ha] at h
   rcases List.mem_cons.1 hs with rfl | hs
   ·rw [ha] at hp; cases hp
   ·exact find_least h2 h hs hp
theorem ordL_least : ∀ f S (Y : Ix) k y, S.Pairwise (· < ·) → (ordL f S Y)[k]? = some y → ∀ s ∈ S, s ∉ (ordL f S Y).take k → redM (((ordL f S Y).take k).foldl dropX Y).1 (((ordL f S Y).take k).foldl dropX Y).2 s = true → y ≤ s
 | 0, S, Y, k, y, _, h, _, _, _, _ => by simp [ordL] at h
 | f + 1, S, Y, k, y, hS, h, s, hs, hn, hr => by
  unfold ordL at h hn hr
  cases ht : S.find? (fun s => redM Y.1 Y.2 s) with
  | none => rw [ht] at h; simp at h
  | some t =>
   rw [ht] at h hn hr
   simp only at h hn hr
   cases k with
   | zero =>
    simp only [List.getElem?_cons_zero, Option.some.injEq] at h
    subst h
    simp only [List.take_zero, List.foldl_nil] at hr
    exact find_least hS ht hs hr
   | succ k =>
    simp only [List.getElem?_cons_succ] at h
    simp only [List.take_succ_cons, List.mem_cons, not_or] at hn
    rw [List.take_succ_cons, List.foldl_cons] at hr
    have hnd : S.Nodup := hS.imp (fun h e => by omega)
    exact ordL_least f (S.erase t) (dropX Y t) k y (hS.sublist (List.erase_sublist)) h s (hnd.mem_erase_iff.2 ⟨hn.1, hs⟩) hn.2 hr
theorem ordL_none : ∀ f S (Y : Ix), (∀ s ∈ S, redM Y.1 Y.2 s = false) → ordL f S Y = []
 | 0, S, Y, _ => rfl
 | f + 1, S, Y, h => by
  unfold ordL
  rw [List.find?_eq_none.2 (fun s hs => by rw [h s hs]; decide)]
theorem stL_sorted (st : Nat → Nat) (k a : Nat) : (stL st k a).Pairwise (· < ·) := List.pairwise_lt_range.filter _
theorem ord_again {n : Nat} {st st' : Nat → Nat} {M M' : ByteArray → List Ent} {x x' : IdxS} (hX : (M', x'.es) = (ordO n st M x).foldl dropX (M, x.es)) (hst : ∀ i, st' i = if i ∈ ordO n st M x then 0 else st i) (hn : n ≤ 10) : (∀ i, i < n → st' i = 2 → redM M' x'.es i = false) ∧ ordO n st' M' x' = [] := by
 have h1 : ∀ i, i < n → st' i = 2 → redM M' x'.es i = false := fun i hi h2 => by
  rw [hst] at h2
  by_cases hm : i ∈ ordO n st M x
  ·rw [if_pos hm] at h2; cases h2
  ·rw [if_neg hm] at h2
   have := ordL_end 10 (stL st n 2) (M, x.es) (stL_nodup _ _ _) (by have := stL_len st n 2; omega) i (stL_mem.2 ⟨hi, h2⟩) hm
   have hX' : ((ordL 10 (stL st n 2) (M, x.es)).foldl dropX (M, x.es)) = (M', x'.es) := hX.symm
   rw [hX'] at this
   exact this
 exact ⟨h1, ordL_none _ _ _ (fun s hs => by obtain ⟨q1, q2⟩ := stL_mem.1 hs; exact h1 s q1 q2)⟩
abbrev OwnB (V : World) (b n : Nat) (D : DataW Unit) : Prop := V.ownsMap Tryz.prog 3 (plainElem Tryz.prog 4) b n D
abbrev iLit (i : Nat) : Lit := .int .i64 ((i : Nat) : Int)
def MapB (D : DataW Unit) (L : List Nat) : Prop := ∀ i : Nat, D.atKey (iLit i) (.lit (.bool false)) = .lit (.bool (decide (i ∈ L)))
theorem MapB.empty : MapB (.map []) [] := fun i => by rfl
theorem MapB.put {D : DataW Unit} {L : List Nat} (h : MapB D L) (hm : IsMap D) (i : Nat) : MapB (D.put (iLit i) (.lit (.bool true))) (L ++ [i]) := fun j => by
 by_cases e : j = i
 ·subst e
  rw [atKey_put_same hm (show WideAt.IsKeyLit (iLit j) from trivial)]
  simp
 ·rw [atKey_put_other (fun e2 => e (by simp only [Lit.int.injEq, true_and] at e2; omega)), h j]
  simp [e]
theorem OwnB.upd {F : Nat → Prop} {V V' : World} {b n : Nat} {D : DataW Unit} (h : OwnB V b n D) (U : Upd F V V') (hF : ¬ F b) : OwnB V' b n D := by
 have hl := World.ownsMap.lt h
 obtain ⟨es, clock, hb, r⟩ := h
 exact ⟨es, clock, (U.keep b hl hF).trans hb, r⟩
theorem plainBool_inv {e : TypeId} (he : Tryz.prog.underlying e = some .bool) {v : Value} {z : DataW Unit × List MemPlace} (h : plainElem Tryz.prog e v = some z) : ∃ x, v = .bool x ∧ z = (.lit (.bool x), []) := by
 unfold plainElem at h
 rw [he] at h
 cases v <;> simp at h
 exact ⟨_, rfl, h.symm⟩
theorem zeroB (w : World) : (zeroValue 4).run Tryz.prog w = .ok (.bool false) w := by kernel_rfl
theorem wf_nat {i : Nat} (h : i ≤ 1000) : (Lit.int .i64 ((i : Nat) : Int)).wf = true := wf_i64 (by omega) (by omega)
theorem look_gone {V : World} {b n i : Nat} {D : DataW Unit} {L : List Nat} (h : OwnB V b n D) (hM : MapB D L) (hi : i ≤ 1000) : (Instr.lookup 70 (.map (some b)) (.int .i64 ((i : Nat) : Int)) false).run Tryz.prog V = .ok (.bool (decide (i ∈ L))) V := by
 obtain ⟨v, ps, hrun, hv⟩ := World.ownsMap.lookup h (int_keyed Tryz.underlying3) Tryz.underlying70 (zeroB V) (plainElem_bool Tryz.underlying4 false) (keyOf_int_mk Tryz.underlying3 (wf_nat hi))
 obtain ⟨x, rfl, hz⟩ := plainBool_inv Tryz.underlying4 hv
 have h1 : D.atKey (iLit i) (.lit (.bool false)) = .lit (.bool x) := congrArg Prod.fst hz
 rw [hM i] at h1
 injection h1 with h1
 injection h1 with h1
 rw [hrun, h1]
end Go.M
namespace Go.M
open Go.Proofs Go.RowKit
set_option linter.unusedSimpArgs false
theorem ordL_congr : ∀ f {S : List Nat} {M : ByteArray → List Ent} {es es' : Nat → List Ent}, (∀ i ∈ S, es i = es' i) → ordL f S (M, es) = ordL f S (M, es')
 | 0, S, M, es, es', h => by simp [ordL]
 | f + 1, S, M, es, es', h => by
  have hf : S.find? (fun t => redM M es t) = S.find? (fun t => redM M es' t) := by
   clear f
   induction S with
   | nil => rfl
   | cons a l ih =>
    rw [List.find?_cons, List.find?_cons, ih (fun i hi => h i (List.mem_cons_of_mem _ hi))]
    unfold redM
    rw [h a (List.mem_cons_self ..)]
  unfold ordL
  rw [hf]
  cases ht : S.find? (fun t => redM M es' t) with
  | none => rfl
  | some t =>
   have hm := List.mem_of_find?_eq_some ht
   simp only
   unfold dropX
   simp only
   rw [h t hm]
   exact congrArg _ (ordL_congr f (fun i hi => by
    have := h i (List.mem_of_mem_erase hi)
    unfold dropE
    split
    ·rfl
    ·exact this))
structure ExE (w w1 : World) (D B X : Nat) (col : Col) (s : DevS) (x : IdxS) : Prop where
 e : EIn w1 col 0 D B X 6 s 2 (exT 4) (exM 5) x
 ok : EOk 6 s (exT 4) x 20
 o : ordO 6 (exT 4) (exM 5) x = [0, 1, 2]
 es : ∀ i, i < 6 → x.es i = exEs 5 i
 u : Old w w1
 z : ∀ b, b < w.heap.size → (col b).1 = 0
theorem ex_end {w wb w1 : World} {Z : Nat → Prop} {D B X : Nat} (h : ExS Z wb w1 D B X 5 5 4 4) (hO : Old w wb) (hz : ∀ b, b < w.heap.size → Z b) : ∃ col s x, ExE w w1 D B X col s x := by
 obtain ⟨⟨col, s, x, hE, he, hi, o0, o1, hle, hzz⟩, hu⟩ := h
 refine ⟨col, s, x, hE, ⟨fun i hi h2 => ?_, fun i hi' h2 => ?_, o0, by omega⟩, ?_, he, hO.after hu (fun b hb hn => hn (hz b hb)), fun b hb => hzz b (Nat.lt_of_lt_of_le hb hO.size) (hz b hb)⟩
 ·rw [he i hi]
  exact (by decide : ∀ i, i < 6 → exT 4 i = 2 → exEs 5 i ≠ []) i hi h2
 ·have h4 := (by decide : ∀ i, i < 6 → exT 4 i = 2 → i < 4) i hi' h2
  have := (hi i hi').2.2 h4
  unfold unsOf
  rw [this]
  simp
 ·unfold ordO
  rw [ordL_congr 10 (es' := exEs 5) (fun i hi => he i (stL_mem.1 hi).1)]
  decide +kernel
structure ExF (w w4 : World) (D B X : Nat) : Prop where
 nw : ∀ W, Old w4 W → Calls Tryz.prog 67 #[.pointer (some ⟨X, 0, none⟩), .string ⟨#[97]⟩] W fun e w' => e = .returned (.tuple #[.agg #[.int .i64 3, .string ⟨#[97]⟩, .bool false, .int .i64 3, .int .i64 0, .int .i64 18], .bool true]) ∧ Old W w'
 fr : ∀ W, Old w4 W → Calls Tryz.prog 27 #[.pointer (some ⟨B, 0, none⟩)] W fun e w' => e = .returned (.int .i64 5) ∧ W = w'
 ln : ∀ W, Old w4 W → Calls Tryz.prog 48 #[.pointer (some ⟨X, 0, none⟩)] W fun e w' => e = .returned (.int .i64 1) ∧ Old W w'
 u : Old w w4
structure ExG (w w2 : World) (D B X g c : Nat) (col : Col) (s : DevS) (x : IdxS) : Prop where
 e : ExE w w2 D B X col s x
 c0 : w2.cell? ⟨g, 0, none⟩ = some (.int .i64 0)
 c1 : w2.cell? ⟨g, 1, none⟩ = some (.int .i64 1)
 c2 : w2.cell? ⟨g, 2, none⟩ = some (.int .i64 2)
 cg : (col g).1 = 0
theorem ExE.order {w w1 : World} {D B X : Nat} {col : Col} {s : DevS} {x : IdxS} (h : ExE w w1 D B X col s x) :
 Calls Tryz.prog 24 #[.pointer (some ⟨B, 0, none⟩), .pointer (some ⟨X, 0, none⟩)] w1 fun e w2 => ∃ g c, e = .returned (.tuple #[.slice (some ⟨g, 0, none⟩) 3 c, .int .i64 0]) ∧ ExG w w2 D B X g c col s x := by
 refine (h.e.porder h.ok.ne).mono ?_
 rintro e w2 ⟨v, rfl, own, U, hg⟩
 rw [h.o] at own
 obtain ⟨g, c, rfl⟩ := own_block own (by decide)
 have hc := fun i y (hy : (intsV [0, 1, 2])[i]? = some y) => own.cells (g := g) rfl i y hy
 exact ⟨g, c, rfl, ⟨h.e.old U, h.ok, h.o, h.es, h.u.trans U, h.z⟩, hc 0 _ rfl, hc 1 _ rfl, hc 2 _ rfl, h.e.new g (hg g rfl)⟩
structure ExH (w w3 : World) (D B X g : Nat) : Prop where
 e : ∃ col s st M x, EIn w3 col 0 D B X 6 s 2 st M x ∧ EOk 6 s st x 50 ∧ ordO 6 st M x = [] ∧ M ⟨#[97]⟩ = [⟨3, ⟨#[97]⟩, false, 3, 0, 18⟩] ∧ sumL (fun i => (x.es i).length) 6 = 1 ∧ cntS st 6 0 = 5 ∧ (∀ b, b < w.heap.size → (col b).1 = 0) ∧ (col g).1 = 0
 u : Old w w3
 c0 : w3.cell? ⟨g, 0, none⟩ = some (.int .i64 0)
 c1 : w3.cell? ⟨g, 1, none⟩ = some (.int .i64 1)
 c2 : w3.cell? ⟨g, 2, none⟩ = some (.int .i64 2)
theorem ExG.run {w w2 : World} {D B X g c : Nat} {col : Col} {s : DevS} {x : IdxS} (h : ExG w w2 D B X g c col s x) :
 Calls Tryz.prog 25 #[.pointer (some ⟨D, 0, none⟩), .pointer (some ⟨B, 0, none⟩), .pointer (some ⟨X, 0, none⟩)] w2 fun e w3 => e = .returned (.tuple #[.int .i64 3, .int .i64 0]) ∧ ExH w w3 D B X g := by
 obtain ⟨⟨hE, ok, ho, hes, hu, hz⟩, c0, c1, c2, cg⟩ := h
 have hl := World.block_lt_of_cell? w2 _ c0
 simp only at hl
 refine (hE.prun ok (by rw [ho]; decide)).mono ?_
 rintro e w3 ⟨rfl, ⟨col', s', st', M', x', hE', hX, hst, -, ok', hk, -⟩, U⟩
 have hag := ord_again hX hst (by decide)
 rw [ho] at hX hst ok' ⊢
 have hM : M' = leftOf (leftOf (leftOf (exM 5) (x.es 0)) (x.es 1)) (x.es 2) := congrArg Prod.fst hX
 have hx : x'.es = dropE (dropE (dropE x.es 0) 1) 2 := congrArg Prod.snd hX
 have hs : st' = fun i => if i ∈ [0, 1, 2] then 0 else exT 4 i := funext hst
 have ng : ¬ EF col g := fun hf => by have := hf.1; omega
 refine ⟨rfl, ⟨col', s', st', M', x', hE', ⟨ok'.ne, ok'.du, ok'.o0, ok'.o1⟩, hag.2, ?_, ?_, ?_, fun b hb => by rw [hk b (Nat.lt_of_lt_of_le hb hu.size), hz b hb], by rw [hk g hl, cg]⟩, hu.after U (fun b hb hf => by have := hf.1; rw [hz b hb] at this; omega), U.cellOf c0 ng, U.cellOf c1 ng, U.cellOf c2 ng⟩
 ·rw [hM, hes 0 (by omega), hes 1 (by omega), hes 2 (by omega)]
  rfl
 ·have e3 : x'.es 3 = exEs 5 3 := by rw [hx]; exact hes 3 (by omega)
  have e4 : x'.es 4 = exEs 5 4 := by rw [hx]; exact hes 4 (by omega)
  have e5 : x'.es 5 = exEs 5 5 := by rw [hx]; exact hes 5 (by omega)
  have e0 : x'.es 0 = [] := by rw [hx]; rfl
  have e1 : x'.es 1 = [] := by rw [hx]; rfl
  have e2 : x'.es 2 = [] := by rw [hx]; rfl
  simp only [sumL]
  rw [e0, e1, e2, e3, e4, e5]
  rfl
 ·rw [hs]
  decide
theorem ExH.run {w w3 : World} {D B X g : Nat} (h : ExH w w3 D B X g) :
 Calls Tryz.prog 25 #[.pointer (some ⟨D, 0, none⟩), .pointer (some ⟨B, 0, none⟩), .pointer (some ⟨X, 0, none⟩)] w3 fun e w4 => e = .returned (.tuple #[.int .i64 0, .int .i64 0]) ∧ ExF w w4 D B X ∧ w4.cell? ⟨g, 0, none⟩ = some (.int .i64 0) ∧ w4.cell? ⟨g, 1, none⟩ = some (.int .i64 1) ∧ w4.cell? ⟨g, 2, none⟩ = some (.int .i64 2) := by
 obtain ⟨⟨col, s, st, M, x, hE, ok, ho, hM, hn, hc, hz, cg⟩, hu, c0, c1, c2⟩ := h
 refine (hE.prun ok (by rw [ho]; decide)).mono ?_
 rintro e w4 ⟨rfl, ⟨col', s', st', M', x', hE', hX, hst, -, ok', hk, -⟩, U⟩
 rw [ho] at hX hst ⊢
 have hM' : M' = M := congrArg Prod.fst hX
 have hx : x'.es = x.es := congrArg Prod.snd hX
 have hs : st' = st := funext fun i => by rw [hst]; rfl
 have ng : ¬ EF col g := fun hf => by have := hf.1; omega
 subst hM' hs
 refine ⟨rfl, ⟨fun W O => ?_, fun W O => ?_, fun W O => ?_, hu.after U (fun b hb hf => by have := hf.1; rw [hz b hb] at this; omega)⟩, U.cellOf c0 ng, U.cellOf c1 ng, U.cellOf c2 ng⟩
 ·obtain ⟨sv, hi⟩ := (hE'.old O).idx.ixk ⟨#[97]⟩
  rw [hM] at hi
  exact (newest_walk hi)
 ·have := (hE'.old O).tab.free
  rw [hc] at this
  exact this
 ·have := (hE'.old O).idx.ilen
  rw [hx, hn] at this
  exact this
set_option maxHeartbeats 4000000 in
theorem works36 {w : World} (hdb : DbAt w) (hse : SealAt w) (hdr : DropAt w) (hlo : LoadAt w) :
 Calls Tryz.prog 20 #[] w fun e w' => e = .returned (.bool true) ∧ Kpt w w' := by
 have HEX := Lib.hid (example36 hdb hse hdr hlo)
 have HIN : Hid (∀ {W : World} {g1 g2 c1 c2 : Nat}, W.cell? ⟨g1, 0, none⟩ = some (.int .i64 0) → W.cell? ⟨g1, 1, none⟩ = some (.int .i64 1) → W.cell? ⟨g1, 2, none⟩ = some (.int .i64 2) → W.cell? ⟨g2, 0, none⟩ = some (.int .i64 0) → W.cell? ⟨g2, 1, none⟩ = some (.int .i64 1) → W.cell? ⟨g2, 2, none⟩ = some (.int .i64 2) →
  Calls Tryz.prog 68 #[.slice (some ⟨g1, 0, none⟩) 3 c1, .slice (some ⟨g2, 0, none⟩) 3 c2] W fun e w' => e = .returned (.bool true) ∧ Old W w') := Lib.hid (fun a0 a1 a2 b0 b1 b2 => ints36 (L := [0, 1, 2]) (fun i y h => by
   match i, h with
   | 0, h => cases h; exact a0
   | 1, h => cases h; exact a1
   | 2, h => cases h; exact a2) (fun i y h => by
   match i, h with
   | 0, h => cases h; exact b0
   | 1, h => cases h; exact b1
   | 2, h => cases h; exact b2) (by decide))
 clear hdb hse hdr hlo
 go_enter Tryz.func20, Tryz.ntmps20
 go_wp2_with (first | (go_at_call 66; refine HEX.out.mono ?_; rintro e1 w1 ⟨D, B, X, rfl, Z, wb, a1, a2, a3⟩; have H1 := Lib.hid (ex_end a1 a2 a3); clear a1 a2 a3) | (go_at_call 24; obtain ⟨col, s, x, h1⟩ := H1.out; refine h1.order.mono ?_; rintro e2 w2 ⟨g, c, rfl, h2⟩; have H2 := Lib.hid h2; clear h1 h2) | (go_at_call 25; refine H2.out.run.mono ?_; rintro e3 w3 ⟨rfl, h3⟩; have H3 := Lib.hid h3; clear h3 H2) | (go_at_call 25; refine H3.out.run.mono ?_; rintro e4 w4 ⟨rfl, h4, a0, a1, a2⟩; have H4 := Lib.hid (And.intro h4 (And.intro a0 (And.intro a1 a2))); clear h4 a0 a1 a2 H3) | (go_at_call 67; refine (H4.out.1.nw _ (Upd.refl _ _)).mono ?_; rintro e5 w5 ⟨rfl, hU⟩; have q0 := Old.cellOf' hU H4.out.2.1; have q1 := Old.cellOf' hU H4.out.2.2.1; have q2 := Old.cellOf' hU H4.out.2.2.2; have ql := World.block_lt_of_cell? w5 _ q0; simp only at ql; have qn : ¬ g = w5.heap.size := (by omega); have H5 := Lib.hid hU; clear hU) | (go_at_call 68; refine (HIN.out (by go_simp) (by go_simp) (by go_simp) (by go_simp) (by go_simp) (by go_simp)).mono ?_; rintro e6 w6 ⟨rfl, hU⟩; have O6 : Hid (Old w4 w6) := (((H5.out.alloc _).alloc _).trans hU); have a3 : w6.cell? ⟨w5.heap.size, 3, none⟩ = some (.int .i64 3) := Old.cellOf' hU (by go_simp); clear hU) | (go_at_call 27; refine (H4.out.1.fr _ O6.out).mono ?_; rintro e7 w7 ⟨rfl, rfl⟩) | (go_at_call 48; refine (H4.out.1.ln _ O6.out).mono ?_; rintro e8 w8 ⟨rfl, hU⟩; have a3 := Old.cellOf' hU a3; have H8 := Lib.hid hU; clear hU))
 go_ret
 have U := H4.out.1.u.trans (O6.out.trans H8.out)
 exact ⟨rfl, fun b hb => U.keep b hb (fun x => x), U.os, U.out⟩
end Go.M
namespace Go.M
open Go.Proofs Go.RowKit Go.Maps
set_option linter.unusedSimpArgs false
variable {w : World} {col : Col} {PP D B X n r : Nat} {s : DevS} {st : Nat → Nat} {M : ByteArray → List Ent} {x : IdxS}
def EntS (n : Nat) (es : Nat → List Ent) : Prop := ∀ i, i < n → ∀ y ∈ es i, y.key.size ≤ 32 ∧ y.seq ≤ 1099511627776
theorem POk.ents {size zm : Nat} {es : Nat → List Ent} {o : Int} (h : POk n size zm s st es o) : EntS n es := fun i hi y hy => ⟨(h.ent i hi y hy).1.key.2.1, (h.ent i hi y hy).1.s2⟩
theorem fold_es : ∀ (L : List Nat) (Y : Ix) (i : Nat), (L.foldl dropX Y).2 i = if i ∈ L then [] else Y.2 i
 | [], Y, i => by simp
 | a :: L, Y, i => by
  rw [List.foldl_cons, fold_es L]
  unfold dropX dropE
  by_cases h1 : i ∈ L
  ·simp [h1]
  ·by_cases h2 : i = a
   ·subst h2; simp [h1]
   ·simp [h1, h2]
theorem EntS.fold {es es' : Nat → List Ent} {L : List Nat} {M' : ByteArray → List Ent} (h : EntS n es) (hX : (M', es') = L.foldl dropX (M, es)) : EntS n es' := fun i hi y hy => by
 have h1 : es' i = if i ∈ L then [] else es i := by rw [← fold_es L (M, es) i, ← hX]
 rw [h1] at hy
 split at hy
 ·cases hy
 ·exact h i hi y hy
def LivePost (w : World) (S : ByteArray → Option Nat) (e : Ending) (w' : World) : Prop := ∃ b k D, e = .returned (.map (some b)) ∧ OwnS w' b k D ∧ MapL D (fun _ => True) S ∧ w.heap.size ≤ b ∧ k ≤ 500 ∧ Old w w'
theorem EIn.lmap (h : EIn w col PP D B X n s r st M x) (hP : PP ≠ 0) (hs : EntS n x.es) :
 Calls Tryz.prog 23 #[.pointer (some ⟨PP, 0, none⟩)] w (LivePost w (seqM M)) := by
 obtain ⟨t, fX⟩ := h.idx.fX
 have hk := h.idx.kv
 refine live36 (by have := h.n4; omega) (h.cells hP).2.2.2.1 (fX.cell 0) (fX.cell 1) hk (fun q hq => ?_) (fun k y hy => ?_)
 ·obtain ⟨h1, h2⟩ := hk.mp q hq
  obtain ⟨y, hy⟩ := List.exists_mem_of_ne_nil _ h1
  rw [← h2] at hy
  obtain ⟨a, b, c⟩ := h.idx.con.b _ y hy
  rw [← a]
  exact (hs _ b y c).1
 ·obtain ⟨a, b, c⟩ := h.idx.con.b _ y hy
  exact (hs _ b y c).2
theorem seqM_fold {M' : ByteArray → List Ent} (hc : ∀ k, (liveOf (M' k)).map tellE = (liveOf (M k)).map tellE) : seqM M' = seqM M := by
 funext k
 have h1 : ∀ z : Option Ent, z.map (·.seq) = (z.map tellE).map (·.1) := fun z => by cases z <;> rfl
 unfold seqM
 rw [h1, h1, hc k]
theorem cntS_gone {st st' : Nat → Nat} {L : List Nat} (hn : L.Nodup) (hL : ∀ i ∈ L, i < n ∧ st i = 2) (hst : ∀ i, st' i = if i ∈ L then 0 else st i) : cntS st' n 0 = cntS st n 0 + L.length := by
 have hp : ((List.range n).filter fun i => st' i == 0).Perm (((List.range n).filter fun i => st i == 0) ++ L) := by
  refine (List.perm_ext_iff_of_nodup (List.nodup_range.filter _) (List.nodup_append.2 ⟨List.nodup_range.filter _, hn, fun a ha b hb e => ?_⟩)).2 (fun i => ?_)
  ·subst e
   have h1 := (List.mem_filter.1 ha).2
   have h2 := (hL a hb).2
   rw [h2] at h1
   cases h1
  ·rw [List.mem_append, List.mem_filter, List.mem_filter, List.mem_range, hst]
   by_cases hm : i ∈ L
   ·simp [hm, (hL i hm).1]
   ·simp [hm]
 have := hp.length_eq
 rw [List.length_append] at this
 exact this
end Go.M
namespace Go.M
open Go.Proofs Go.RowKit Go.Shelf Go.Maps
set_option linter.unusedSimpArgs false
attribute [local go_sem] Oper.semAt_some
theorem pp_ne {w : World} {PP D B X next : Nat} {k : Cf} (h : PpAt w PP k D B X next) (hd : DropAt w) : PP ≠ 0 := fun e => by
 obtain ⟨t, h⟩ := h
 have h0 : w.cell? ⟨PP, 0, none⟩ = some (.int .i64 ((k.n : Nat) : Int)) := h.cell 0
 rw [e, hd.1] at h0
 cases h0
theorem Kpt.has {w w' : World} {b : Nat} {t : TypeId} {c : Array Value} (k : Kpt w w') (h : Has w b t c) : Has w' b t c := (k.heap b h.lt).trans h
theorem Kpt.same {w w' : World} {b : Nat} {o : Obj} (k : Kpt w w') (h : w.heap[b]? = some o) : w'.heap[b]? = some o := (k.heap b (Array.getElem?_eq_some_iff.1 h).1).trans h
structure PmK (w : World) (ds : List Nat) (wr : World) : Prop where
 u : Old w wr
 h6 : Has wr (w.heap.size + 1) 4 #[.bool false]
 nd : ds.Nodup
 dm : ∀ D' ∈ ds, w.heap.size + 2 ≤ D' ∧ wr.heap[D']? = some (.deferred (some []))
theorem PmK.old {w wr wr' : World} {ds : List Nat} (h : PmK w ds wr) (U : Old wr wr') : PmK w ds wr' :=
 ⟨h.u.trans U, U.has h.h6, h.nd, fun D' hD => ⟨(h.dm D' hD).1, by have e := (h.dm D' hD).2; exact (U.keep D' (Array.getElem?_eq_some_iff.1 e).1 (fun x => x)).trans e⟩⟩
theorem PmK.ef {w wr wr' : World} {col : Col} {ds : List Nat} (h : PmK w ds wr) (U : Upd (EF col) wr wr') (hc : ∀ b, b < w.heap.size + 2 → (col b).1 = 0) (hd : ds = []) : PmK w ds wr' := by
 subst hd
 have n0 : ∀ b, (col b).1 = 0 → ¬ EF col b := fun b hb h => by unfold EF at h; omega
 exact ⟨h.u.after U (fun b hb hf => (n0 b (hc b (by omega)) hf).elim), U.has h.h6 (n0 _ (hc _ (by omega))), h.nd, fun D' hD => (by cases hD)⟩
theorem pm_cells {w w' : World} {col : Col} {PP D B X n r : Nat} {s : DevS} {st : Nat → Nat} {M : ByteArray → List Ent} {x : IdxS} {o : Int} {L : List Nat} (h : RuS w col PP D B X n r s st M x o L w') (hP : PP ≠ 0) : w'.cell? ⟨PP, 7, none⟩ = some (.pointer (some ⟨D, 0, none⟩)) ∧ w'.cell? ⟨PP, 8, none⟩ = some (.pointer (some ⟨B, 0, none⟩)) ∧ w'.cell? ⟨PP, 9, none⟩ = some (.pointer (some ⟨X, 0, none⟩)) := by
 obtain ⟨⟨col', s', st', M', x', hE, -⟩, -⟩ := h
 obtain ⟨-, a, b, c, -⟩ := hE.cells hP
 exact ⟨a, b, c⟩
structure PmA (w : World) (PP D B X PP' D' B' X' n r : Nat) (s : DevS) (st : Nat → Nat) (M : ByteArray → List Ent) (x : IdxS) (OB : Nat) (va : Option Addr) (vc : Nat) (W : World) : Prop where
 k : PmK w [] W
 p : ∃ col s' st' M' x', EIn W col PP D B X n s' r st' M' x' ∧ (M', x'.es) = (ordO n st M x).foldl dropX (M, x.es) ∧ (∀ i, st' i = if i ∈ ordO n st M x then 0 else st i) ∧ (∀ i, i < n → (s'.img i).bs = if i ∈ ordO n st M x then [] else (s.img i).bs) ∧ EOk n s' st' x' 790 ∧ ∀ b, b < w.heap.size + 2 → (col b).1 = 0
 q : ∃ col x', EIn W col PP' D' B' X' n s r st M x' ∧ x'.es = x.es
 o : Has W OB 48 #[.slice va (ordO n st M x).length vc]
 w : W.ownsRow 0 3 1 (.slice va (ordO n st M x).length vc) (ordO n st M x).length (intsV (ordO n st M x))
theorem PmA.old {w W W' : World} {PP D B X PP' D' B' X' n r OB vc : Nat} {s : DevS} {st : Nat → Nat} {M : ByteArray → List Ent} {x : IdxS} {va : Option Addr} (h : PmA w PP D B X PP' D' B' X' n r s st M x OB va vc W) (U : Old W W') : PmA w PP D B X PP' D' B' X' n r s st M x OB va vc W' := by
 obtain ⟨h1, ⟨col, s', st', M', x', h2, h3⟩, ⟨col2, x2, h4, h5⟩, h6, h7⟩ := h
 exact ⟨h1.old U, ⟨col, s', st', M', x', h2.old U, h3⟩, ⟨col2, x2, h4.old U, h5⟩, U.has h6, Upd.own U h7 (fun _ _ x => x)⟩
def XcP (n : Nat) (M : ByteArray → List Ent) (x : IdxS) (W : World) (e : Ending) (w' : World) : Prop := ∃ C c x2, e = .returned (.pointer (some ⟨C, 0, none⟩)) ∧ Old W w' ∧ x2.es = x.es ∧ ∀ col', Newly W w' c col' → IdxC w' col' 3 C n M x2
theorem PmA.xcopy {w W : World} {PP D B X PP' D' B' X' n r OB vc : Nat} {s : DevS} {st : Nat → Nat} {M : ByteArray → List Ent} {x : IdxS} {va : Option Addr} (h : PmA w PP D B X PP' D' B' X' n r s st M x OB va vc W) :
 Calls Tryz.prog 28 #[.pointer (some ⟨X', 0, none⟩)] W (XcP n M x W) := by
 obtain ⟨col6, x6, q1, q2⟩ := h.q
 refine (q1.idx.copy 3).mono ?_
 rintro e w' ⟨C, c, x2, a1, a2, a3, a4⟩
 exact ⟨C, c, x2, a1, a2, a3.trans q2, a4⟩
theorem pm_a {w w1 W5 w6 : World} {col col' : Col} {PP D B X PP' D' B' X' n r OB vc : Nat} {s : DevS} {st : Nat → Nat} {M : ByteArray → List Ent} {x x' : IdxS} {va : Option Addr}
 (hk : PmK w [] w1) (hc : ∀ b, b < w.heap.size + 2 → (col b).1 = 0) (hE : EIn w1 col PP D B X n s r st M x) (U15 : Old w1 W5) (hS : RuS W5 col PP D B X n r s st M x 700 (ordO n st M x) w6)
 (hQ : EIn W5 col' PP' D' B' X' n s r st M x') (hxe : x'.es = x.es) (hnw : ∀ b, (col' b).1 ≠ 0 → w1.heap.size ≤ b)
 (hO : Has W5 OB 48 #[.slice va (ordO n st M x).length vc]) (hw : W5.ownsRow 0 3 1 (.slice va (ordO n st M x).length vc) (ordO n st M x).length (intsV (ordO n st M x))) (h1 : w1.heap.size ≤ OB) (h2 : ∀ b, (Value.slice va (ordO n st M x).length vc).ownBlock = some b → w1.heap.size ≤ b) :
 PmA w PP D B X PP' D' B' X' n r s st M x OB va vc w6 := by
 have n0 : ∀ b, (col b).1 = 0 → ¬ EF col b := fun b hb h => by unfold EF at h; omega
 have n1 : ∀ b, w1.heap.size ≤ b → ¬ EF col b := fun b hb => n0 b (hE.new b hb)
 obtain ⟨⟨col6, s', st', M', x6, e1, e2, e3, e4, e5, e6, -⟩, U⟩ := hS
 have hl : (ordO n st M x).length ≤ 9 := by
  obtain ⟨hnd, hmem⟩ := ordO_len n st M x
  have := List.Nodup.length_le_of_subset hnd (fun i hi => List.mem_range.2 (hmem i hi).1)
  rw [List.length_range] at this
  have := hE.n9
  omega
 refine ⟨(hk.old U15).ef U hc rfl, ⟨col6, s', st', M', x6, e1, e2, e3, e4, ⟨e5.ne, e5.du, e5.o0, by have := e5.o1; omega⟩, fun b hb => ?_⟩, ⟨col', x', hQ.box U (fun b hb => ?_) ⟨n0 _ hE.gl.c1, n0 _ hE.gl.c2, n0 _ hE.gl.c3⟩, hxe⟩, U.has hO (n1 _ h1), Upd.own U hw (fun b hb => n1 b (h2 b hb))⟩
 ·have := hk.h6.lt
  have := U15.size
  rw [e6 b (by omega), hc b hb]
 ·exact Classical.byContradiction fun hne => n1 b (hnw b hne) hb
def OrdF (w3 : World) (L : List Nat) (f : Nat → Value) (W : World) : Prop := ∃ (OB : Nat) (va : Option Addr) (vc : Nat), f 11 = .pointer (some ⟨OB, 0, none⟩) ∧ f 12 = .int .i64 0 ∧ Has W OB 48 #[.slice va L.length vc] ∧ W.ownsRow 0 3 1 (.slice va L.length vc) L.length (intsV L) ∧ Old w3 W ∧ w3.heap.size ≤ OB ∧ ∀ b, (Value.slice va L.length vc).ownBlock = some b → w3.heap.size ≤ b ∧ b ≠ OB
theorem ord_a {w3 w4 : World} {L : List Nat} {va : Option Addr} {vc : Nat} (d : Has w4 w3.heap.size 48 #[.slice none 0 0]) (h1 : w4.ownsRow 0 3 1 (.slice va L.length vc) L.length (intsV L)) (U : Old w3 w4) (h3 : ∀ b, (Value.slice va L.length vc).ownBlock = some b → w3.heap.size + 1 ≤ b) :
 ∀ f : Nat → Value, f 11 = .pointer (some ⟨w3.heap.size, 0, none⟩) → f 12 = .int .i64 0 → OrdF w3 L f (w4.setCell ⟨w3.heap.size, 0, none⟩ (.slice va L.length vc)) := fun f e1 e2 => by
 have U2 : Upd (fun b => b = w3.heap.size) w4 (w4.setCell ⟨w3.heap.size, 0, none⟩ (.slice va L.length vc)) := (Upd.refl _ _).setCell _ _ (.inl rfl)
 exact ⟨_, va, vc, e1, e2, by simpa using d.set 0 (.slice va L.length vc), Upd.own U2 h1 (fun b hb e => by have := h3 b hb; omega), U.setCell _ _ (.inr (Nat.le_refl _)), Nat.le_refl _, fun b hb => by have := h3 b hb; omega⟩
theorem ord_b {w3 w4 : World} {L : List Nat} {va : Option Addr} {vc : Nat} (h1 : w4.ownsRow 0 3 1 (.slice va L.length vc) L.length (intsV L)) (U : Old w3 w4) (h3 : ∀ b, (Value.slice va L.length vc).ownBlock = some b → w3.heap.size ≤ b) :
 ∀ f : Nat → Value, f 11 = .pointer (some ⟨w4.heap.size, 0, none⟩) → f 12 = .int .i64 0 → OrdF w3 L f (w4.alloc (.cells #[.slice va L.length vc] 48)) := fun f e1 e2 =>
 ⟨_, va, vc, e1, e2, Has.new w4 _ _, Upd.own ((Upd.refl (fun _ => False) w4).alloc _) h1 (fun _ _ x => x), U.alloc _, U.size, fun b hb => ⟨h3 b hb, by obtain ⟨cur, hc⟩ := own_has' h1 hb; have := hc.lt; omega⟩⟩
theorem pm_end {w wr w2 W' : World} {ds : List Nat} {v : Value} (h : Old w wr) (k : Kpt wr w2) (hd : ∀ D ∈ ds, w.heap.size + 2 ≤ D) (U : Upd (fun b => b ∈ ds) (w2.setCell ⟨w.heap.size + 1, 0, none⟩ v) W') : Kpt w W' := by
 have k2 := Upd.kpt h k
 refine ⟨fun b hb => ?_, ?_, ?_⟩
 ·have e1 := k2.heap b hb
  have l1 : b < w2.heap.size := by
   rw [Array.getElem?_eq_getElem hb] at e1
   exact (Array.getElem?_eq_some_iff.1 e1).1
  rw [U.keep b (by simpa using l1) (fun hm => by have := hd b hm; omega), ← e1]
  have : w.heap.size + 1 ≠ b := by omega
  simp [World.setCell, Array.getElem?_modify, this]
 ·exact U.os.trans k2.os
 ·exact U.out.trans k2.out
theorem pm_leave {w wr w2 : World} {ds : List Nat} {tmps : Array Value} (h : PmK w ds wr) (hk : Kpt wr w2) (ht : tmps[6]? = some (.pointer (some ⟨w.heap.size + 1, 0, none⟩))) :
 LeavesInM Fence.wide 8 Tryz.prog Tryz.f4 tmps (fun e w' => e = .returned (.bool true) ∧ Kpt w w') (ds.map fun D => { target := .collected D, args := #[] }) .returning (w2.setCell ⟨w.heap.size + 1, 0, none⟩ (.bool true)) := by
 have c6 := (hk.has h.h6).set 0 (.bool true)
 refine leaves_marks ds _ (fun D' hD => ?_) h.nd (fun W' U => ?_)
 ·have e := hk.same (h.dm D' hD).2
  have hne := (h.dm D' hD).1
  have l := (Array.getElem?_eq_some_iff.1 e).1
  rw [← e]
  have : w.heap.size + 1 ≠ D' := by omega
  simp [World.setCell, Array.getElem?_modify, this]
 ·have c7 : Has W' (w.heap.size + 1) _ _ := U.has c6 (fun hm => by have := (h.dm _ hm).1; omega)
  have c8 : W'.cell? ⟨w.heap.size + 1, 0, none⟩ = some (.bool true) := by rw [c7.cell]; rfl
  have ht' : tmps[6]?.getD undef = .pointer (some ⟨w.heap.size + 1, 0, none⟩) := by rw [ht]; rfl
  exact ⟨.bool true, by simp [results, Tryz.f4, ht', go_sem, c8], rfl, pm_end h.u hk (fun D hD => (h.dm D hD).1) U⟩
theorem pm_fin {w w8 wr w14 : World} {col : Col} {ds : List Nat} (k : PmK w [] wr) (hd : ∀ D ∈ ds, w8.heap.size + 2 ≤ D ∧ wr.heap[D]? = some (.deferred (some []))) (nd : ds.Nodup) (U : Upd (EF col) wr w14) (hc : ∀ b, b < w.heap.size + 2 → (col b).1 = 0) (hn : ∀ b, w8.heap.size ≤ b → (col b).1 = 0) (hw : w.heap.size + 1 < w8.heap.size) : PmK w ds w14 := by
 have n0 : ∀ b, (col b).1 = 0 → ¬ EF col b := fun b hb h => by unfold EF at h; omega
 obtain ⟨u, h6, -, -⟩ := k.ef U hc rfl
 exact ⟨u, h6, nd, fun D hD => by
  obtain ⟨h1, h2⟩ := hd D hD
  exact ⟨by omega, (U.keep D (Array.getElem?_eq_some_iff.1 h2).1 (n0 _ (hn D (by omega)))).trans h2⟩⟩
def roA : Oper := { dst := some 240, op := .convert 77 9 (.tmp 239), type := 9, pos := "outright.go:107", after := #[{ on := 6, ground := .data }, { on := 3, ground := .guard }], guard := some (3, false) }
theorem roA_eq : roA = { dst := some 240, op := .convert 77 9 (.tmp 239), type := 9, pos := "outright.go:107", after := #[{ on := 6, ground := .data }, { on := 3, ground := .guard }], guard := some (3, false) } := rfl
def roB : Oper := { dst := some 244, op := .convert 77 9 (.tmp 243), type := 9, pos := "outright.go:107", after := #[{ on := 10, ground := .data }, { on := 3, ground := .guard }], guard := some (3, false) }
theorem roB_eq : roB = { dst := some 244, op := .convert 77 9 (.tmp 243), type := 9, pos := "outright.go:107", after := #[{ on := 10, ground := .data }, { on := 3, ground := .guard }], guard := some (3, false) } := rfl
def roC : Oper := { dst := some 255, op := .move (.tmp 26), type := 4, pos := "outright.go:107", after := #[{ on := 21, ground := .guard }], guard := some (21, true) }
theorem roC_eq : roC = { dst := some 255, op := .move (.tmp 26), type := 4, pos := "outright.go:107", after := #[{ on := 21, ground := .guard }], guard := some (21, true) } := rfl
theorem bytes_none {w : World} {a : Option Addr} {n c : Nat} (h : BytesAt w (.slice a n c) []) : n = 0 := by
 rcases h with ⟨h, _⟩ | ⟨ad, c', h, _⟩
 ·injection h
 ·injection h
def pmA (H PP PQ OB GC XC IC : Nat) (f : Nat → Value) (ds : List Nat) : Act := { tmps := #[f 0, f 1, f 2, f 3, f 4, f 5, .pointer (some ⟨H, 0, none⟩), .pointer (some ⟨PP, 0, none⟩), f 8, .pointer (some ⟨PQ, 0, none⟩), f 10, .pointer (some ⟨OB, 0, none⟩), f 12, f 13, f 14, .pointer (some ⟨GC, 0, none⟩), .pointer (some ⟨XC, 0, none⟩), .pointer (some ⟨IC, 0, none⟩), f 18, f 19, f 20, f 21, f 22, f 23, f 24, f 25, f 26, f 27, f 28, f 29, f 30, f 31, f 32, f 33, f 34, f 35, f 36, f 37, f 38, f 39, f 40, f 41, f 42, f 43, f 44, f 45, f 46, f 47, f 48, f 49, f 50, f 51, f 52, f 53, f 54, f 55, f 56, f 57, f 58, f 59, f 60, f 61, f 62, f 63, f 64, f 65, f 66, f 67, f 68, f 69, f 70, f 71, f 72, f 73, f 74, f 75, f 76, f 77, f 78, f 79, f 80, f 81, f 82, f 83, f 84, f 85, f 86, f 87, f 88, f 89, f 90, f 91, f 92, f 93, f 94, f 95, f 96, f 97, f 98, f 99, f 100, f 101, f 102, f 103, f 104, f 105, f 106, f 107, f 108, f 109, f 110, f 111, f 112, f 113, f 114, f 115, f 116, f 117, f 118, f 119, f 120, f 121, f 122, f 123, f 124, f 125, f 126, f 127, f 128, f 129, f 130, f 131, f 132, f 133, f 134, f 135, f 136, f 137, f 138, f 139, f 140, f 141, f 142, f 143, f 144, f 145, f 146, f 147, f 148, f 149, f 150, f 151, f 152, f 153, f 154, f 155, f 156, f 157, f 158, f 159, f 160, f 161, f 162, f 163, f 164, f 165, f 166, f 167, f 168, f 169, f 170, f 171, f 172, f 173, f 174, f 175, f 176, f 177, f 178, f 179, f 180, f 181, f 182, f 183, f 184, f 185, f 186, f 187, f 188, f 189, f 190, f 191, f 192, f 193, f 194, f 195, f 196, f 197, f 198, f 199, f 200, f 201, f 202, f 203, f 204, f 205, f 206, f 207, f 208, f 209, f 210, f 211, f 212, f 213, f 214, f 215, f 216, f 217, f 218, f 219, f 220, f 221, f 222, f 223, f 224, f 225, f 226, f 227, f 228, f 229, f 230, f 231, f 232, f 233, f 234, f 235, f 236, f 237, f 238, f 239, f 240, f 241, f 242, f 243, f 244, f 245, f 246, f 247, f 248, f 249, f 250, f 251, f 252, f 253, f 254, f 255, f 256, f 257, f 258, f 259, f 260, f 261, f 262, f 263, f 264, f 265, f 266, f 267, f 268, f 269, f 270, f 271, f 272, f 273, f 274, f 275, f 276, f 277, f 278, f 279, f 280, f 281, f 282, f 283, f 284, f 285, f 286, f 287, f 288, f 289, f 290, f 291, f 292, f 293, f 294, f 295, f 296], defers := ds.map fun D => { target := .collected D, args := #[] } }
theorem pmA_of {a : Act} {H PP PQ OB GC XC IC : Nat} {ds : List Nat} (h : a = pmA H PP PQ OB GC XC IC (fun i => a.tmps.getD i undef) ds) : ∃ f, a = pmA H PP PQ OB GC XC IC f ds := ⟨_, h⟩
def cellI (a : Act) (W : World) : Nat := match a.tmps.getD 17 undef with
 | .pointer (some ad) => (match W.cell? ad with | some v => (intOf v).toNat | none => 0)
 | _ => 0
theorem cellI_of {a : Act} {W : World} {IC iv : Nat} {t : TypeId} (e : a.tmps.getD 17 undef = .pointer (some ⟨IC, 0, none⟩)) (h : Has W IC t #[.int .i64 ((iv : Nat) : Int)]) : cellI a W = iv := by
 have hc : W.cell? ⟨IC, 0, none⟩ = some (.int .i64 ((iv : Nat) : Int)) := h.cell 0
 unfold cellI
 rw [e]
 simp only [hc]
 simp [intOf]
structure PmL (w8 : World) (n : Nat) (M : ByteArray → List Ent) (x : IdxS) (L : List Nat) (C XC IC j iv : Nat) (ds : List Nat) (wr : World) : Prop where
 u : Old w8 wr
 g : ∃ D, OwnB wr w8.heap.size j D ∧ MapB D (L.take j)
 gc : Has wr (w8.heap.size + 1) 70 #[.map (some w8.heap.size)]
 xc : Has wr XC 39 #[.pointer (some ⟨C, 0, none⟩)]
 ic : Has wr IC 3 #[.int .i64 ((iv : Nat) : Int)]
 nd : ds.Nodup
 dm : ∀ D ∈ ds, w8.heap.size + 2 ≤ D ∧ wr.heap[D]? = some (.deferred (some []))
 gl : w8.heap.size + 1 < XC ∧ w8.heap.size + 1 < IC ∧ IC ≠ XC
 ix : ∃ colx Mi xi, IdxC wr colx 3 C n Mi xi ∧ (Mi, xi.es) = (L.take j).foldl dropX (M, x.es) ∧ (∀ b, wr.heap.size ≤ b → (colx b).1 = 0) ∧ (∀ b, b < w8.heap.size + 2 → (colx b).1 = 0) ∧ ∀ b ∈ IC :: XC :: ds, (colx b).1 = 0
theorem PmL.old {w8 wr wr' : World} {n : Nat} {M : ByteArray → List Ent} {x : IdxS} {L : List Nat} {C XC IC j iv : Nat} {ds : List Nat} (h : PmL w8 n M x L C XC IC j iv ds wr) (U : Old wr wr') : PmL w8 n M x L C XC IC j iv ds wr' := by
 obtain ⟨a1, ⟨D, a2, a3⟩, a4, a5, a6, a7, a8, a9, ⟨colx, Mi, xi, b1, b2, b3, b4, b5⟩⟩ := h
 exact ⟨a1.trans U, ⟨D, a2.upd U (fun x => x), a3⟩, U.has a4, U.has a5, U.has a6, a7, fun D hD => ⟨(a8 D hD).1, by have e := (a8 D hD).2; exact (U.keep D (Array.getElem?_eq_some_iff.1 e).1 (fun x => x)).trans e⟩, a9, ⟨colx, Mi, xi, b1.other U (fun _ x => x.elim) (Kept.refl _ _), b2, fun b hb => b3 b (Nat.le_trans U.size hb), b4, b5⟩⟩
theorem not_mem_take {L : List Nat} (hn : L.Nodup) {j y : Nat} (hy : L[j]? = some y) : y ∉ L.take j := fun hm => by
 obtain ⟨i, hi, he⟩ := List.getElem_of_mem hm
 rw [List.getElem_take] at he
 rw [List.length_take] at hi
 obtain ⟨hj, hy⟩ := List.getElem?_eq_some_iff.1 hy
 have := (List.getElem_inj hn).1 (he.trans hy.symm)
 omega
theorem PmL.mark {w8 wr V : World} {n : Nat} {M : ByteArray → List Ent} {x : IdxS} {L : List Nat} {C XC IC j iv Dm : Nat} {ds : List Nat} (h : PmL w8 n M x L C XC IC j iv ds wr) (U : Old wr V) (hD : wr.heap.size ≤ Dm) (hK : V.heap[Dm]? = some (.deferred (some []))) : PmL w8 n M x L C XC IC j iv (Dm :: ds) V := by
 have hz := h.u.size
 have hl := h.gc.lt
 obtain ⟨a1, ⟨D0, d1, d2⟩, a4, a5, a6, a7, a8, a9, ⟨colx, Mi, xi, b1, b2, b3, b4, b5⟩⟩ := h
 refine ⟨a1.trans U, ⟨D0, d1.upd U (fun x => x), d2⟩, U.has a4, U.has a5, U.has a6, List.nodup_cons.2 ⟨fun hm => ?_, a7⟩, fun D hd => ?_, a9, ⟨colx, Mi, xi, b1.other U (fun _ x => x.elim) (Kept.refl _ _), b2, fun b hb => b3 b (Nat.le_trans U.size hb), b4, fun b hb => ?_⟩⟩
 ·have := (Array.getElem?_eq_some_iff.1 (a8 Dm hm).2).1
  omega
 ·rcases List.mem_cons.1 hd with rfl | hd
  ·exact ⟨by omega, hK⟩
  ·exact ⟨(a8 D hd).1, by have e := (a8 D hd).2; exact (U.keep D (Array.getElem?_eq_some_iff.1 e).1 (fun x => x)).trans e⟩
 ·rcases List.mem_cons.1 hb with rfl | hb
  ·exact b5 _ (by simp)
  ·rcases List.mem_cons.1 hb with rfl | hb
   ·exact b5 _ (by simp)
   ·rcases List.mem_cons.1 hb with rfl | hb
    ·exact b3 _ hD
    ·exact b5 _ (by simp [hb])
theorem PmL.gone {w8 wr : World} {n : Nat} {M : ByteArray → List Ent} {x : IdxS} {L : List Nat} {C XC IC j iv y : Nat} {ds : List Nat} (h : PmL w8 n M x L C XC IC j iv ds wr) (hy : L[j]? = some y) (hj : j ≤ 1000) (hyn : y < n) (hn10 : n ≤ 10) (hne : (((L.take j).foldl dropX (M, x.es)).2 y) ≠ []) :
 ∃ w12, (Instr.mapUpdate 70 (.map (some w8.heap.size)) (.int .i64 ((y : Nat) : Int)) (.bool true)).run Tryz.prog wr.drew = .ok () w12 ∧ Has w12 IC 3 #[.int .i64 ((iv : Nat) : Int)] ∧ Has w12 XC 39 #[.pointer (some ⟨C, 0, none⟩)] ∧ Has w12 (w8.heap.size + 1) 70 #[.map (some w8.heap.size)] ∧ Old w8 w12 ∧
  ∀ W, Old w12 W → Calls Tryz.prog 31 #[.pointer (some ⟨C, 0, none⟩), .int .i64 ((y : Nat) : Int)] W fun e w' => (∃ k : Int, e = .returned (.tuple #[.int .i64 k, .int .i64 0])) ∧ PmL w8 n M x L C XC IC (j + 1) iv ds w' := by
 obtain ⟨a1, ⟨D, d1, d2⟩, a4, a5, a6, a7, a8, a9, ⟨colx, Mi, xi, b1, b2, b3, b4, b5⟩⟩ := h
 obtain ⟨w12, hrun, hown, hgr⟩ := World.ownsMap.update (w := wr.drew) d1 (int_keyed Tryz.underlying3) Tryz.underlying70 (by unfold maxLen; omega) (keyOf_int_mk Tryz.underlying3 (wf_nat (by omega : y ≤ 1000))) (plainElem_bool Tryz.underlying4 true)
 have U : Upd (fun b => b = w8.heap.size) wr w12 := (Upd.drew (Upd.refl _ wr)).grown hgr (fun k e => .inl (Option.some.inj e).symm)
 have lgc := a4.lt
 have hO : Old w8 w12 := a1.after U (fun b hb e => by omega)
 have i12 : IdxC w12 colx 3 C n Mi xi := b1.other U (fun b hb => by rw [hb, b4 _ (by omega)]; decide) (Kept.refl _ _)
 have hIC := U.has a6 (by omega)
 have hXC := U.has a5 (by omega)
 have hGC := U.has a4 (by omega)
 have hfm : ∀ D ∈ ds, w12.heap[D]? = some (.deferred (some [])) := fun D hD => by
  obtain ⟨h1, h2⟩ := a8 D hD
  exact (U.keep D (Array.getElem?_eq_some_iff.1 h2).1 (by omega)).trans h2
 have n12 : ∀ b, w12.heap.size ≤ b → (colx b).1 = 0 := fun b hb => b3 b (Nat.le_trans U.size hb)
 have e1 : Mi = ((L.take j).foldl dropX (M, x.es)).1 := congrArg Prod.fst b2
 have e2 : xi.es = ((L.take j).foldl dropX (M, x.es)).2 := congrArg Prod.snd b2
 have htk : L.take (j + 1) = L.take j ++ [y] := by rw [List.take_add_one, hy]; rfl
 refine ⟨w12, hrun, hIC, hXC, hGC, hO, fun W UW => ?_⟩
 have iW := i12.other UW (fun _ x => x.elim) (Kept.refl _ _)
 refine (iW.drop hyn (by rw [e2]; exact hne) (fun b hb => n12 b (Nat.le_trans UW.size hb)) (by decide)).mono ?_
 rintro e w' ⟨hk, UD, col2, x3, i3, ⟨hx3, -⟩, hkc, hn3, hq3⟩
 have n0 : ∀ b, (colx b).1 = 0 → ¬ (colx b).1 = 3 := fun b h e => by omega
 have zs : ∀ b, b < W.heap.size → (colx b).1 = 0 → (col2 b).1 = 0 := fun b hb h => by rw [hkc b hb, h]
 have l1 := (UW.has hIC).lt
 have l2 := (UW.has hXC).lt
 have l3 := (UW.has hGC).lt
 refine ⟨hk, ⟨(hO.trans UW).after UD (fun b hb e => by have := b4 b (by omega); omega), ⟨D.put (iLit y) (.lit (.bool true)), ?_, ?_⟩, UD.has (UW.has hGC) (n0 _ (b4 _ (by omega))), UD.has (UW.has hXC) (n0 _ (b5 _ (by simp))), UD.has (UW.has hIC) (n0 _ (b5 _ (by simp))), a7, fun D hD => ⟨(a8 D hD).1, ?_⟩, a9, ⟨col2, _, x3, i3, ?_, hn3, fun b hb => zs b (by omega) (b4 b hb), fun b hb => ?_⟩⟩⟩
 ·exact (OwnB.upd (OwnB.upd hown UW (fun x => x)) UD (n0 _ (b4 _ (by omega))))
 ·rw [htk]
  exact d2.put (World.ownsMap.isMap d1) y
 ·have e3 := (UW.keep D (Array.getElem?_eq_some_iff.1 (hfm D hD)).1 (fun x => x)).trans (hfm D hD)
  exact (UD.keep D (Array.getElem?_eq_some_iff.1 e3).1 (n0 _ (b5 D (by simp [hD])))).trans e3
 ·rw [htk, List.foldl_append]
  show _ = dropX ((L.take j).foldl dropX (M, x.es)) y
  rw [← b2]
  show (leftOf Mi (xi.es y), x3.es) = (leftOf Mi (xi.es y), dropE xi.es y)
  rw [hx3]
 ·refine zs b ?_ (b5 b hb)
  rcases List.mem_cons.1 hb with rfl | hb
  ·exact l1
  ·rcases List.mem_cons.1 hb with rfl | hb
   ·exact l2
   ·have e3 := (UW.keep b (Array.getElem?_eq_some_iff.1 (hfm b hb)).1 (fun x => x)).trans (hfm b hb)
    exact (Array.getElem?_eq_some_iff.1 e3).1
theorem PmL.step {w8 wr : World} {n : Nat} {M : ByteArray → List Ent} {x : IdxS} {L : List Nat} {C XC IC j iv : Nat} {ds : List Nat} (h : PmL w8 n M x L C XC IC j iv ds wr) (v : Nat) : PmL w8 n M x L C XC wr.heap.size j v ds (wr.alloc (.cells #[.int .i64 ((v : Nat) : Int)] 3)) := by
 have l1 := h.xc.lt
 have l2 := h.gc.lt
 have n9 : (∃ colx : Col, True) := ⟨fun _ => (0, 0), trivial⟩
 obtain ⟨a1, a2, a4, a5, a6, a7, a8, a9, ⟨colx, Mi, xi, b1, b2, b3, b4, b5⟩⟩ := h
 have U : Old wr (wr.alloc (.cells #[.int .i64 ((v : Nat) : Int)] 3)) := (Upd.refl _ wr).alloc _
 obtain ⟨D, d1, d2⟩ := a2
 refine ⟨a1.trans U, ⟨D, d1.upd U (fun x => x), d2⟩, U.has a4, U.has a5, Has.new wr _ _, a7, fun D hD => ⟨(a8 D hD).1, by have e := (a8 D hD).2; exact (U.keep D (Array.getElem?_eq_some_iff.1 e).1 (fun x => x)).trans e⟩, ⟨a9.1, by omega, by omega⟩, ⟨colx, Mi, xi, b1.other U (fun _ x => x.elim) (Kept.refl _ _), b2, fun b hb => b3 b (Nat.le_trans U.size hb), b4, fun b hb => ?_⟩⟩
 rcases List.mem_cons.1 hb with rfl | hb
 ·exact b3 _ (Nat.le_refl _)
 ·exact b5 b (List.mem_cons_of_mem _ hb)
theorem pml_start {w8 w9 : World} {n C : Nat} {M : ByteArray → List Ent} {x x2 : IdxS} {L : List Nat} {cc : Col} (hU : Old ((w8.alloc (.map #[] 0)).alloc (.cells #[.map (some w8.heap.size)] 70)) w9) (hx : x2.es = x.es) (hi : ∀ col', Newly ((w8.alloc (.map #[] 0)).alloc (.cells #[.map (some w8.heap.size)] 70)) w9 cc col' → IdxC w9 col' 3 C n M x2) :
 PmL w8 n M x L C w9.heap.size (w9.heap.size + 1) 0 0 [] ((w9.alloc (.cells #[.pointer (some ⟨C, 0, none⟩)] 39)).alloc (.cells #[.int .i64 0] 3)) := by
 have U9 : Old w8 w9 := (((Upd.refl _ w8).alloc _).alloc _).trans hU
 have z9 := hU.size
 simp only [World.size_alloc] at z9
 have U2 : Old w9 ((w9.alloc (.cells #[.pointer (some ⟨C, 0, none⟩)] 39)).alloc (.cells #[.int .i64 0] 3)) := ((Upd.refl _ w9).alloc _).alloc _
 have i1 := Has.new (w9.alloc (.cells #[.pointer (some ⟨C, 0, none⟩)] 39)) 3 #[.int .i64 0]
 rw [World.size_alloc] at i1
 have g1 := World.ownsMap_made (H := Unit) w8 Tryz.prog 3 (plainElem Tryz.prog 4)
 have hg : OwnB ((w8.alloc (.map #[] 0)).alloc (.cells #[.map (some w8.heap.size)] 70)) w8.heap.size 0 (.map []) := g1.alloc _
 have c1 := Has.new (w8.alloc (.map #[] 0)) 70 #[.map (some w8.heap.size)]
 rw [World.size_alloc] at c1
 have hz : ∀ b, (fun b => if b < w8.heap.size + 2 then ((0, 0) : Nat × Nat) else if b < w9.heap.size then cc b else (0, 0) : Col) b = (fun b => if b < w8.heap.size + 2 then ((0, 0) : Nat × Nat) else if b < w9.heap.size then cc b else (0, 0) : Col) b := fun _ => rfl
 refine ⟨U9.trans U2, ⟨.map [], (OwnB.upd hg hU (fun x => x)).upd U2 (fun x => x), MapB.empty⟩, U2.has (hU.has c1), (Has.new w9 _ _).alloc _, i1, List.nodup_nil, fun D hD => (by cases hD), ⟨by omega, by omega, by omega⟩, ⟨fun b => if b < w8.heap.size + 2 then ((0, 0) : Nat × Nat) else if b < w9.heap.size then cc b else (0, 0), M, x2, ?_, by rw [hx]; rfl, fun b hb => ?_, fun b hb => ?_, fun b hb => ?_⟩⟩
 ·refine (hi _ (fun b h1 h2 => ?_)).other U2 (fun _ x => x.elim) (Kept.refl _ _)
  simp only [World.size_alloc] at h1
  show (if b < w8.heap.size + 2 then ((0, 0) : Nat × Nat) else if b < w9.heap.size then cc b else (0, 0)) = cc b
  rw [if_neg (by omega), if_pos h2]
 ·simp only [World.size_alloc] at hb
  show (if b < w8.heap.size + 2 then ((0, 0) : Nat × Nat) else if b < w9.heap.size then cc b else (0, 0)).1 = 0
  rw [if_neg (by omega), if_neg (by omega)]
 ·show (if b < w8.heap.size + 2 then ((0, 0) : Nat × Nat) else if b < w9.heap.size then cc b else (0, 0)).1 = 0
  rw [if_pos hb]
 ·show (if b < w8.heap.size + 2 then ((0, 0) : Nat × Nat) else if b < w9.heap.size then cc b else (0, 0)).1 = 0
  have hb' : w9.heap.size ≤ b := by
   rcases List.mem_cons.1 hb with rfl | hb
   ·omega
   ·rcases List.mem_cons.1 hb with rfl | hb
    ·omega
    ·cases hb
  rw [if_neg (by omega), if_neg (by omega)]
end Go.M
