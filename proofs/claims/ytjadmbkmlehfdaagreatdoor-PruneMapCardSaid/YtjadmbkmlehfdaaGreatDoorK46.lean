/- Walks 46. -/
import Derived.Test.YtjadmbkmlehfdaaGreatDoorProg
import Derived.Test.YtjadmbkmlehfdaaGreatDoorK36
import Derived.Maps.OwnIn
import Derived.Maps.OwnOps
import Derived.Maps.Ext
import Derived.Test.YtjadmbkmlehfdaaGreatDoorK25
import Derived.Test.YtjadmbkmlehfdaaGreatDoorK30
import Derived.Test.YtjadmbkmlehfdaaGreatDoorK33
import Derived.Test.YtjadmbkmlehfdaaGreatDoorK7
set_option linter.unusedVariables false
set_option linter.unusedSimpArgs false
set_option maxRecDepth 100000
namespace Go.M
open Go.Proofs Go.RowKit Go.Shelf Go.Maps
set_option linter.unusedSimpArgs false
abbrev kLit (k : ByteArray) : Lit := .string k.data.toList
theorem kLit_inj {a b : ByteArray} (h : kLit a = kLit b) : a = b := by
 have h2 : a.data.toList = b.data.toList := Lit.string.inj h
 have h3 : a.data = b.data := Array.toList_inj.1 h2
 cases a; cases b; simp at h3; rw [h3]
structure MapL (D : DataW Unit) (A : ByteArray → Prop) (S : ByteArray → Option Nat) : Prop where
 str : ∀ kl, Maps.has D kl = true → ∃ k : ByteArray, kl = kLit k
 val : ∀ k q, A k → S k = some q → ∀ z, D.atKey (kLit k) z = .lit (.int .i64 ((q : Nat) : Int))
 no : ∀ k, (A k → S k = none) → Maps.has D (kLit k) = false
theorem MapL.empty (S : ByteArray → Option Nat) : MapL (.map []) (fun _ => False) S :=
 ⟨fun kl h => by simp [Maps.has] at h, fun k q h => h.elim, fun k _ => rfl⟩
theorem MapL.put {D : DataW Unit} {A : ByteArray → Prop} {S : ByteArray → Option Nat} (h : MapL D A S) (hm : IsMap D) {k0 : ByteArray} {q : Nat} (hq : S k0 = some q) : MapL (D.put (kLit k0) (.lit (.int .i64 ((q : Nat) : Int)))) (fun k => A k ∨ k = k0) S := by
 refine ⟨fun kl hh => ?_, fun k q' hA hS z => ?_, fun k hn => ?_⟩
 ·by_cases e : kl = kLit k0
  ·exact ⟨k0, e⟩
  ·rw [has_put_other e] at hh
   exact h.str kl hh
 ·by_cases e : k = k0
  ·subst e
   rw [hq] at hS
   cases hS
   exact atKey_put_same hm (show WideAt.IsKeyLit (kLit k) from trivial) _ _
  ·rw [atKey_put_other (fun e2 => e (kLit_inj e2))]
   exact h.val k q' (hA.resolve_right e) hS z
 ·by_cases e : k = k0
  ·subst e
   rw [hn (.inr rfl)] at hq
   cases hq
  ·rw [has_put_other (fun e2 => e (kLit_inj e2))]
   exact h.no k (fun hA => hn (.inl hA))
theorem MapL.skip {D : DataW Unit} {A : ByteArray → Prop} {S : ByteArray → Option Nat} (h : MapL D A S) {k0 : ByteArray} (hq : S k0 = none) : MapL D (fun k => A k ∨ k = k0) S := by
 refine ⟨h.str, fun k q' hA hS z => ?_, fun k hn => h.no k (fun hA => hn (.inl hA))⟩
 rcases hA with hA | e
 ·exact h.val k q' hA hS z
 ·subst e
  rw [hq] at hS
  cases hS
theorem MapL.whole {D : DataW Unit} {A B : ByteArray → Prop} {S : ByteArray → Option Nat} (h : MapL D A S) (hA : ∀ k, A k → B k) (hB : ∀ k, B k → S k ≠ none → A k) : MapL D B S :=
 ⟨h.str, fun k q hb hS z => h.val k q (hB k hb (by rw [hS]; simp)) hS z, fun k hn => h.no k (fun ha => hn (hA k ha))⟩
theorem MapL.same {D1 D2 : DataW Unit} {S : ByteArray → Option Nat} (h1 : MapL D1 (fun _ => True) S) (h2 : MapL D2 (fun _ => True) S) (c1 : Canon D1) (c2 : Canon D2) : D1 = D2 := by
 have hh : ∀ k : ByteArray, ∀ q, S k = some q → Maps.has D1 (kLit k) = true ∧ Maps.has D2 (kLit k) = true := fun k q hq => ⟨has_true_of_atKey (h1.val k q trivial hq), has_true_of_atKey (h2.val k q trivial hq)⟩
 have hn : ∀ k : ByteArray, S k = none → Maps.has D1 (kLit k) = false ∧ Maps.has D2 (kLit k) = false := fun k hq => ⟨h1.no k (fun _ => hq), h2.no k (fun _ => hq)⟩
 refine Maps.ext c1 c2 (fun kl => ?_) (fun kl z hk => ?_)
 ·by_cases e : ∃ k, kl = kLit k
  ·obtain ⟨k, rfl⟩ := e
   cases hS : S k with
   | none => obtain ⟨a, b⟩ := hn k hS; rw [a, b]
   | some q => obtain ⟨a, b⟩ := hh k q hS; rw [a, b]
  ·have a : Maps.has D1 kl = false := by
    cases hx : Maps.has D1 kl with
    | false => rfl
    | true => exact absurd (h1.str kl hx) e
   have b : Maps.has D2 kl = false := by
    cases hx : Maps.has D2 kl with
    | false => rfl
    | true => exact absurd (h2.str kl hx) e
   rw [a, b]
 ·obtain ⟨k, rfl⟩ := h1.str kl hk
  cases hS : S k with
  | none => obtain ⟨a, b⟩ := hn k hS; rw [a] at hk; cases hk
  | some q => rw [h1.val k q trivial hS, h2.val k q trivial hS]
end Go.M
namespace Go.M
open Go.Proofs Go.RowKit Go.Shelf Go.Maps
set_option linter.unusedSimpArgs false
attribute [local go_sem] Oper.semAt_some
def seqM (M : ByteArray → List Ent) (k : ByteArray) : Option Nat := (liveOf (M k)).map (·.seq)
def KeyA (key : Nat → ByteArray) (i : Nat) (k : ByteArray) : Prop := ∃ j, j < i ∧ key j = k
abbrev OwnS (V : World) (b n : Nat) (D : DataW Unit) : Prop := V.ownsMap Tryz.prog 9 (plainElem Tryz.prog 2) b n D
theorem OwnS.upd {F : Nat → Prop} {V V' : World} {b n : Nat} {D : DataW Unit} (h : OwnS V b n D) (U : Upd F V V') (hF : ¬ F b) : OwnS V' b n D := by
 have hl := World.ownsMap.lt h
 obtain ⟨es, clock, hb, r⟩ := h
 exact ⟨es, clock, (U.keep b hl hF).trans hb, r⟩
structure LmI (w : World) (PP : Nat) (M : ByteArray → List Ent) (key : Nat → ByteArray) (pre : List Nat) (V : World) : Prop where
 p : V.cell? ⟨w.heap.size, 0, none⟩ = some (.pointer (some ⟨PP, 0, none⟩))
 m : ∃ D, OwnS V (w.heap.size + 1) pre.length D ∧ MapL D (KeyA key pre.length) (seqM M)
 h : V.cell? ⟨w.heap.size + 2, 0, none⟩ = some (.map (some (w.heap.size + 1)))
 o : Old w V
theorem yields36 {w : World} {f : Nat} {b : Array Value} :
 Calls Tryz.prog 71 #[.func (.func f) #[] b] w fun e w' => e = .returned (.func (.func f) #[] b) ∧ w = w' := by
 have hq : ∀ w : World, (binOp .eql 132 (.func (.func f) #[] b) .nilFunc).run Tryz.prog w = .ok (.bool false) w := fun w => run_eql_func w _ _ _ _ Tryz.underlying132 rfl
 go_enter Tryz.func71, Tryz.ntmps71
 go_wp2
 go_ret
 exact ⟨rfl, rfl⟩
theorem LmI.grown {w A B : World} {PP : Nat} {M : ByteArray → List Ent} {key : Nat → ByteArray} {pre : List Nat} {row : Option Nat} (h : LmI w PP M key pre A) (hg : A.grownBy B row) (hr : ∀ r, row = some r → w.heap.size + 2 < r) : LmI w PP M key pre B := by
 have U : Upd (fun b => row = some b) A B := (Upd.refl _ A).grown hg (fun k e => .inl e)
 obtain ⟨p, ⟨D, h1, h2⟩, h3, h4⟩ := h
 exact ⟨U.cellOf p (fun e => by have := hr _ e; omega), ⟨D, h1.kept hg (fun e => by have := hr _ e.symm; omega), h2⟩, U.cellOf h3 (fun e => by have := hr _ e; omega), h4.grown hg (fun k e => .inr (by have := hr k e; omega))⟩
theorem wf_i64 {a : Int} (h0 : 0 ≤ a) (h1 : a ≤ 1099511627776) : (Lit.int .i64 a).wf = true := by
 have h2 : IntKind.i64.min = -9223372036854775808 := by decide
 have h3 : IntKind.i64.max = 9223372036854775807 := by decide
 show (decide (IntKind.i64.min ≤ a) && decide (a ≤ IntKind.i64.max)) = true
 simp only [Bool.and_eq_true, decide_eq_true_eq]
 omega
theorem KeyA.succ {key : Nat → ByteArray} {i : Nat} {k : ByteArray} : KeyA key (i + 1) k ↔ KeyA key i k ∨ k = key i :=
 ⟨fun ⟨j, hj, e⟩ => by
   by_cases h : j = i
   ·subst h; exact .inr e.symm
   ·exact .inl ⟨j, by omega, e⟩, fun h => by
   rcases h with ⟨j, hj, e⟩ | e
   ·exact ⟨j, by omega, e⟩
   ·exact ⟨i, by omega, e.symm⟩⟩
theorem lm_next {w V V' : World} {PP X x B0 : Nat} {M : ByteArray → List Ent} {key : Nat → ByteArray} {D' : DataW Unit} (h : LmI w PP M key (List.range x) V) (hc : V.cell? ⟨w.heap.size + 3, 0, none⟩ = some (.pointer (some ⟨X, 0, none⟩))) (hB : w.heap.size + 2 < B0)
 (U : Upd (fun b => b = w.heap.size + 1) V V') (hD : OwnS V' (w.heap.size + 1) (x + 1) D') (hM : MapL D' (fun k => KeyA key x k ∨ k = key x) (seqM M)) :
 KeepsW B0 (fun _ _ => False) V V' ∧ FreshW (fun _ _ => False) V V' ∧ LmI w PP M key (List.range x ++ [x]) V' ∧ V'.cell? ⟨w.heap.size + 3, 0, none⟩ = some (.pointer (some ⟨X, 0, none⟩)) := by
 refine ⟨⟨U.size, fun k hk hl _ => U.keep k hl (by omega)⟩, fun k h => h.elim, ⟨U.cellOf h.p (by show ¬ _ = _; omega), ⟨D', by simpa using hD, ?_⟩, U.cellOf h.h (by show ¬ _ = _; omega), h.o.after U (fun b hb e => by omega)⟩, U.cellOf hc (by show ¬ _ = _; omega)⟩
 rw [List.length_append, List.length_range]
 exact hM.whole (fun k hk => KeyA.succ.2 hk) (fun k hk _ => KeyA.succ.1 hk)
set_option maxHeartbeats 1600000 in
theorem live36 {w : World} {PP X O S m c n : Nat} {mv : Value} {key : Nat → ByteArray} {val : Nat → Value} {kz : Nat → List Ent} {B : Nat → Prop} {M : ByteArray → List Ent} (hm : 0 < m) (hP : w.cell? ⟨PP, 9, none⟩ = some (.pointer (some ⟨X, 0, none⟩))) (hX0 : w.cell? ⟨X, 0, none⟩ = some (.pointer (some ⟨O, 0, none⟩))) (hX1 : w.cell? ⟨X, 1, none⟩ = some (.slice (some ⟨S, 0, none⟩) m c)) (hK : KvIn w O mv n key val kz B M) (hks : ∀ r, r < n → (key r).size ≤ 32) (hsq : ∀ k, ∀ y ∈ M k, y.seq ≤ 1099511627776) :
 Calls Tryz.prog 23 #[.pointer (some ⟨PP, 0, none⟩)] w fun e w' => ∃ b k D, e = .returned (.map (some b)) ∧ OwnS w' b k D ∧ MapL D (fun _ => True) (seqM M) ∧ w.heap.size ≤ b ∧ k ≤ 500 ∧ Old w w' := by
 have hfew := hK.n5
 have hv1 : ∀ i, i < n → ∃ a c d, val i = .slice a c d := fun i hi => by obtain ⟨a, c, h⟩ := own_slice (hK.row i hi); exact ⟨a, _, c, h⟩
 have HK := Lib.hid hK
 clear hK
 have hmm := @run_makeMap Tryz.prog
 have hq : ∀ (w : World) (f : Nat) (b : Array Value), (binOp .eql 132 (.func (.func f) #[] b) .nilFunc).run Tryz.prog w = .ok (.bool false) w := fun w f b => run_eql_func w _ _ _ _ Tryz.underlying132 rfl
 have hl0 : ∀ c1 t1 c2 t2, (((w.alloc (.cells c1 t1)).alloc (.map #[] 0)).alloc (.cells c2 t2)).cell? ⟨w.heap.size, 0, none⟩ = c1[0]? := fun c1 t1 c2 t2 => by
  have := (((Has.new w t1 c1).alloc (.map #[] 0)).alloc (.cells c2 t2)).cell 0
  exact this
 have hP9 : ∀ c1 t1 c2 t2, (((w.alloc (.cells c1 t1)).alloc (.map #[] 0)).alloc (.cells c2 t2)).cell? ⟨PP, 9, none⟩ = some (.pointer (some ⟨X, 0, none⟩)) := fun c1 t1 c2 t2 => Old.cellOf' ((((Upd.refl _ w).alloc _).alloc _).alloc _) hP
 refine (callsIn_wide (n := 8)).1 ?_
 refine callsIn_of_wp_marks Tryz.func23 rfl trivial ?_ rfl
 simp only [Tryz.ntmps23, List.size_toArray, List.length_cons, List.length_nil, Nat.reduceAdd, Nat.reduceSub, Array.replicate_succ, Array.replicate_zero, List.push_toArray, List.append_toArray, List.nil_append, List.cons_append]
 refine wpIn_wide.2 ?_
 go_wp2_with (first | (go_at_call 71; refine yields36.mono ?_; rintro e w1 ⟨rfl, rfl⟩) | go_in)
 generalize hW0 : World.alloc (World.alloc (World.alloc (World.alloc w _) _) _) _ = W0
 have U0 : Old w W0 := by subst hW0; exact ((((Upd.refl _ w).alloc _).alloc _).alloc _).alloc _
 have hI0 : LmI w PP M key [] W0 := by
  subst hW0
  refine ⟨?_, ⟨.map [], ?_, ?_⟩, ?_, ((((Upd.refl _ w).alloc _).alloc _).alloc _).alloc _⟩
  ·exact ((((Has.new w _ _).alloc _).alloc _).alloc _).cell 0
  ·have h1 := World.ownsMap_made (H := Unit) (w.alloc (.cells #[.pointer (some ⟨PP, 0, none⟩)] 27)) Tryz.prog 9 (plainElem Tryz.prog 2)
   rw [World.size_alloc] at h1
   exact (h1.alloc _).alloc _
  ·exact (MapL.empty _).whole (fun k h => h.elim) (fun k ⟨j, hj, _⟩ _ => absurd hj (by simp))
  ·have := (Has.new ((w.alloc (.cells #[.pointer (some ⟨PP, 0, none⟩)] 27)).alloc (.map #[] 0)) 63 #[.map (some (w.heap.size + 1))]).alloc (.cells #[.pointer (some ⟨X, 0, none⟩)] 39)
   simp only [World.size_alloc] at this
   exact this.cell 0
 have c3 : W0.cell? ⟨w.heap.size + 3, 0, none⟩ = some (.pointer (some ⟨X, 0, none⟩)) := by
  subst hW0
  have := Has.new (((w.alloc (.cells #[.pointer (some ⟨PP, 0, none⟩)] 27)).alloc (.map #[] 0)).alloc (.cells #[.map (some (w.heap.size + 1))] 63)) 39 #[.pointer (some ⟨X, 0, none⟩)]
  simp only [World.size_alloc] at this
  exact this.cell 0
 have z0 : W0.heap.size = w.heap.size + 4 := by subst hW0; simp
 clear hW0 hl0 hP9
 have hx1 : ∀ V, Old w V → ∀ i, i < n → ∃ sv, IxK V X O S m c (key i) sv (M (key i)) := fun V U i hi => (HK.out.upd U (fun x => x) (fun _ _ x => x) (fun _ _ _ _ x => x)).ixk (Old.cellOf' U hX0) (Old.cellOf' U hX1) hm _
 have HX := Lib.hid hx1
 clear hx1
 refine (wpIn_wide (n := 8)).1 ?_
 refine range_w rfl (by omega) (gf := 155) (lb := #[.pointer (some ⟨w.heap.size + 1 + 1 + 1, 0, none⟩)]) rfl trivial (enters_of Tryz.func155 (by kernel_rfl) rfl) (encs := fun i : Nat => #[.string (key i)]) (fun _ => rfl)
  (keys_w (PX := w.heap.size + 1 + 1 + 1) (X := X) (O := O) (S := S) (m := m) (c := c) (mv := mv) (key := key) (val := val) (n := n) 7 (by omega) hm (by omega) hv1)
  (fun pre V => LmI w PP M key pre V ∧ V.cell? ⟨w.heap.size + 3, 0, none⟩ = some (.pointer (some ⟨X, 0, none⟩))) (fun _ _ => False) (fun _ _ => False) ⟨fun _ _ _ _ h => h.elim, fun _ _ _ _ _ _ _ _ h => h⟩
  (fun pre A B' row hs hg hr => ⟨hs.1.grown hg (fun r e => by have := (hr r e).1; omega), cell_kept hs.2 hg (fun r e => (hr r e).2)⟩)
  (fun _ _ _ _ _ h _ _ => h) ⟨hI0, c3⟩ (fun pre V h => ⟨h.2, Old.cellOf' h.1.o hX0, Old.cellOf' h.1.o hX1, (HK.out.upd h.1.o (fun x => x) (fun _ _ x => x) (fun _ _ _ _ x => x)).om⟩)
  (fun i => { tmps := #[.pointer (some ⟨PP, 0, none⟩), .pointer (some ⟨w.heap.size, 0, none⟩), .map none, .pointer (some ⟨w.heap.size + 1 + 1, 0, none⟩), .string (key i), undef, undef, .map (some (w.heap.size + 1)), .pointer (some ⟨PP, 0, none⟩), .pointer (some ⟨PP, 0, none⟩), .pointer (some ⟨PP, 9, none⟩), .pointer (some ⟨X, 0, none⟩), .func (.func 155) #[] #[.pointer (some ⟨w.heap.size + 1 + 1 + 1, 0, none⟩)], .func (.func 155) #[] #[.pointer (some ⟨w.heap.size + 1 + 1 + 1, 0, none⟩)], .string (key i), undef, undef, undef, undef, undef, undef, undef, undef, undef, undef, undef, undef, undef, undef, undef, undef, undef, undef, undef, undef], defers := [] })
  ?assign ?body ?done ?stop
 case assign =>
  intro l2 x V K hK
  gi_wp2
  exact hK
 case body =>
  rintro l2 pre x V hl ⟨hI, hc3⟩ ⟨hxn, rfl⟩
  obtain ⟨sv, hxk⟩ := HX.out V hI.o x hxn
  obtain ⟨hne, hMk⟩ := HK.out.mp x hxn
  obtain ⟨e, rest, hes⟩ : ∃ e rest, M (key x) = e :: rest := by
   rw [hMk]
   cases h : kz x with
   | nil => exact absurd h hne
   | cons a b => exact ⟨a, b, rfl⟩
  have hNW := newest_walk hxk
  have hsq1 := hsq (key x) e (by rw [hes]; exact List.mem_cons_self ..)
  rw [hes] at hNW
  simp only [List.headD_cons, List.isEmpty_cons, Bool.not_false] at hNW
  have p1 := hI.p
  have p2 : V.cell? ⟨w.heap.size + 1 + 1, 0, none⟩ = some (.map (some (w.heap.size + 1))) := hI.h
  have p9 : V.cell? ⟨PP, 9, none⟩ = some (.pointer (some ⟨X, 0, none⟩)) := Old.cellOf' hI.o hP
  obtain ⟨D, hD1, hD2⟩ := hI.m
  rw [List.length_range] at hD1 hD2
  have HI := Lib.hid hI
  have HD1 := Lib.hid hD1
  have HD2 := Lib.hid hD2
  clear hD1 hD2
  have HNW := Lib.hid hNW
  have HC3 := Lib.hid hc3
  clear hI hNW hxk hc3
  unfold Ent.val at HNW
  have hS : seqM M (key x) = if e.del then none else some e.seq := by
   unfold seqM liveOf
   rw [hes]
   show Option.map (fun x => x.seq) (if e.del = true then none else some e) = _
   cases e.del <;> simp
  cases hdel : e.del
  all_goals
   rw [hdel] at hS HNW
   (try simp only [if_true, Bool.false_eq_true, if_false] at hS)
   gi_wp2_with (first | (refine ⟨trivial, ?_⟩; gi_at_call 67; refine (callsIn_wide.2 HNW.out).mono ?_; rintro e1 w1 ⟨rfl, hO⟩; have H1 := Lib.hid hO; have p2 := Old.cellOf' hO p2; have hl6 : w.heap.size + 1 + 1 < w1.heap.size := World.block_lt_of_cell? w1 _ p2; have hl7 : ¬ w.heap.size + 1 + 1 = w1.heap.size := (by omega); clear hO) | (gi_at_mapUpdate; (refine wpListIn_mapUpdate_own _ rfl _ _ _ 63 rfl 9 2 (string_keyed Tryz.underlying9) Tryz.underlying63 _ (w.heap.size + 1) x D rfl (by exact (HD1.out.upd H1.out (fun x => x)).upd ((Upd.refl (fun _ => False) w1).alloc _) (fun x => x)) (by unfold maxLen; omega) _ _ (kLit (key x)) rfl rfl (Go.WideMaps.keyOf_string_mk Tryz.underlying9 (by have := hks x hxn; unfold maxLen; omega)) (.lit (.int .i64 ((e.seq : Nat) : Int))) [] (plainElem_int Tryz.underlying2 (wf_i64 (by omega) (by omega))) ?_); intro w2 hown2 hgr2; have H2 := Lib.hid (And.intro hown2 hgr2); clear hown2 hgr2))
  ·exact lm_next HI.out HC3.out (by omega) (((H1.out.mono (fun _ _ x => x.elim)).alloc _).grown H2.out.2 (fun k e => .inl (Option.some.inj e).symm)) H2.out.1 (HD2.out.put (World.ownsMap.isMap HD1.out) hS)
  ·exact lm_next HI.out HC3.out (by omega) ((H1.out.mono (fun _ _ x => x.elim)).alloc _) (((HD1.out.upd H1.out (fun x => x)).upd ((Upd.refl (fun _ => False) w1).alloc _) (fun x => x)).mono (Nat.le_succ _)) (HD2.out.skip hS)
 case done =>
  rintro D1 xs V1 hD rfl ⟨h, -⟩ hKD
  obtain ⟨p, ⟨D, h1, h2⟩, h3, h4⟩ := h
  have h3 : V1.cell? ⟨w.heap.size + 1 + 1, 0, none⟩ = some (.map (some (w.heap.size + 1))) := h3
  rw [List.length_range] at h1 h2
  have HD1 := Lib.hid h1
  have HD2 := Lib.hid h2
  have HO := Lib.hid h4
  have HP := Lib.hid p
  clear p h1 h2 h4
  go_wp2
  refine ⟨by simp, .inl ⟨_, _, rfl, run_takeDeferred hKD, ?_⟩⟩
  have hg := grownBy_putObj' V1 D1 (.deferred none)
  refine ⟨_, results_tmp rfl _ _ _, w.heap.size + 1, n, D, rfl, HD1.out.kept hg (fun e => by injection e with e; omega), HD2.out.whole (fun _ _ => trivial) (fun k _ hk => ?_), by omega, hfew, HO.out.grown hg (fun k e => .inr (by injection e with e; omega))⟩
  by_cases hm : M k = []
  ·exact absurd (by unfold seqM; rw [hm]; rfl) hk
  ·exact HK.out.on k hm
 case stop =>
  rintro D1 c V1 _ h _
  exact h.elim
end Go.M
namespace Go.M
open Go.Proofs Go.RowKit Go.Shelf Go.Maps
set_option linter.unusedSimpArgs false
theorem keyStr_inv {key : Value} {kl : Lit} (h : keyOf Tryz.prog 9 key = some kl) : ∃ s, key = .string s := by
 cases key <;> simp [keyOf, Tryz.underlying9, mapKey] at h
 exact ⟨_, rfl⟩
theorem zero64 (w : World) : (zeroValue 2).run Tryz.prog w = .ok (.int .i64 0) w := by kernel_rfl
set_option maxHeartbeats 1600000 in
theorem equal36 {w : World} {b1 b2 n1 n2 : Nat} {D : DataW Unit} (h1 : OwnS w b1 n1 D) (h2 : OwnS w b2 n2 D) :
 Calls Tryz.prog 26 #[.map (some b1), .map (some b2)] w fun e w' => e = .returned (.bool true) ∧ Old w w' := by
 have hsz := World.ownsMap.size_le h1
 have hb2 := World.ownsMap.lt h2
 have HH1 := Lib.hid h1
 have HH2 := Lib.hid h2
 clear h1 h2
 go_enter Tryz.func26, Tryz.ntmps26
 go_wp2_with (first
  | (at_range; refine wpList_range_own _ rfl _ 63 rfl 9 2 (string_keyed Tryz.underlying9) Tryz.underlying63 _ b1 n1 D rfl HH1.out ?_; intro w0 hrg0 hg0 hs0)
  | (at_len; refine wpList_len_own _ rfl _ 63 rfl 9 2 Tryz.underlying63 _ _ _ D rfl (by first | exact HH1.out | exact HH2.out) ?_))
 go_frame
 go_loopw [5, 6, 7, 8] (fun _ _ _ _ wr => ∃ left cnt, wr.ranges Tryz.prog 9 (plainElem Tryz.prog 2) b1 w.heap.size n1 D left cnt ∧ w.grownBy wr none) (fun _ _ _ _ wr => wr.rangeLeft b1 w.heap.size)
 case atStart => exact ⟨_, _, hrg0, hg0⟩
 case round =>
  obtain ⟨left, cnt, hrg, hgr⟩ := hrel
  have hO2 := World.ownsMap.kept HH2.out hgr (by simp)
  go_wp2_with (first
   | (at_next; refine wpList_next_ranges _ rfl _ rfl 9 (string_keyed Tryz.underlying9) (plainElem Tryz.prog 2) Value.string (Value.int .i64) (fun _ _ h => keyStr_inv h) (fun v y hv => by obtain ⟨c, rfl, _⟩ := plainElem_int_inv Tryz.underlying2 hv; exact ⟨c, rfl⟩) b1 w.heap.size n1 D left cnt rfl hrg ?_ ?_))
  ·intro hc0 hl0
   go_wp2
   go_ret
   exact ⟨rfl, (Upd.refl _ _).grown hgr (fun k e => by cases e)⟩
  ·intro x c kl yd yp w1 cnt1 hkey hleft hval hat hrg1 hlt hg1 hs1 hen
   have hO3 := World.ownsMap.kept hO2 hg1 (fun e => by have := Option.some.inj e; omega)
   obtain ⟨c', ec, ey, -⟩ := plainElem_int_inv Tryz.underlying2 hval
   obtain rfl : c = c' := by injection ec
   have hat' : ∀ zd, D.atKey kl zd = .lit (.int .i64 c) := fun zd => by rw [hat zd]; exact congrArg Prod.fst ey
   have hh := has_true_of_atKey hat'
   go_wp2_with (first
    | (at_lookup; refine wpList_lookup_own_ok_int _ rfl _ _ 63 rfl 9 2 .i64 (string_keyed Tryz.underlying9) Tryz.underlying63 Tryz.underlying2 (zero64 _) b2 n2 D rfl hO3 _ kl rfl hkey ?_; intro c2 hat2 hwc2; have hc2 : c2 = c := (by rw [hat' (.lit (.int .i64 0))] at hat2; injection hat2 with hat2; injection hat2 with _ hat2; exact hat2.symm); rw [hh, hc2]; clear hat2 hwc2 hc2))
   go_roundw
   case rel => exact ⟨_, _, hrg1, hgr.andThen hg1 (fun j e => by have := Option.some.inj e; exact .inl (by omega))⟩
   case measure => rw [hrg1.left_eq, hrg.left_eq]; omega
end Go.M
