/- Walks 20. -/
import Derived.Test.YtnmkiflnonafbaaGreatDoorProg
import Derived.Test.YtnmkiflnonafbaaGreatDoorK17
import Derived.Test.YtnmkiflnonafbaaGreatDoorK16
import Derived.Test.YtnmkiflnonafbaaGreatDoorK19
set_option linter.unusedVariables false
set_option linter.unusedSimpArgs false
set_option maxRecDepth 100000
namespace Go.M
open Go.Proofs Go.RowKit Go.Shelf
attribute [local go_sem] Oper.semAt_some
theorem ZdR {w : World} {d t x : Value} {n st : Nat} {sl : Int} (hd : DSl w d n) (ht : TSl w t n) (hx : XSl w x n) (h1 : n ≤ 100) (hp : 0 < n) (hS : ∀ W, Old w W → Calls Tryz.prog 13 #[t, .int .i64 sl] W fun e w' => e = .returned (.tuple #[.int .i64 ((st : Nat) : Int), .int .i64 0]) ∧ W = w') :
 Calls Tryz.prog 33 #[d, t, x, .int .i64 sl] w fun e w' => e = .returned (.tuple #[.int .i64 ((st : Nat) : Int), .int .i64 0]) ∧ Old w w' := by
 have HD := Lib.hid (fun (w' : World) (U : Old w w') => Zir (hd.old U) h1)
 have HX := Lib.hid (fun (w' : World) (U : Old w w') => Zpm (hx.old U) h1)
 have HS := Lib.hid hS;have HC := Lib.hid (ZfE hd ht h1 hp);have g1 : ((n : Int) == 0) = false := by rw [beq_eq_false_iff_ne]; omega
 clear hd ht hx hp h1 hS
 go_enter Tryz.func33, Tryz.ntmps33
 go_wp2_with (first | (go_at_call 30; refine HC.out.mono ?_; rintro e w1 ⟨rfl, hU⟩; have HU := Lib.hid hU; clear hU) | (go_at_call 82; refine (HX.out _ HU.out).mono ?_; rintro e w2 ⟨rfl, rfl⟩) | (go_at_call 75; refine (HD.out _ HU.out).mono ?_; rintro e w2 ⟨rfl, rfl⟩) | (go_at_call 13; refine (HS.out _ HU.out).mono ?_; rintro e w3 ⟨rfl, rfl⟩))
 all_goals
  go_ret2;exact ⟨rfl, HU.out⟩
def Zju (w : World) (i : Nat) (V : World) : Prop := V.cell? ⟨w.heap.size, 0, none⟩ = some (.int .i64 ((i : Nat) : Int)) ∧ (∃ t, Has V (w.heap.size + 1) t #[.bool false]) ∧ (∃ t, Has V (w.heap.size + 1 + 1) t #[.int .i64 0]) ∧ Old w V
theorem Zju.grown {w X Y : World} {i B : Nat} {row : Option Nat} (h : Zju w i X) (hB : w.heap.size ≤ B) (hg : X.grownBy Y row) (hr : ∀ r, row = some r → B ≤ r ∧ ∃ o : Obj, X.heap[r]? = some o ∧ o.isCells = false) : Zju w i Y := by
 obtain ⟨h1, ⟨t2, h2⟩, ⟨t3, h3⟩, h4⟩ := h;exact ⟨cell_kept h1 hg (fun r e => (hr r e).2), ⟨t2, ZbU _ t2 (fun (_ : Unit) => _) () X Y row h2 hg (fun r e => (hr r e).2)⟩, ⟨t3, ZbU _ t3 (fun (_ : Unit) => _) () X Y row h3 hg (fun r e => (hr r e).2)⟩, h4.grown hg (fun r e => .inr (by have := (hr r e).1; omega))⟩
theorem Zju.old {w X Y : World} {i : Nat} (h : Zju w i X) (U : Old X Y) : Zju w i Y := by
 obtain ⟨h1, ⟨t2, h2⟩, ⟨t3, h3⟩, h4⟩ := h;exact ⟨Old.cellOf' U h1, ⟨t2, U.has h2⟩, ⟨t3, U.has h3⟩, Upd.trans h4 U⟩
theorem Zhw {P : Program} {fn : Func} {p q : Tmp} {ty tq : TypeId} {tmps : Array Value} {w : World} {a b : Addr} {u v : Value} (h : fn.results = #[.cell p ty, .cell q tq]) (hp : tmps.getD p undef = .pointer (some a)) (hq : tmps.getD q undef = .pointer (some b)) (hl : (loadVar ty a).run P w = .ok u w) (hm : (loadVar tq b).run P w = .ok v w) : (results fn tmps).run P w = .ok (.tuple #[u, v]) w := by
 have hp' : tmps[p]?.getD undef = .pointer (some a) := by simpa using hp
 have hq' : tmps[q]?.getD undef = .pointer (some b) := by simpa using hq
 simp only [results, h];simp [hp', hq', asAddr, hl, hm]
set_option maxHeartbeats 1600000 in
theorem ZfI {w : World} {col : Col} {D B X st : Nat} {s : DevS} {K S cap T : Nat} {M : Nat → Nat} {V : Nat → Value} {i : Nat} {b : Bool} (h : DevAt w col 1 D s K S cap T M V) (hup : s.down = false) (ht : TSl w (.pointer (some ⟨B, 0, none⟩)) s.n) (hx : XSl w (.pointer (some ⟨X, 0, none⟩)) s.n) (hc : ∀ b, w.heap.size ≤ b → (col b).1 = 0) (hall : ∀ k, k < s.n → Zas s k = false)
 (hS : ∀ W, Old w W → Calls Tryz.prog 13 #[.pointer (some ⟨B, 0, none⟩), .int .i64 ((i : Nat) : Int)] W fun e w' => e = .returned (.tuple #[.int .i64 ((st : Nat) : Int), .int .i64 0]) ∧ W = w')
 (hR : ∀ W, Old w W → Calls Tryz.prog 11 #[.pointer (some ⟨X, 0, none⟩), .int .i64 ((i : Nat) : Int)] W fun e w' => e = .returned (.tuple #[.bool b, .int .i64 0]) ∧ Old W w') :
 Calls Tryz.prog 10 #[.pointer (some ⟨D, 0, none⟩), .pointer (some ⟨B, 0, none⟩), .pointer (some ⟨X, 0, none⟩), .int .i64 ((i : Nat) : Int)] w fun e w' => e = .returned (.tuple #[.bool b, .int .i64 0]) ∧ Old w w' := by
 have hlo := h.lo;have hhi := h.hi;have hds : DSl w (.pointer (some ⟨D, 0, none⟩)) s.n := by
  obtain ⟨t, hd⟩ := h.fd;have h4 := hd.cell 4;rw [hup] at h4;exact .inr ⟨D, rfl, hd.cell 2, h4⟩
 have HC := Lib.hid (fun (W : World) (U : Old w W) => ZdR (sl := ((i : Nat) : Int)) (st := st) (hds.old U) (ht.old U) (hx.old U) (by omega) (by omega) (fun W' U' => hS W' (Upd.trans U U')))
 have HH := Lib.hid h;have HCO := Lib.hid hc;have HR := Lib.hid hR;clear hds ht hx h hc hS hR;refine (callsIn_wide (n := 8)).1 ?_;refine callsIn_of_wp_marks Tryz.func10 rfl trivial ?_ rfl;simp only [Tryz.ntmps10, List.size_toArray, List.length_cons, List.length_nil, Nat.reduceAdd, Nat.reduceSub, Array.replicate_succ, Array.replicate_zero, List.push_toArray, List.append_toArray, List.nil_append, List.cons_append];refine wpIn_wide.2 ?_
 go_wp2_with (first | (go_at_call 33; refine (HC.out _ ?_).mono ?_; (exact ((((Upd.refl _ w).alloc _).alloc _).alloc _)); rintro e w1 ⟨rfl, hU⟩; have b7 : w1.cell? ⟨w.heap.size, 0, none⟩ = some (.int .i64 ((i : Nat) : Int)) := Old.cellOf' hU (by go_simp); have b8 := Old.has hU ((ZlW w _ 4 #[.bool false]).alloc _); have b9 := Old.has hU (ZlX w _ _ 38 #[.int .i64 0]); have hB : Zju w i w1 := ⟨b7, ⟨_, b8⟩, ⟨_, b9⟩, Upd.trans ((((Upd.refl _ w).alloc _).alloc _).alloc _) hU⟩; clear hU b7 b8 b9) | (go_at_call 33; refine Hid.out ?_) | go_in)
 obtain ⟨W0, hW0⟩ : ∃ W0, w1.alloc (.cells #[.pointer (some ⟨D, 0, none⟩)] 31) = W0 := ⟨_, rfl⟩;obtain ⟨PD, hPD⟩ : ∃ PD, w1.heap.size = PD := ⟨_, rfl⟩;have hB0 : Zju w i W0 := by rw [← hW0]; exact hB.old ((Upd.refl _ w1).alloc _)
 have P0 : W0.cell? ⟨PD, 0, none⟩ = some (.pointer (some ⟨D, 0, none⟩)) := by rw [← hW0, ← hPD]; exact (Has.new w1 _ _).cell 0
 rw [hW0, hPD];have hz := hB0.2.2.2.size;clear hW0 hPD hB;refine (wpIn_wide (n := 8)).1 ?_;refine ZcD rfl (by omega) (gf := 77) (lb := #[.pointer (some ⟨PD, 0, none⟩)]) rfl trivial (enters_of Tryz.func77 (by kernel_rfl) rfl) (encs := fun i : Nat => #[.int .i64 ((i : Nat) : Int)]) (fun _ => rfl)
  (Zgq 7 (by omega) (PD := PD) (D := D) (col := col) (s0 := s) (st := fun _ => s) (by omega) (fun pre => ⟨rfl, hup, fun _ _ => rfl⟩))
  (fun pre V => UG PD D col s V ∧ Zju w i V)
  (fun _ _ => False) (fun pre A B' row hs hg hr => ⟨hs.1.grown (B := w.heap.size) hg HCO.out (fun r e => ⟨by have := (hr r e).1; omega, (hr r e).2⟩), hs.2.grown hz hg hr⟩) (fun _ _ _ _ _ h _ _ => h) ⟨⟨P0, K, S, cap, T, M, V, HH.out.other hB0.2.2.2 (fun _ x => x.elim) (Kept.refl _ _)⟩, hB0⟩ (fun pre V h => h.1)
  (fun i' => { tmps := #[.pointer (some ⟨D, 0, none⟩), .pointer (some ⟨B, 0, none⟩), .pointer (some ⟨X, 0, none⟩), .int .i64 ((i : Nat) : Int), undef, undef, undef, .pointer (some ⟨w.heap.size, 0, none⟩), .pointer (some ⟨w.heap.size + 1, 0, none⟩), .pointer (some ⟨w.heap.size + 1 + 1, 0, none⟩), .int .i64 ((st : Nat) : Int), .int .i64 0, .int .i64 ((i' : Nat) : Int), .tuple #[.int .i64 ((st : Nat) : Int), .int .i64 0], .pointer (some ⟨D, 0, none⟩), .pointer (some ⟨B, 0, none⟩), .pointer (some ⟨X, 0, none⟩), .int .i64 ((i : Nat) : Int), .tuple #[.int .i64 ((st : Nat) : Int), .int .i64 0], .int .i64 ((st : Nat) : Int), .int .i64 0, .int .i64 0, .bool false, undef, .pointer (some ⟨D, 0, none⟩), .func (.func 77) #[] #[.pointer (some ⟨PD, 0, none⟩)], .int .i64 ((i' : Nat) : Int), undef, undef, undef, undef, undef, undef, undef, undef], defers := [] })
  ?assign ?body ?done ?stop
 case assign =>
  intro l x V K hK
  gi_wp2
  exact hK
 case body =>
  rintro l pre x V1 hl _ ⟨hx, _, hu⟩;rw [hall x hx] at hu;cases hu
 case done =>
  rintro D1 xs V1 hD _ ⟨hg, hB1⟩ hKD;have HB := Lib.hid hB1;have HRR := Lib.hid (HR.out V1 hB1.2.2.2);have s0 := hB1.1;have l0 := World.block_lt_of_cell? V1 _ s0;clear hB1 hg
  go_wp2_with (first | (go_at_call 11; refine HRR.out.mono ?_; rintro e w2 ⟨rfl, hO⟩; obtain ⟨_, ⟨t2, h2⟩, ⟨t3, h3⟩, _⟩ := HB.out.old hO; have c2 : w2.cell? ⟨w.heap.size + 1, 0, none⟩ = some (.bool false) := h2.cell 0; have c3 : w2.cell? ⟨w.heap.size + 1 + 1, 0, none⟩ = some (.int .i64 0) := h3.cell 0; have f2 := h2.frozen 0; have f3 := h3.frozen 0; have l2 := h2.lt; have l3 := h3.lt; have HO := Lib.hid hO; have H2 := Lib.hid h2; have H3 := Lib.hid h3; clear hO h2 h3) | (go_at_call 11; refine Hid.out ?_))
  have hk2 : w2.heap[D1]? = some (.deferred (some [])) := (HO.out.keep D1 (Array.getElem?_eq_some_iff.1 hKD).1 (fun x => x)).trans hKD
  obtain ⟨w4, hw4⟩ : ∃ w4, (w2.setCell ⟨w.heap.size + 1, 0, none⟩ (.bool b)).setCell ⟨w.heap.size + 1 + 1, 0, none⟩ (.int .i64 0) = w4 := ⟨_, rfl⟩;have hz0 := World.block_lt_of_cell? W0 _ hB0.1;have hzz : w.heap.size + 1 + 1 < W0.heap.size := by obtain ⟨_, h⟩ := hB0.2.2.1; exact h.lt
  have hk4 : w4.heap[D1]? = some (.deferred (some [])) := by
   rw [← hw4];exact (Below.heap_setCell _ ⟨w.heap.size + 1 + 1, 0, none⟩ _ D1 (by show D1 ≠ w.heap.size + 1 + 1; omega)).trans ((Below.heap_setCell w2 ⟨w.heap.size + 1, 0, none⟩ _ D1 (by show D1 ≠ w.heap.size + 1; omega)).trans hk2)
  have i2 : Has w4 (w.heap.size + 1) t2 #[.bool b] := by rw [← hw4]; simpa using (H2.out.set 0 (.bool b)).setOther (a := ⟨w.heap.size + 1 + 1, 0, none⟩) (by simp) (.int .i64 0)
  have i3 : Has w4 (w.heap.size + 1 + 1) t3 #[.int .i64 0] := by rw [← hw4]; simpa using (H3.out.setOther (a := ⟨w.heap.size + 1, 0, none⟩) (by simp) (.bool b)).set 0 (.int .i64 0)
  have hU4 : Old w w4 := by rw [← hw4]; exact ((Upd.trans HB.out.2.2.2 HO.out).setCell _ _ (.inr (by simp))).setCell _ _ (.inr (by simp; omega))
  rw [hw4];clear hw4;have j2 : Has (w4.putObj D1 (.deferred none)) (w.heap.size + 1) t2 #[.bool b] := (World.putObj_heap_other (by omega)).trans i2
  have j3 : Has (w4.putObj D1 (.deferred none)) (w.heap.size + 1 + 1) t3 #[.int .i64 0] := (World.putObj_heap_other (by omega)).trans i3
  have d2 : (w4.putObj D1 (.deferred none)).cell? ⟨w.heap.size + 1, 0, none⟩ = some (.bool b) := j2.cell 0;have d3 : (w4.putObj D1 (.deferred none)).cell? ⟨w.heap.size + 1 + 1, 0, none⟩ = some (.int .i64 0) := j3.cell 0;have hU5 : Old w (w4.putObj D1 (.deferred none)) := hU4.grown (grownBy_putObj' _ D1 _) (fun k e => by cases e; exact .inr (by omega))
  refine ⟨by simp, .inl ⟨_, _, rfl, run_takeDeferred hk4, ?_⟩⟩
  generalize w4.putObj D1 (.deferred none) = w5 at d2 d3 hU5 ⊢;clear j2 j3 i2 i3 hk4 hU4;refine ⟨_, Zhw (u := .bool b) (v := .int .i64 0) rfl rfl rfl ?_ ?_, rfl, hU5⟩
  ·go_simp
  ·go_simp
 case stop =>
  rintro D1 c V1 _ h _;exact h.elim
end Go.M
namespace Go.M
open Go.Proofs Go.RowKit
theorem Zow {w : World} {col : Col} {q D PP : Nat} {s : DevS} {K S cap T : Nat} {M : Nat → Nat} {V : Nat → Value} (h : DevAt w col q D s K S cap T M V) (hup : s.down = false) (hP : w.cell? ⟨PP, 7, none⟩ = some (.pointer (some ⟨D, 0, none⟩))) {i : Nat} (hi : i < s.n + 2) :
 Calls Tryz.prog 8 #[.pointer (some ⟨PP, 0, none⟩), .int .i64 ((i : Nat) : Int)] w fun e w' => (∃ a n c, e = .returned (.slice a n c) ∧ BytesAt w' (.slice a n c) (s.img i).bs) ∧ Old w w' := by
 have HL : Hid (Calls Tryz.prog 27 #[.pointer (some ⟨D, 0, none⟩), .int .i64 ((i : Nat) : Int)] w fun e w' => e = .returned (.tuple #[.int .i64 (((s.img i).bs.length : Nat) : Int), .int .i64 0]) ∧ Old w w') := by
  obtain ⟨va, vc, hv, c⟩ := h.cells i hi;rw [hup] at c;exact Ze0 c
 have HR := Lib.hid (fun (W : World) (U : Old w W) => Zrx (h.other U (fun _ x => x.elim) (Kept.refl _ _)) hup hi)
 have hPl := World.block_lt_of_cell? w _ hP;clear h
 go_enter Tryz.func8, Tryz.ntmps8
 go_wp2_with (first | (go_at_call 27; refine HL.out.mono ?_; rintro e w1 ⟨rfl, hO⟩; have c7 := Old.cellOf' hO hP; have l7 := World.block_lt_of_cell? w1 _ c7; have H1 := Lib.hid hO; clear hO HL) | (go_at_call 29; refine (HR.out w1 H1.out).mono ?_; rintro e w2 ⟨a, n, c, rfl, hb, hO, hf⟩; have H2 := Lib.hid (And.intro hb (Upd.trans H1.out hO)); clear hb hO hf) | (go_at_call 29; refine Hid.out ?_))
 go_ret;exact ⟨⟨a, n, c, rfl, H2.out.1⟩, H2.out.2⟩
structure RsB (w0 : World) (col : Col) (PP D B X n : Nat) : Prop where
 n1 : 4 ≤ n
 n9 : n ≤ 9
 c0 : w0.cell? ⟨PP, 0, none⟩ = some (.int .i64 ((n : Nat) : Int))
 c7 : w0.cell? ⟨PP, 7, none⟩ = some (.pointer (some ⟨D, 0, none⟩))
 c8 : w0.cell? ⟨PP, 8, none⟩ = some (.pointer (some ⟨B, 0, none⟩))
 c9 : w0.cell? ⟨PP, 9, none⟩ = some (.pointer (some ⟨X, 0, none⟩))
 t : TSl w0 (.pointer (some ⟨B, 0, none⟩)) n
 x : XSl w0 (.pointer (some ⟨X, 0, none⟩)) n
 rP : (col PP).1 ≠ 1
 rB : (col B).1 ≠ 1
 rX : (col X).1 ≠ 1
 new : ∀ b, w0.heap.size ≤ b → (col b).1 = 0
 st : ∀ i, i < n → ∃ st : Nat, ∀ W, Upd (fun b => (col b).1 = 1) w0 W → Calls Tryz.prog 13 #[.pointer (some ⟨B, 0, none⟩), .int .i64 ((i : Nat) : Int)] W fun e w' => e = .returned (.tuple #[.int .i64 ((st : Nat) : Int), .int .i64 0]) ∧ W = w'
 red : ∀ i, i < n → ∃ b : Bool, ∀ W, Upd (fun b => (col b).1 = 1) w0 W → Calls Tryz.prog 11 #[.pointer (some ⟨X, 0, none⟩), .int .i64 ((i : Nat) : Int)] W fun e w' => e = .returned (.tuple #[.bool b, .int .i64 0]) ∧ Old W w'
structure RsD (w0 : World) (col : Col) (D n : Nat) (s : DevS) (w : World) : Prop where
 u : Upd (fun b => (col b).1 = 1) w0 w
 dev : ∃ K S cap T M V, DevAt w col 1 D s K S cap T M V
 n : s.n = n
 up : s.down = false
 o0 : 0 ≤ s.ops
 o1 : s.ops ≤ 700
theorem RsD.old {w0 w w' : World} {col : Col} {D n : Nat} {s : DevS} (h : RsD w0 col D n s w) (U : Old w w') : RsD w0 col D n s w' := by
 obtain ⟨K, S, cap, T, M, V, hd⟩ := h.dev;exact ⟨h.u.after U (fun _ _ x => x.elim), ⟨K, S, cap, T, M, V, hd.other U (fun _ x => x.elim) (Kept.refl _ _)⟩, h.n, h.up, h.o0, h.o1⟩
variable {w0 w : World} {col : Col} {PP D B X n : Nat} {s : DevS}
theorem RsB.cells (b : RsB w0 col PP D B X n) (d : RsD w0 col D n s w) : w.cell? ⟨PP, 0, none⟩ = some (.int .i64 ((n : Nat) : Int)) ∧ w.cell? ⟨PP, 7, none⟩ = some (.pointer (some ⟨D, 0, none⟩)) ∧ w.cell? ⟨PP, 8, none⟩ = some (.pointer (some ⟨B, 0, none⟩)) ∧ w.cell? ⟨PP, 9, none⟩ = some (.pointer (some ⟨X, 0, none⟩)) :=
 ⟨d.u.cellOf b.c0 b.rP, d.u.cellOf b.c7 b.rP, d.u.cellOf b.c8 b.rP, d.u.cellOf b.c9 b.rP⟩
theorem RsD.uns (d : RsD w0 col D n s w) {i : Nat} (hi : i < n) :
 Calls Tryz.prog 7 #[.pointer (some ⟨D, 0, none⟩), .int .i64 ((i : Nat) : Int)] w fun e w' => e = .returned (.tuple #[.int .i64 (((s.img i).bs.length : Int) - ((s.img i).dur : Int)), .int .i64 0]) ∧ Old w w' := by
 obtain ⟨K, S, cap, T, M, V, hd⟩ := d.dev;obtain ⟨va, vc, hv, c⟩ := hd.cells i (by have := d.n; omega)
 rw [d.up] at c;exact ZeY c
theorem RsD.ops (d : RsD w0 col D n s w) (hn : 0 < n) :
 Calls Tryz.prog 6 #[.pointer (some ⟨D, 0, none⟩)] w fun e w' => e = .returned (.int .i64 s.ops) ∧ w = w' := by
 obtain ⟨K, S, cap, T, M, V, hd⟩ := d.dev;obtain ⟨t, f⟩ := hd.fd;have e := d.n;subst e;exact Zou (down := s.down) ⟨f.cell 2, f.cell 3, f.cell 4⟩ hn
theorem RsD.bytes (b : RsB w0 col PP D B X n) (d : RsD w0 col D n s w) {i : Nat} (hi : i < n) :
 Calls Tryz.prog 8 #[.pointer (some ⟨PP, 0, none⟩), .int .i64 ((i : Nat) : Int)] w fun e w' => (∃ a n c, e = .returned (.slice a n c) ∧ BytesAt w' (.slice a n c) (s.img i).bs) ∧ Old w w' := by
 obtain ⟨K, S, cap, T, M, V, hd⟩ := d.dev;exact Zow hd d.up (b.cells d).2.1 (by have := d.n; omega)
theorem RsD.sync (b : RsB w0 col PP D B X n) (d : RsD w0 col D n s w) :
 Calls Tryz.prog 9 #[.pointer (some ⟨D, 0, none⟩), .pointer (some ⟨B, 0, none⟩)] w fun e w' => e = .returned (.int .i64 0) ∧ Upd (fun b => (col b).1 = 1) w w' ∧ (s.ops + (((List.range n).filter (Zas s)).length : Int) ≤ 700 → RsD w0 col D n (s.syns ((List.range n).filter (Zas s))) w') := by
 obtain ⟨K, S, cap, T, M, V, hd⟩ := d.dev;obtain ⟨h1, h2, h3, h4, h5⟩ := ZfF ((List.range n).filter (Zas s)) s;have e := d.n;have o1 := d.o1;have o0 := d.o0;have hT : TSl w (.pointer (some ⟨B, 0, none⟩)) s.n := by rw [e]; exact b.t.upd d.u b.rB
 refine (ZfG hd d.up hT (fun b' hb => b.new b' (Nat.le_trans d.u.size hb)) (by omega)).mono ?_
 rintro en w' ⟨rfl, hD, hU⟩;rw [e] at hD;exact ⟨rfl, hU, fun ho => ⟨d.u.trans hU, hD, h1.trans e, h2.trans d.up, by rw [h3]; omega, by rw [h3]; exact ho⟩⟩
theorem RsD.safe (b : RsB w0 col PP D B X n) (d : RsD w0 col D n s w) (hall : ∀ k, k < n → Zas s k = false) {i : Nat} (hi : i < n) : ∃ r : Bool,
 (∀ W, Old w W → Calls Tryz.prog 10 #[.pointer (some ⟨D, 0, none⟩), .pointer (some ⟨B, 0, none⟩), .pointer (some ⟨X, 0, none⟩), .int .i64 ((i : Nat) : Int)] W fun e w' => e = .returned (.tuple #[.bool r, .int .i64 0]) ∧ Old W w') ∧
 ∀ W, Old w W → Calls Tryz.prog 11 #[.pointer (some ⟨X, 0, none⟩), .int .i64 ((i : Nat) : Int)] W fun e w' => e = .returned (.tuple #[.bool r, .int .i64 0]) ∧ Old W w' := by
 obtain ⟨st, hst⟩ := b.st i hi;obtain ⟨r, hr⟩ := b.red i hi;have e := d.n;have go : ∀ W, Old w W → Upd (fun b => (col b).1 = 1) w0 W := fun W U => d.u.after U (fun _ _ x => x.elim)
 refine ⟨r, fun W U => ?_, fun W U => hr W (go W U)⟩
 have d' := d.old U;obtain ⟨K, S, cap, T, M, V, hd⟩ := d'.dev;exact ZfI (st := st) hd d'.up (by rw [e]; exact b.t.upd (go W U) b.rB) (by rw [e]; exact b.x.upd (go W U) b.rX) (fun b' hb => b.new b' (Nat.le_trans d'.u.size hb)) (by rw [e]; exact hall) (fun W' U' => hst W' (go W' (Upd.trans U U'))) (fun W' U' => hr W' (go W' (Upd.trans U U')))
def Zhx (s : DevS) (k : Nat) : Nat := ((List.range k).filter (Zas s)).length
theorem Ze2 (s : DevS) (k : Nat) : Zhx s k ≤ k := by
 have := List.length_filter_le (Zas s) (List.range k);rwa [List.length_range] at this
theorem Zjv (s : DevS) (n : Nat) (hd : ∀ k, k < n → (s.img k).dur ≤ (s.img k).bs.length) : ∃ s2, s.syns ((List.range n).filter (Zas s)) = s2 ∧ s2.ops = s.ops + (Zhx s n : Int) ∧ (∀ k, k < n → Zas s2 k = false) ∧ (∀ k, k < n → (s2.img k).dur = (s2.img k).bs.length ∧ (s2.img k).bs = (s.img k).bs) ∧ (List.range n).filter (Zas s2) = [] := by
 obtain ⟨h1, h2, h3, h4, h5⟩ := ZfF ((List.range n).filter (Zas s)) s;have hk : ∀ k, k < n → ((s.syns ((List.range n).filter (Zas s))).img k).dur = ((s.syns ((List.range n).filter (Zas s))).img k).bs.length ∧ ((s.syns ((List.range n).filter (Zas s))).img k).bs = (s.img k).bs := fun k hk => by
  by_cases hu : Zas s k = true
  ·rw [h5 k (List.mem_filter.2 ⟨List.mem_range.2 hk, hu⟩)];exact ⟨rfl, rfl⟩
  ·rw [h4 k (fun hm => hu (List.mem_filter.1 hm).2)]
   refine ⟨?_, rfl⟩;have := hd k hk;have hu' : ¬ (s.img k).dur < (s.img k).bs.length := by simpa [Zas] using hu
   omega
 have hu : ∀ k, k < n → Zas (s.syns ((List.range n).filter (Zas s))) k = false := fun k hk' => by
  have := (hk k hk').1;simp [Zas, this]
 refine ⟨_, rfl, h3, hu, hk, ?_⟩;rw [List.filter_eq_nil_iff];intro k hm;rw [hu k (List.mem_range.1 hm)];decide
theorem RsD.durs (d : RsD w0 col D n s w) {k : Nat} (hk : k < n) : (s.img k).dur ≤ (s.img k).bs.length := by
 obtain ⟨K, S, cap, T, M, V, h2⟩ := d.dev;exact (h2.fm k (by have := d.n; omega)).durs
theorem RsD.sync1 (b : RsB w0 col PP D B X n) (d : RsD w0 col D n s w) (ho : s.ops ≤ 600) : ∃ s2, s2.ops = s.ops + (Zhx s n : Int) ∧ (∀ k, k < n → Zas s2 k = false) ∧ (∀ k, k < n → (s2.img k).dur = (s2.img k).bs.length ∧ (s2.img k).bs = (s.img k).bs) ∧ ∀ W, Old w W →
 Calls Tryz.prog 9 #[.pointer (some ⟨D, 0, none⟩), .pointer (some ⟨B, 0, none⟩)] W fun e w' => e = .returned (.int .i64 0) ∧ Upd (fun b => (col b).1 = 1) w w' ∧ RsD w0 col D n s2 w' := by
 obtain ⟨s2, h1, h2, h3, h4, h5⟩ := Zjv s n (fun k hk => d.durs hk)
 refine ⟨s2, h2, h3, h4, fun W U => ((d.old U).sync b).mono ?_⟩
 rintro e w' ⟨rfl, hU, hd⟩;rw [h1] at hd;have := Ze2 s n;have := b.n9;exact ⟨rfl, (U.mono (fun _ _ x => x.elim)).trans hU, hd (by unfold Zhx at *; omega)⟩
end Go.M
namespace Go.M
open Go.Proofs Go.RowKit
set_option linter.unusedSimpArgs false
attribute [local go_sem] Oper.semAt_some
theorem Zl4 {w : World} {col : Col} {D B X st : Nat} {s : DevS} {K S cap T : Nat} {M : Nat → Nat} {V : Nat → Value} {i : Nat} (h : DevAt w col 1 D s K S cap T M V) (hup : s.down = false) (ht : TSl w (.pointer (some ⟨B, 0, none⟩)) s.n) (hx : XSl w (.pointer (some ⟨X, 0, none⟩)) s.n) (hc : ∀ b, w.heap.size ≤ b → (col b).1 = 0) (hui : Zas s i = false) (hex : ∃ k, k < s.n ∧ Zas s k = true)
 (hS : ∀ W, Old w W → Calls Tryz.prog 13 #[.pointer (some ⟨B, 0, none⟩), .int .i64 ((i : Nat) : Int)] W fun e w' => e = .returned (.tuple #[.int .i64 ((st : Nat) : Int), .int .i64 0]) ∧ W = w') :
 Calls Tryz.prog 10 #[.pointer (some ⟨D, 0, none⟩), .pointer (some ⟨B, 0, none⟩), .pointer (some ⟨X, 0, none⟩), .int .i64 ((i : Nat) : Int)] w fun e w' => e = .returned (.tuple #[.bool false, .int .i64 0]) ∧ Old w w' := by
 have hlo := h.lo;have hhi := h.hi;have hds : DSl w (.pointer (some ⟨D, 0, none⟩)) s.n := by
  obtain ⟨t, hd⟩ := h.fd;have h4 := hd.cell 4;rw [hup] at h4;exact .inr ⟨D, rfl, hd.cell 2, h4⟩
 have HC := Lib.hid (fun (W : World) (U : Old w W) => ZdR (sl := ((i : Nat) : Int)) (st := st) (hds.old U) (ht.old U) (hx.old U) (by omega) (by omega) (fun W' U' => hS W' (Upd.trans U U')))
 have HH := Lib.hid h;have HCO := Lib.hid hc;clear hds ht hx h hc hS;refine (callsIn_wide (n := 8)).1 ?_;refine callsIn_of_wp_marks Tryz.func10 rfl trivial ?_ rfl;simp only [Tryz.ntmps10, List.size_toArray, List.length_cons, List.length_nil, Nat.reduceAdd, Nat.reduceSub, Array.replicate_succ, Array.replicate_zero, List.push_toArray, List.append_toArray, List.nil_append, List.cons_append];refine wpIn_wide.2 ?_
 go_wp2_with (first | (go_at_call 33; refine (HC.out _ ?_).mono ?_; (exact ((((Upd.refl _ w).alloc _).alloc _).alloc _)); rintro e w1 ⟨rfl, hU⟩; have b7 : w1.cell? ⟨w.heap.size, 0, none⟩ = some (.int .i64 ((i : Nat) : Int)) := Old.cellOf' hU (by go_simp); have b8 := Old.has hU ((ZlW w _ 4 #[.bool false]).alloc _); have b9 := Old.has hU (ZlX w _ _ 38 #[.int .i64 0]); have hB : Zju w i w1 := ⟨b7, ⟨_, b8⟩, ⟨_, b9⟩, Upd.trans ((((Upd.refl _ w).alloc _).alloc _).alloc _) hU⟩; clear hU b7 b8 b9) | (go_at_call 33; refine Hid.out ?_) | go_in)
 obtain ⟨W0, hW0⟩ : ∃ W0, w1.alloc (.cells #[.pointer (some ⟨D, 0, none⟩)] 31) = W0 := ⟨_, rfl⟩;obtain ⟨PD, hPD⟩ : ∃ PD, w1.heap.size = PD := ⟨_, rfl⟩;have hB0 : Zju w i W0 := by rw [← hW0]; exact hB.old ((Upd.refl _ w1).alloc _)
 have P0 : W0.cell? ⟨PD, 0, none⟩ = some (.pointer (some ⟨D, 0, none⟩)) := by rw [← hW0, ← hPD]; exact (Has.new w1 _ _).cell 0
 rw [hW0, hPD];have hz := hB0.2.2.2.size;clear hW0 hPD hB;refine (wpIn_wide (n := 8)).1 ?_;refine ZcD rfl (by omega) (gf := 77) (lb := #[.pointer (some ⟨PD, 0, none⟩)]) rfl trivial (enters_of Tryz.func77 (by kernel_rfl) rfl) (encs := fun i : Nat => #[.int .i64 ((i : Nat) : Int)]) (fun _ => rfl)
  (Zgq 7 (by omega) (PD := PD) (D := D) (col := col) (s0 := s) (st := fun _ => s) (by omega) (fun pre => ⟨rfl, hup, fun _ _ => rfl⟩))
  (fun pre V => pre = [] ∧ UG PD D col s V ∧ Zju w i V)
  (fun c V => c = .ret ∧ Zju w i V) (fun pre A B' row hs hg hr => ⟨hs.1, hs.2.1.grown (B := w.heap.size) hg HCO.out (fun r e => ⟨by have := (hr r e).1; omega, (hr r e).2⟩), hs.2.2.grown hz hg hr⟩) (fun _ _ A B' row hs hg hr => ⟨hs.1, hs.2.grown hz hg hr⟩) ⟨rfl, ⟨P0, K, S, cap, T, M, V, HH.out.other hB0.2.2.2 (fun _ x => x.elim) (Kept.refl _ _)⟩, hB0⟩ (fun pre V h => h.2.1)
  (fun i' => { tmps := #[.pointer (some ⟨D, 0, none⟩), .pointer (some ⟨B, 0, none⟩), .pointer (some ⟨X, 0, none⟩), .int .i64 ((i : Nat) : Int), undef, undef, undef, .pointer (some ⟨w.heap.size, 0, none⟩), .pointer (some ⟨w.heap.size + 1, 0, none⟩), .pointer (some ⟨w.heap.size + 1 + 1, 0, none⟩), .int .i64 ((st : Nat) : Int), .int .i64 0, .int .i64 ((i' : Nat) : Int), .tuple #[.int .i64 ((st : Nat) : Int), .int .i64 0], .pointer (some ⟨D, 0, none⟩), .pointer (some ⟨B, 0, none⟩), .pointer (some ⟨X, 0, none⟩), .int .i64 ((i : Nat) : Int), .tuple #[.int .i64 ((st : Nat) : Int), .int .i64 0], .int .i64 ((st : Nat) : Int), .int .i64 0, .int .i64 0, .bool false, undef, .pointer (some ⟨D, 0, none⟩), .func (.func 77) #[] #[.pointer (some ⟨PD, 0, none⟩)], .int .i64 ((i' : Nat) : Int), undef, undef, undef, undef, undef, undef, undef, undef], defers := [] })
  ?assign ?body ?done ?stop
 case assign =>
  intro l x V K hK
  gi_wp2
  exact hK
 case body =>
  rintro l pre x V1 hl ⟨_, _, hB1⟩ ⟨hx, _, hu⟩;have hxi : x ≠ i := by rintro rfl; rw [hui] at hu; cases hu
  have g1 : ((x : Int) != (i : Int)) = true := by rw [bne_iff_ne]; omega
  have g2 : ¬ (x : Int) = (i : Int) := by omega
  have s0 := hB1.1;have hz1 := hB1.2.2.2.size;obtain ⟨t2, h2⟩ := hB1.2.1;obtain ⟨t3, h3⟩ := hB1.2.2.1;have hz2 := h3.lt;have hz0 : w.heap.size + 1 + 1 < W0.heap.size := by obtain ⟨_, h⟩ := hB0.2.2.1; exact h.lt
  have c2 : V1.cell? ⟨w.heap.size + 1, 0, none⟩ = some (.bool false) := h2.cell 0;have c3 : V1.cell? ⟨w.heap.size + 1 + 1, 0, none⟩ = some (.int .i64 0) := h3.cell 0;have f2 := h2.frozen 0;have f3 := h3.frozen 0;have U : Upd (fun b => b = w.heap.size + 1 ∨ b = w.heap.size + 1 + 1) V1 ((V1.setCell ⟨w.heap.size + 1, 0, none⟩ (.bool false)).setCell ⟨w.heap.size + 1 + 1, 0, none⟩ (.int .i64 0)) := ((Upd.refl _ V1).setCell _ _ (.inl (.inl rfl))).setCell _ _ (.inl (.inr rfl))
  have hB2 : Zju w i ((V1.setCell ⟨w.heap.size + 1, 0, none⟩ (.bool false)).setCell ⟨w.heap.size + 1 + 1, 0, none⟩ (.int .i64 0)) := by
   refine ⟨U.cellOf s0 (by show ¬ (_ ∨ _); omega), ⟨t2, by simpa using (h2.set 0 (.bool false)).setOther (a := ⟨w.heap.size + 1 + 1, 0, none⟩) (by simp) (.int .i64 0)⟩, ⟨t3, by simpa using (h3.setOther (a := ⟨w.heap.size + 1, 0, none⟩) (by simp) (.bool false)).set 0 (.int .i64 0)⟩, (hB1.2.2.2.setCell _ _ (.inr (by simp))).setCell _ _ (.inr (by simp; omega))⟩
  gi_wp2
  exact ⟨ZaJ U (fun b hb => by rcases hb with rfl | rfl <;> omega), rfl, hB2⟩
 case done =>
  rintro D1 xs V1 hD rfl ⟨h0, _⟩ _;obtain ⟨k, h1, h2⟩ := hex;have : k ∈ (List.range s.n).filter (Zas s) := List.mem_filter.2 ⟨List.mem_range.2 h1, h2⟩;rw [h0] at this;cases this
 case stop =>
  rintro D1 c V1 hD ⟨rfl, hB1⟩ hKD
  gi_wp2
  have hz0 := World.block_lt_of_cell? W0 _ hB0.1;have hzz : w.heap.size + 1 + 1 < W0.heap.size := by obtain ⟨_, h⟩ := hB0.2.2.1; exact h.lt
  obtain ⟨_, ⟨t2, i2⟩, ⟨t3, i3⟩, hU4⟩ := hB1;have j2 : Has (V1.putObj D1 (.deferred none)) (w.heap.size + 1) t2 #[.bool false] := (World.putObj_heap_other (by omega)).trans i2
  have j3 : Has (V1.putObj D1 (.deferred none)) (w.heap.size + 1 + 1) t3 #[.int .i64 0] := (World.putObj_heap_other (by omega)).trans i3
  have d2 : (V1.putObj D1 (.deferred none)).cell? ⟨w.heap.size + 1, 0, none⟩ = some (.bool false) := j2.cell 0;have d3 : (V1.putObj D1 (.deferred none)).cell? ⟨w.heap.size + 1 + 1, 0, none⟩ = some (.int .i64 0) := j3.cell 0;have hU5 : Old w (V1.putObj D1 (.deferred none)) := hU4.grown (grownBy_putObj' _ D1 _) (fun k e => by cases e; exact .inr (by omega))
  refine ⟨by simp, .inl ⟨_, _, rfl, run_takeDeferred hKD, ?_⟩⟩
  generalize V1.putObj D1 (.deferred none) = w5 at d2 d3 hU5 ⊢;clear j2 j3 i2 i3 hU4;refine ⟨_, Zhw (u := .bool false) (v := .int .i64 0) rfl rfl rfl ?_ ?_, rfl, hU5⟩
  ·go_simp
  ·go_simp
end Go.M
