/- Walks 30. -/
import Derived.Test.YtjadmbkmlehfdaaGreatDoorProg
import Derived.Test.YtjadmbkmlehfdaaGreatDoorK25
import Derived.Test.YtjadmbkmlehfdaaGreatDoorK12
set_option linter.unusedVariables false
set_option linter.unusedSimpArgs false
set_option maxRecDepth 100000
namespace Go.M
open Go.Proofs Go.RowKit Go.Shelf
set_option linter.unusedSimpArgs false
attribute [local go_sem] Oper.semAt_some
def Ent.zero : Ent := ⟨0, ⟨#[]⟩, false, 0, 0, 0⟩
structure NwI (w : World) (y : Ent) (r : Bool) (W : World) : Prop where
 e : Has W w.heap.size 47 #[.int .i64 ((y.seq : Nat) : Int), .string y.key, .bool y.del, .int .i64 ((y.slot : Nat) : Int), .int .i64 ((y.off : Nat) : Int), .int .i64 ((y.size : Nat) : Int)]
 b : Has W (w.heap.size + 1) 4 #[.bool r]
 u : Old w W
theorem NwI.grown {w X Y : World} {y : Ent} {r : Bool} {row : Option Nat} {B : Nat} (hB : w.heap.size + 1 < B) (h : NwI w y r X) (hg : X.grownBy Y row) (hr : ∀ k, row = some k → B ≤ k ∧ ∃ o : Obj, X.heap[k]? = some o ∧ o.isCells = false) : NwI w y r Y := by
 have U : Upd (fun b => row = some b) X Y := (Upd.refl _ X).grown hg (fun k e => .inl e)
 exact ⟨U.has h.e (fun e => by have := (hr _ e).1; omega), U.has h.b (fun e => by have := (hr _ e).1; omega), h.u.grown hg (fun k e => .inr (by have := (hr k e).1; omega))⟩
theorem NwI.old {w X Y : World} {y : Ent} {r : Bool} (h : NwI w y r X) (U : Old X Y) : NwI w y r Y := ⟨Old.has U h.e, Old.has U h.b, h.u.trans U⟩
theorem nw_put {w W : World} {y : Ent} {r : Bool} (h : NwI w y r W) (x : Ent) (r' : Bool) : NwI w x r' (((((((W.setCell ⟨w.heap.size, 0, none⟩ (.int .i64 ((x.seq : Nat) : Int))).setCell ⟨w.heap.size, 1, none⟩ (.string x.key)).setCell ⟨w.heap.size, 2, none⟩ (.bool x.del)).setCell ⟨w.heap.size, 3, none⟩ (.int .i64 ((x.slot : Nat) : Int))).setCell ⟨w.heap.size, 4, none⟩ (.int .i64 ((x.off : Nat) : Int))).setCell ⟨w.heap.size, 5, none⟩ (.int .i64 ((x.size : Nat) : Int))).setCell ⟨w.heap.size + 1, 0, none⟩ (.bool r')) := by
 have n1 : w.heap.size + 1 ≠ w.heap.size := by omega
 have n2 : w.heap.size ≠ w.heap.size + 1 := by omega
 refine ⟨?_, ?_, ((((((h.u.setCell _ _ (.inr (Nat.le_refl _))).setCell _ _ (.inr (Nat.le_refl _))).setCell _ _ (.inr (Nat.le_refl _))).setCell _ _ (.inr (Nat.le_refl _))).setCell _ _ (.inr (Nat.le_refl _))).setCell _ _ (.inr (Nat.le_refl _))).setCell _ _ (.inr (by simp))⟩
 ·have := (((((((h.e.set 0 (.int .i64 ((x.seq : Nat) : Int))).set 1 (.string x.key)).set 2 (.bool x.del)).set 3 (.int .i64 ((x.slot : Nat) : Int))).set 4 (.int .i64 ((x.off : Nat) : Int))).set 5 (.int .i64 ((x.size : Nat) : Int))).setOther (a := ⟨w.heap.size + 1, 0, none⟩) n1 (.bool r'))
  simpa using this
 ·have := (((((((h.b.setOther (a := ⟨w.heap.size, 0, none⟩) n2 (.int .i64 ((x.seq : Nat) : Int))).setOther (a := ⟨w.heap.size, 1, none⟩) n2 (.string x.key)).setOther (a := ⟨w.heap.size, 2, none⟩) n2 (.bool x.del)).setOther (a := ⟨w.heap.size, 3, none⟩) n2 (.int .i64 ((x.slot : Nat) : Int))).setOther (a := ⟨w.heap.size, 4, none⟩) n2 (.int .i64 ((x.off : Nat) : Int))).setOther (a := ⟨w.heap.size, 5, none⟩) n2 (.int .i64 ((x.size : Nat) : Int))).set 0 (.bool r'))
  simpa using this
set_option maxHeartbeats 1600000 in
theorem newest_walk {w : World} {X O S m c : Nat} {ky : ByteArray} {sv : Value} {es : List Ent} (h : IxK w X O S m c ky sv es) :
 Calls Tryz.prog 67 #[.pointer (some ⟨X, 0, none⟩), .string ky] w fun e w' => e = .returned (.tuple #[(es.headD Ent.zero).val, .bool (!es.isEmpty)]) ∧ Old w w' := by
 obtain ⟨hX0, hX1, hm, hG, own, hl⟩ := h
 have hz := withQ_map (fun _ => True) es (fun _ _ => trivial)
 have hE : EntsB w.heap.size w sv (withQ (fun _ => True) es (fun _ _ => trivial)) := EntsB.of_own own _ hz
 generalize withQ (fun _ => True) es (fun _ _ => trivial) = zs at hz hE
 have hzl : zs.length = es.length := by rw [← hz, List.length_map]
 have HG := Lib.hid hG
 have HZ := Lib.hid hz
 clear own hG hz
 refine (callsIn_wide (n := 8)).1 ?_
 refine callsIn_of_wp_marks Tryz.func67 rfl trivial ?_ rfl
 simp only [Tryz.ntmps67, List.size_toArray, List.length_cons, List.length_nil, Nat.reduceAdd, Nat.reduceSub, Array.replicate_succ, Array.replicate_zero, List.push_toArray, List.append_toArray, List.nil_append, List.cons_append]
 refine wpIn_wide.2 ?_
 go_wp2_with (first | go_in)
 generalize hW0 : World.alloc (World.alloc (World.alloc (World.alloc w _) _) _) _ = W0
 have U0 : Old w W0 := by subst hW0; exact ((((Upd.refl _ w).alloc _).alloc _).alloc _).alloc _
 have c0 : NwI w Ent.zero false W0 := by
  subst hW0
  exact ⟨(show Old _ _ from (((Upd.refl _ _).alloc _).alloc _).alloc _).has (Has.new w _ _), (show Old _ _ from ((Upd.refl _ _).alloc _).alloc _).has (by have := Has.new (w.alloc (.cells #[.int .i64 0, .string ⟨#[]⟩, .bool false, .int .i64 0, .int .i64 0, .int .i64 0] 47)) 4 #[.bool false]; rwa [World.size_alloc] at this), U0⟩
 have c2 : W0.cell? ⟨w.heap.size + 1 + 1, 0, none⟩ = some (.pointer (some ⟨X, 0, none⟩)) := by subst hW0; go_simp
 have c3 : W0.cell? ⟨w.heap.size + 1 + 1 + 1, 0, none⟩ = some (.string ky) := by subst hW0; go_simp
 have z0 : W0.heap.size = w.heap.size + 4 := by subst hW0; simp
 clear hW0
 refine (wpIn_wide (n := 8)).1 ?_
 refine wpIn_rangeFunc_ownH rfl (by omega) (gf := 214) (lb := #[.pointer (some ⟨w.heap.size + 1 + 1, 0, none⟩), .pointer (some ⟨w.heap.size + 1 + 1 + 1, 0, none⟩)]) rfl trivial (enters_of Tryz.func214 (by kernel_rfl) rfl)
  (of_at_stops (zs := zs) (n₀ := w.heap.size) 7 (by omega) (w.heap.size + 1 + 1) (w.heap.size + 1 + 1 + 1) (by omega) (by omega) c2 c3 (Old.cellOf' U0 hX0) (Old.cellOf' U0 hX1) hm (fun W' U => HG.out W' (Upd.trans U0 U)) (hE.old U0)) belowK_t (belowK_b (by omega)) (Below.refl _ _) (fun _ => rfl)
  (fun (pre : List {x : Ent // True}) W => pre = [] ∧ NwI w Ent.zero false W)
  (fun cd (pre : List {x : Ent // True}) W => cd = .ret ∧ ∃ x, pre.map (·.1) = [x] ∧ NwI w x true W)
  (fun pre A B row hs hg hr => ⟨hs.1, hs.2.grown (B := W0.heap.size) (by omega) hg hr⟩)
  (fun cd pre A B row hs hg hr => by obtain ⟨h1, x, h2, h3⟩ := hs; exact ⟨h1, x, h2, h3.grown (B := W0.heap.size) (by omega) hg hr⟩)
  ⟨rfl, c0⟩
  (fun x a' W => ∃ Bx, w.heap.size + 1 < Bx ∧ Has W Bx 47 #[.int .i64 ((x.1.seq : Nat) : Int), .string x.1.key, .bool x.1.del, .int .i64 ((x.1.slot : Nat) : Int), .int .i64 ((x.1.off : Nat) : Int), .int .i64 ((x.1.size : Nat) : Int)] ∧ a' = { tmps := #[.pointer (some ⟨X, 0, none⟩), .string ky, undef, undef, .pointer (some ⟨w.heap.size, 0, none⟩), .pointer (some ⟨w.heap.size + 1, 0, none⟩), .pointer (some ⟨Bx, 0, none⟩), .pointer (some ⟨X, 0, none⟩), .string ky, .func (.func 214) #[] #[.pointer (some ⟨w.heap.size + 1 + 1, 0, none⟩), .pointer (some ⟨w.heap.size + 1 + 1 + 1, 0, none⟩)], x.1.val, undef, undef], defers := [] })
  (fun x a' _ A B row hs hg hr => by obtain ⟨Bx, h1, h2, h3⟩ := hs; exact ⟨Bx, h1, has_own Bx _ (fun (_ : Unit) => #[.int .i64 ((x.1.seq : Nat) : Int), .string x.1.key, .bool x.1.del, .int .i64 ((x.1.slot : Nat) : Int), .int .i64 ((x.1.off : Nat) : Int), .int .i64 ((x.1.size : Nat) : Int)]) () A B row h2 hg (fun r e => (hr r e).2), h3⟩)
  ?assign ?body ?done ?stop
 case assign =>
  rintro l pre x W K ⟨hpf, hA⟩ hK
  unfold Ent.val
  gi_wp2
  exact hK _ _ ((KeepsOthers.alloc _ _).from _) ((Below.refl _ W).alloc hA.u.size _) ⟨hpf, hA.old ((Upd.refl _ W).alloc _)⟩ ⟨W.heap.size, hA.b.lt, Has.new W _ _, rfl⟩
 case body =>
  rintro l pre x a' W hl2 ⟨r, hr⟩ ⟨rfl, hA⟩ ⟨Bx, hBx, hX, rfl⟩ hlt
  unfold Ent.val
  have x0 : W.cell? ⟨Bx, 0, none⟩ = some (.int .i64 ((x.1.seq : Nat) : Int)) := hX.cell 0
  have x1 : W.cell? ⟨Bx, 1, none⟩ = some (.string x.1.key) := hX.cell 1
  have x2 : W.cell? ⟨Bx, 2, none⟩ = some (.bool x.1.del) := hX.cell 2
  have x3 : W.cell? ⟨Bx, 3, none⟩ = some (.int .i64 ((x.1.slot : Nat) : Int)) := hX.cell 3
  have x4 : W.cell? ⟨Bx, 4, none⟩ = some (.int .i64 ((x.1.off : Nat) : Int)) := hX.cell 4
  have x5 : W.cell? ⟨Bx, 5, none⟩ = some (.int .i64 ((x.1.size : Nat) : Int)) := hX.cell 5
  have hE0 := hA.e
  have hb := hA.b
  have b0 : W.cell? ⟨w.heap.size + 1, 0, none⟩ = some (.bool false) := hb.cell 0
  have fb := hb.frozen 0
  have e0 : ∀ j, j < 6 → (W.cell? ⟨w.heap.size, j, none⟩).isSome = true := fun j hj => by
   rw [hE0.cell]
   have : j < (#[Value.int .i64 ((Ent.zero.seq : Nat) : Int), .string Ent.zero.key, .bool Ent.zero.del, .int .i64 ((Ent.zero.slot : Nat) : Int), .int .i64 ((Ent.zero.off : Nat) : Int), .int .i64 ((Ent.zero.size : Nat) : Int)] : Array Value).size := hj
   rw [Array.getElem?_eq_getElem this]; rfl
  have y0 : W.cell? ⟨w.heap.size, 0, none⟩ = some (.int .i64 0) := hE0.cell 0
  have y1 : W.cell? ⟨w.heap.size, 1, none⟩ = some (.string ⟨#[]⟩) := hE0.cell 1
  have y2 : W.cell? ⟨w.heap.size, 2, none⟩ = some (.bool false) := hE0.cell 2
  have y3 : W.cell? ⟨w.heap.size, 3, none⟩ = some (.int .i64 0) := hE0.cell 3
  have y4 : W.cell? ⟨w.heap.size, 4, none⟩ = some (.int .i64 0) := hE0.cell 4
  have y5 : W.cell? ⟨w.heap.size, 5, none⟩ = some (.int .i64 0) := hE0.cell 5
  have fe := hE0.frozen
  gi_wp2
  exact ⟨keepsFrom_upd ((((((((Upd.refl (fun b => b = w.heap.size ∨ b = w.heap.size + 1) W).setCell _ _ (.inl (.inl rfl))).setCell _ _ (.inl (.inl rfl))).setCell _ _ (.inl (.inl rfl))).setCell _ _ (.inl (.inl rfl))).setCell _ _ (.inl (.inl rfl))).setCell _ _ (.inl (.inl rfl))).setCell ⟨w.heap.size + 1, 0, none⟩ (.bool true) (.inl (.inr rfl))) (fun b hb => by rcases hb with rfl | rfl <;> omega), rfl, x.1, rfl, nw_put hA x.1 true⟩
 case done =>
  rintro D ys W hD rfl ⟨rfl, hA⟩ hK
  have hes : es = [] := by rw [← HZ.out]; rfl
  have hE0 := hA.e
  have hb := hA.b
  have b0 : W.cell? ⟨w.heap.size + 1, 0, none⟩ = some (.bool false) := hb.cell 0
  have fb := hb.frozen 0
  have y0 : W.cell? ⟨w.heap.size, 0, none⟩ = some (.int .i64 0) := hE0.cell 0
  have y1 : W.cell? ⟨w.heap.size, 1, none⟩ = some (.string ⟨#[]⟩) := hE0.cell 1
  have y2 : W.cell? ⟨w.heap.size, 2, none⟩ = some (.bool false) := hE0.cell 2
  have y3 : W.cell? ⟨w.heap.size, 3, none⟩ = some (.int .i64 0) := hE0.cell 3
  have y4 : W.cell? ⟨w.heap.size, 4, none⟩ = some (.int .i64 0) := hE0.cell 4
  have y5 : W.cell? ⟨w.heap.size, 5, none⟩ = some (.int .i64 0) := hE0.cell 5
  have fe := hE0.frozen
  have hp := nw_put hA Ent.zero false
  have HP := Lib.hid hp
  have HKK := Lib.hid hK
  clear hp hK hA hE0 hb
  go_wp2
  obtain ⟨W3, hW3⟩ : ∃ W3, (((((((W.setCell ⟨w.heap.size, 0, none⟩ (.int .i64 0)).setCell ⟨w.heap.size, 1, none⟩ (.string ⟨#[]⟩)).setCell ⟨w.heap.size, 2, none⟩ (.bool false)).setCell ⟨w.heap.size, 3, none⟩ (.int .i64 0)).setCell ⟨w.heap.size, 4, none⟩ (.int .i64 0)).setCell ⟨w.heap.size, 5, none⟩ (.int .i64 0)).setCell ⟨w.heap.size + 1, 0, none⟩ (.bool false)) = W3 := ⟨_, rfl⟩
  have hp : NwI w Ent.zero false W3 := by rw [← hW3]; exact HP.out
  have hK' : W3.heap[D]? = some (.deferred (some [])) := by
   rw [← hW3]
   have U : Upd (fun b => b = w.heap.size ∨ b = w.heap.size + 1) W _ := (((((((Upd.refl (fun b => b = w.heap.size ∨ b = w.heap.size + 1) W).setCell ⟨w.heap.size, 0, none⟩ (.int .i64 0) (.inl (.inl rfl))).setCell ⟨w.heap.size, 1, none⟩ (.string ⟨#[]⟩) (.inl (.inl rfl))).setCell ⟨w.heap.size, 2, none⟩ (.bool false) (.inl (.inl rfl))).setCell ⟨w.heap.size, 3, none⟩ (.int .i64 0) (.inl (.inl rfl))).setCell ⟨w.heap.size, 4, none⟩ (.int .i64 0) (.inl (.inl rfl))).setCell ⟨w.heap.size, 5, none⟩ (.int .i64 0) (.inl (.inl rfl))).setCell ⟨w.heap.size + 1, 0, none⟩ (.bool false) (.inl (.inr rfl))
   exact (U.keep D (Array.getElem?_eq_some_iff.1 HKK.out).1 (fun e => by rcases e with e | e <;> omega)).trans HKK.out
  rw [hW3]
  clear hW3
  have hAq := hp.grown (B := W0.heap.size) (by omega) (grownBy_putObj' _ D (.deferred none)) (fun k e => by cases e; exact ⟨hD, _, hK', rfl⟩)
  refine ⟨by simp, .inl ⟨_, _, rfl, run_takeDeferred hK', ?_⟩⟩
  have q0 := hAq.e.cell 0
  have q1 := hAq.e.cell 1
  have q2 := hAq.e.cell 2
  have q3 := hAq.e.cell 3
  have q4 := hAq.e.cell 4
  have q5 := hAq.e.cell 5
  have qb := hAq.b.cell 0
  simp only [List.getElem?_toArray, List.getElem?_cons_zero, List.getElem?_cons_succ] at q0 q1 q2 q3 q4 q5 qb
  rw [hes]
  refine ⟨.tuple #[Ent.zero.val, .bool false], ?_, rfl, hAq.u⟩
  unfold Ent.val
  simp [results, Tryz.f67, go_sem, q0, q1, q2, q3, q4, q5, qb]
 case stop =>
  rintro D cd pre W hD ⟨tl, hpre⟩ ⟨rfl, x, hx, hA⟩ hK
  have hAq := hA.grown (B := W0.heap.size) (by omega) (grownBy_putObj' _ D (.deferred none)) (fun k e => by cases e; exact ⟨hD, _, hK, rfl⟩)
  have hes : ∃ tl', es = x :: tl' := ⟨tl.map (·.1), by rw [← HZ.out, ← hpre, List.map_append, hx]; rfl⟩
  obtain ⟨tl', rfl⟩ := hes
  gi_wp2
  refine ⟨by simp, .inl ⟨_, _, rfl, run_takeDeferred hK, ?_⟩⟩
  have q0 := hAq.e.cell 0
  have q1 := hAq.e.cell 1
  have q2 := hAq.e.cell 2
  have q3 := hAq.e.cell 3
  have q4 := hAq.e.cell 4
  have q5 := hAq.e.cell 5
  have qb := hAq.b.cell 0
  simp only [List.getElem?_toArray, List.getElem?_cons_zero, List.getElem?_cons_succ] at q0 q1 q2 q3 q4 q5 qb
  refine ⟨.tuple #[x.val, .bool true], ?_, rfl, hAq.u⟩
  unfold Ent.val
  simp [results, Tryz.f67, go_sem, q0, q1, q2, q3, q4, q5, qb]
end Go.M
namespace Go.M
open Go.Proofs Go.RowKit Go.Shelf
set_option linter.unusedSimpArgs false
def liveOf (es : List Ent) : Option Ent := match es with
 | [] => none
 | e :: _ => if e.del then none else some e
end Go.M
namespace Go.M
open Go.Proofs Go.RowKit Go.Shelf
set_option linter.unusedSimpArgs false
def sumL (L : Nat → Nat) : Nat → Nat
 | 0 => 0
 | k + 1 => sumL L k + L k
theorem ilen {w : World} {X S m c : Nat} {L : Nat → Nat} (hX1 : w.cell? ⟨X, 1, none⟩ = some (.slice (some ⟨S, 0, none⟩) m c)) (h0 : 0 < m) (hm : m ≤ 10) (hS : ∀ i, i < m → ∃ a b, w.cell? ⟨S, i, none⟩ = some (.slice a (L i) b)) (hL : ∀ i, i < m → L i ≤ 1000) :
 Calls Tryz.prog 48 #[.pointer (some ⟨X, 0, none⟩)] w fun e w' => e = .returned (.int .i64 ((sumL L m : Nat) : Int)) ∧ Old w w' := by
 have hm0 : (0 : Int) < (m : Int) := by omega
 have HS := Lib.hid hS
 have HL := Lib.hid hL
 have hsum : ∀ k, k ≤ m → sumL L k ≤ k * 1000 := by
  intro k
  induction k with
  | zero => intro _; simp [sumL]
  | succ k ih => intro hk; have := ih (by omega); have := hL k (by omega); simp only [sumL]; omega
 have HSM := Lib.hid hsum
 clear hS hL hsum
 go_enter Tryz.func48, Tryz.ntmps48
 go_wp2_with (first | go_in)
 go_loopw [3, 5, 13] (fun a _ i wr => ∃ k : Nat, k ≤ m ∧ i = .int .i64 k ∧ a = .int .i64 ((sumL L k : Nat) : Int) ∧ Old w wr) (fun _ _ i _ => m - (intOf i).toNat)
 case atStart => exact ⟨0, Nat.zero_le _, rfl, rfl, Upd.refl _ _⟩
 case round =>
  obtain ⟨k, hk, rfl, rfl, hU⟩ := hrel
  by_cases hkm : k < m
  ·obtain ⟨a, b, hc⟩ := HS.out k hkm
   have ck := Old.cellOf' hU hc
   have hl := HL.out k hkm
   have hs := HSM.out k hk
   have g0 : (k : Int) < (m : Int) := by omega
   have g1 : IntKind.i64.wrap (((sumL L k : Nat) : Int) + ((L k : Nat) : Int)) = ((sumL L k : Nat) : Int) + ((L k : Nat) : Int) := IntWalk.i64_in _ (by omega)
   have HU := Lib.hid hU
   clear hU hc
   go_wp2
   go_roundw
   case rel => exact ⟨k + 1, hkm, by simp, by simp [sumL], HU.out⟩
   case measure => simp [intOf]; omega
  ·obtain rfl : m = k := by omega
   go_wp2
   go_ret
   exact ⟨rfl, hU⟩
end Go.M
namespace Go.M
open Go.Proofs Go.RowKit Go.Shelf
set_option linter.unusedSimpArgs false
theorem own_ents {w : World} {v : Value} {es : List Ent} (h : w.ownsRow 0 47 6 v es.length (rowOf es)) : (v = .slice none 0 0 ∧ es = []) ∨ ∃ g cap, v = .slice (some ⟨g, 0, none⟩) es.length cap ∧ ∀ i e, es[i]? = some e → ∀ j u, e.cells[j]? = some u → w.cell? ⟨g, i * 6 + j, none⟩ = some u := by
 have hz := withQ_map (fun _ => True) es (fun _ _ => trivial)
 rcases EntsB.of_own h _ hz with ⟨h1, h2⟩ | ⟨g, cap, h1, _, h3⟩
 ·exact .inl ⟨h1, by rw [← hz, h2]; rfl⟩
 ·refine .inr ⟨g, cap, ?_, fun i e hi j u hj => ?_⟩
  ·rw [h1, ← List.length_map (·.1), hz]
  ·have hi' : ((withQ (fun _ => True) es (fun _ _ => trivial))[i]?).map (·.1) = some e := by rw [← List.getElem?_map, hz]; exact hi
   obtain ⟨e', he, rfl⟩ := Option.map_eq_some_iff.1 hi'
   exact h3 i e' he j u hj
theorem run_append_none {P : Program} (w : World) (t ty e : TypeId) (i : TypeInfo) (ht : P.underlying t = some (.slice e)) (hi : P.info? e = some i) (oa : Option Addr) (n c : Nat) (h : n ≤ c) :
 (Builtin.append_ #[t, t] ty #[.slice oa n c, .slice none 0 0]).run P w = .ok (.slice oa n c) w := by
 have h2 : n + 0 ≤ c := h
 cases oa <;> simp [Builtin.append_, go_sem, run_underlying ht, run_sizeOf w hi, h]
theorem wpList_append_none {P : Program} {w : World} {ops : Array Oper} {rest : List Oper} {o : Oper} {a : Act} {Q : Exit → Act → World → Prop} (hgd : o.guard = none) (s x : Operand) (t : TypeId)
 (ho : o.op = .call { callee := .builtin .append, args := #[s, x], argTypes := #[t, t] })
 (e : TypeId) (i : TypeInfo) (ht : P.underlying t = some (.slice e)) (hi : P.info? e = some i) (oa : Option Addr) (n c : Nat) (hs : a.eval s = .slice oa n c) (hx : a.eval x = .slice none 0 0) (hn : n ≤ c)
 (h : wpList P ops Q rest (a.put o.dst (.slice oa n c)) w) : wpList P ops Q (o :: rest) a w := by
 refine wpList_plain hgd fun K hK => ?_
 have hr := run_append_none (P := P) w t o.type e i ht hi oa n c hn
 unfold Oper.wp execOp
 simp only [ho, resolve, invoke, builtin, Sem.run_bind, Sem.run_pure, Result.andThen_ok, List.map_toArray, List.map_cons, List.map_nil, hs, hx, hr]
 exact hK _ _ h
theorem entries {w : World} {PP X S n c : Nat} {sv : Nat → Value} {es : Nat → List Ent} (hP : w.cell? ⟨PP, 9, none⟩ = some (.pointer (some ⟨X, 0, none⟩))) (h0 : w.cell? ⟨PP, 0, none⟩ = some (.int .i64 ((n : Nat) : Int))) (hX1 : w.cell? ⟨X, 1, none⟩ = some (.slice (some ⟨S, 0, none⟩) n c)) (hn : n ≤ 10)
 (hS : ∀ i, i < n → w.cell? ⟨S, i, none⟩ = some (sv i)) (own : ∀ i, i < n → w.ownsRow 0 47 6 (sv i) (es i).length (rowOf (es i))) (hl : ∀ i, i < n → (es i).length ≤ 100) :
 Calls Tryz.prog 9 #[.pointer (some ⟨PP, 0, none⟩)] w (NewRow w 47 6 ((List.range n).flatMap es).length (rowOf ((List.range n).flatMap es))) := by
 have HS : Hid (∀ (W : World), Old w W → ∀ i, i < n → Calls Tryz.prog 49 #[.pointer (some ⟨PP, 0, none⟩), .int .i64 ((i : Nat) : Int)] W (NewRow W 47 6 (es i).length (rowOf (es i)))) := fun W U i hi =>
  pslot (O := .bool true) (Old.cellOf' U hP) (Old.cellOf' U hX1) (Old.cellOf' U (hS i hi)) hi hn (Upd.own U (own i hi) (fun _ _ x => x)) (by have := hl i hi; omega)
 have HL := Lib.hid hl
 obtain ⟨i0, hi0, hz0, hz1, hz2⟩ := info_parts info_ent
 clear hP hX1 hS own hl
 go_enter Tryz.func9, Tryz.ntmps9
 go_wp2
 go_loopw [3, 10] (fun out i wr => ∃ k : Nat, k ≤ n ∧ i = .int .i64 k ∧ Old w wr ∧ wr.ownsRow 0 47 6 out ((List.range k).flatMap es).length (rowOf ((List.range k).flatMap es)) ∧ (∀ b, out.ownBlock = some b → w.heap.size ≤ b) ∧ ((List.range k).flatMap es).length ≤ k * 100) (fun _ i _ => n - (intOf i).toNat)
 case atStart => exact ⟨0, Nat.zero_le _, rfl, Upd.refl _ _, World.ownsRow_nil _ _ _ _, fun b h => (by cases h), Nat.le_refl _⟩
 case round =>
  obtain ⟨k, hk, rfl, hU, hown, hfr, hlen⟩ := hrel
  obtain ⟨oa, oc, rfl⟩ := own_slice hown
  by_cases hlt : k < n
  ·have g0 : ((k : Nat) : Int) < (n : Int) := by omega
   have hfl : (List.range (k + 1)).flatMap es = (List.range k).flatMap es ++ es k := by rw [List.range_succ, List.flatMap_append]; simp
   generalize (List.range k).flatMap es = ys at hown hlen hfl hfr ⊢
   have HFL := Lib.hid hfl
   have HLEN := Lib.hid hlen
   have HU := Lib.hid hU
   have HOW := Lib.hid hown
   have HFR := Lib.hid hfr
   have HLK := Lib.hid (HL.out k hlt)
   clear hU hown hfr hfl hlen
   go_wp2_with (first | (go_at_call 49; refine (HS.out _ HU.out k hlt).mono ?_; rintro e w1 ⟨v', rfl, hr1, hU1, hf1⟩; have HR1 := Lib.hid hr1; have HU1 := Lib.hid hU1; have HF1 := Lib.hid hf1; clear hr1 hU1 hf1; refine Hid.out ?_))
   have hO1 := Upd.own HU1.out HOW.out (fun _ _ x => x)
   have hO1 := Upd.own HU1.out HOW.out (fun _ _ x => x)
   rcases own_ents HR1.out with ⟨rfl, hnil⟩ | ⟨g, cap, rfl, hc⟩
   ·have hcap : ys.length ≤ oc := by
     rcases HOW.out.2 with ⟨h1, h2⟩ | ⟨g', c', cur, h1, hb, hg', hc'⟩
     ·simp only [Value.slice.injEq] at h1; omega
     ·simp only [Value.slice.injEq] at h1; omega
    have HO1 := Lib.hid hO1
    clear hO1
    refine Lib.hid ?_
    go_wp2_with (first | (at_builtin; refine wpList_append_none rfl _ _ 33 rfl 47 i0 Tryz.underlying33 hi0 oa ys.length oc rfl rfl hcap ?_))
    go_roundw
    case rel =>
     have hfl := HFL.out
     have hlen := HLEN.out
     rw [hnil, List.append_nil] at hfl
     exact ⟨k + 1, by omega, by simp, HU.out.trans HU1.out, by rw [hfl]; exact HO1.out, HFR.out, by rw [hfl]; omega⟩
    case measure => simp [intOf]; omega
   ·have HO1 := Lib.hid hO1
    have HCC := Lib.hid hc
    clear hO1 hc
    refine Lib.hid ?_
    go_wp2_with (first | (at_builtin; refine wpList_append_mk rfl _ _ 33 rfl 47 i0 (.agg #[.int .i64 0, .string ⟨#[]⟩, .bool false, .int .i64 0, .int .i64 0, .int .i64 0]) 6 56 Tryz.underlying33 hi0 hz0 hz1 hz2 rfl (by decide) (.slice oa ys.length oc) ys.length _ rfl HO1.out ⟨g, 0, none⟩ (es k).length cap (rowOf (es k)) rfl (rowOf_length _) ?c2 ?c3 ?c4 ?c5 ?_))
    case c2 =>
     intro j u hj
     obtain ⟨e', h1, h2⟩ := rowOf_at hj
     have := HCC.out _ e' h1 _ _ h2
     rw [show j / 6 * 6 + j % 6 = j by omega] at this
     rw [show (⟨g, 0, none⟩ : Addr).add j = ⟨g, j, none⟩ from by unfold Addr.add; split <;> simp_all]
     exact this
    case c3 => exact rowOf_one
    case c4 => have := HLEN.out; have := HLK.out; unfold maxLen; omega
    case c5 => have := HLEN.out; have := HLK.out; omega
    intro v'' w2 hown2 hgrow hnil hfresh
    have hrow2 : rowOf ys ++ rowOf (es k) = rowOf (ys ++ es k) := by rw [rowOf_append]
    obtain ⟨va, vc, rfl⟩ := own_slice hown2
    have HO2 := Lib.hid hown2
    have HG := Lib.hid hgrow
    have HF := Lib.hid hfresh
    clear hown2 hgrow hnil hfresh
    go_wp2
    go_roundw
    case rel =>
     have hfl := HFL.out
     have hlen := HLEN.out
     have hlk := HLK.out
     have o1 := HO2.out
     rw [hrow2, ← List.length_append, ← hfl] at o1
     have z1 := HU1.out.size
     have z0 := HU.out.size
     exact ⟨k + 1, by omega, by simp, (HU.out.trans HU1.out).grown HG.out (fun b hb => .inr (HFR.out b hb)), by
      have : (List.flatMap es (List.range (k + 1))).length = ys.length + (es k).length := by rw [hfl, List.length_append]
      rw [this] at o1 ⊢; exact o1, fun b hb => by
      rcases HF.out b hb with h | h
      ·exact HFR.out b h
      ·omega, by rw [hfl, List.length_append]; omega⟩
    case measure => simp [intOf]; omega
  ·obtain rfl : k = n := by omega
   go_wp2
   go_ret
   exact ⟨_, rfl, hown, hU, hfr⟩
end Go.M
namespace Go.M
open Go.Proofs Go.RowKit
end Go.M
