/- Walks 6. -/
import Derived.RangeFuncNested
import Derived.RangeFuncBound
import Derived.RangeFuncCalls
import Derived.RangeFuncLeaves
import Derived.RangeFuncBox
import Derived.Shelf.Abstract
import Derived.Shelf.RegionOpen
import Derived.OwnWalkIn
import Derived.TacticsInMore
import Derived.LoopNIn
import Derived.LoopIn
import Derived.Deep.RegionWith
import Derived.Test.YtjadmbkmlehfdaaGreatDoorProg
import Derived.Test.YtjadmbkmlehfdaaGreatDoorK4
import Derived.Test.YtjadmbkmlehfdaaGreatDoorK5
import Derived.Test.YtjadmbkmlehfdaaGreatDoorK2
set_option linter.unusedVariables false
set_option linter.unusedSimpArgs false
set_option maxRecDepth 100000
namespace Go.M
open Go.Proofs Go.RowKit Go.Shelf
attribute [local go_sem] Oper.semAt_some
def EntsB {q : Ent → Prop} (n₀ : Nat) (W : World) (sv : Value) (zs : List {x : Ent // q x}) : Prop :=
 (sv = .slice none 0 0 ∧ zs = []) ∨ ∃ b cap, sv = .slice (some ⟨b, 0, none⟩) zs.length cap ∧ b < n₀ ∧ ∀ i e, zs[i]? = some e → ∀ j u, e.1.cells[j]? = some u → W.cell? ⟨b, i * 6 + j, none⟩ = some u
theorem EntsB.below {q : Ent → Prop} {n₀ : Nat} {A B : World} (h : Below n₀ A B) {sv : Value} {zs : List {x : Ent // q x}} : EntsB n₀ A sv zs → EntsB n₀ B sv zs
 | .inl e => .inl e
 | .inr ⟨b, cap, e, hb, hc⟩ => .inr ⟨b, cap, e, hb, fun i e he j u hj => (h.cell (p := ⟨b, i * 6 + j, none⟩) hb).trans (hc i e he j u hj)⟩
def withQ (q : Ent → Prop) (es : List Ent) (h : ∀ e ∈ es, q e) : List {x : Ent // q x} := es.attachWith q h
theorem withQ_map (q : Ent → Prop) (es : List Ent) (h : ∀ e ∈ es, q e) : (withQ q es h).map (·.1) = es := by simp [withQ]
theorem EntsB.of_own {q : Ent → Prop} {w : World} {v : Value} {es : List Ent} (h : w.ownsRow 0 47 6 v es.length (rowOf es)) (zs : List {x : Ent // q x}) (hz : zs.map (·.1) = es) : EntsB w.heap.size w v zs := by
 have hl : zs.length = es.length := by rw [← hz, List.length_map]
 rcases h.2 with ⟨h1, h2⟩ | ⟨g, c, cur, h1, hb, hg, _⟩
 ·exact .inl ⟨h1, List.eq_nil_of_length_eq_zero (by omega)⟩
 ·refine .inr ⟨g, c, by rw [hl]; exact h1, Has.lt (t := 47) hg, fun i e hi j u hj => ?_⟩
  have hi' : es[i]? = some e.1 := by rw [← hz, List.getElem?_map, hi]; rfl
  have := h.cells (g := g) (by rw [h1]; rfl) _ _ (rowOf_cell hi' hj)
  rwa [show (⟨g, 0, none⟩ : Addr).add (i * 6 + j) = ⟨g, i * 6 + j, none⟩ from by unfold Addr.add; split <;> simp_all] at this
theorem vals1_in {q : Ent → Prop} (F : Fence) (n : Nat) (h7 : F.fn 233) (hro : F.round = none) (hn : 1 ≤ n) (l Bs n₀ b cap : Nat) (zs : List {x : Ent // q x}) (hreach : zs.length ≤ 1000) (hb : b < n₀) (J Jx : List {x : Ent // q x} → World → Prop)
 (hY : ∀ pre x W, J pre W → pre.length < zs.length → YieldAt F (n - 1) Tryz.prog l #[x.1.val] W fun e W' =>
   (e = .returned (.bool true) ∧ J (pre ++ [x]) W' ∧ Below n₀ W W') ∨ (e = .returned (.bool false) ∧ Jx (pre ++ [x]) W'))
 (W : World) (hJ : AbidesFrom W.heap.size J) (hn0 : n₀ ≤ W.heap.size) (hBs : W.cell? ⟨Bs, 0, none⟩ = some (.slice (some ⟨b, 0, none⟩) zs.length cap)) (hc : ∀ i e, zs[i]? = some e → ∀ j u, e.1.cells[j]? = some u → W.cell? ⟨b, i * 6 + j, none⟩ = some u) (h0 : J [] W) :
 CallsIn F n Tryz.prog 233 #[.func (.yield l) #[] #[], .pointer (some ⟨Bs, 0, none⟩)] W fun e W' => (∃ v, e = .returned v) ∧
  ((∃ ys, ys = zs ∧ J ys W') ∨ (∃ pre, (∃ k, k ≤ zs.length ∧ pre = zs.take k) ∧ Jx pre W')) := by
 refine callsIn_of_wp Tryz.func233 rfl h7 ?_ hro
 simp only [Tryz.ntmps233, List.size_toArray, List.length_cons, List.length_nil, Nat.reduceAdd, Nat.reduceSub, Array.replicate_succ, Array.replicate_zero, List.push_toArray, List.append_toArray, List.nil_append, List.cons_append]
 have HC := Lib.hid hc
 have HY := Lib.hid hY
 have HJ := Lib.hid hJ
 clear hc hY hJ
 gi_wp2
 gi_loopw [7] (fun i wr => ∃ k : Nat, k ≤ zs.length ∧ i = .int .i64 k ∧ J (zs.take k) wr ∧ Below n₀ W wr)
  (fun i _ => zs.length - (intOf i).toNat)
 case atStart => exact ⟨0, Nat.zero_le _, rfl, by simpa using h0, Below.refl _ _⟩
 case round =>
  obtain ⟨k, hk, rfl, hJs, hnx⟩ := hrel
  by_cases hlt : k < zs.length
  ·obtain ⟨x, hx⟩ : ∃ x, zs[k]? = some x := ⟨zs[k]'(by omega), List.getElem?_eq_getElem _⟩
   have c0 : wr.cell? ⟨b, k * 6, none⟩ = some (.int .i64 ((x.1.seq : Nat) : Int)) := (hnx.cell (p := ⟨b, k * 6, none⟩) hb).trans (HC.out k x hx 0 _ rfl)
   have c1 : wr.cell? ⟨b, k * 6 + 1, none⟩ = some (.string x.1.key) := (hnx.cell (p := ⟨b, k * 6 + 1, none⟩) hb).trans (HC.out k x hx 1 _ rfl)
   have c2 : wr.cell? ⟨b, k * 6 + 2, none⟩ = some (.bool x.1.del) := (hnx.cell (p := ⟨b, k * 6 + 2, none⟩) hb).trans (HC.out k x hx 2 _ rfl)
   have c3 : wr.cell? ⟨b, k * 6 + 3, none⟩ = some (.int .i64 ((x.1.slot : Nat) : Int)) := (hnx.cell (p := ⟨b, k * 6 + 3, none⟩) hb).trans (HC.out k x hx 3 _ rfl)
   have c4 : wr.cell? ⟨b, k * 6 + 4, none⟩ = some (.int .i64 ((x.1.off : Nat) : Int)) := (hnx.cell (p := ⟨b, k * 6 + 4, none⟩) hb).trans (HC.out k x hx 4 _ rfl)
   have c5 : wr.cell? ⟨b, k * 6 + 5, none⟩ = some (.int .i64 ((x.1.size : Nat) : Int)) := (hnx.cell (p := ⟨b, k * 6 + 5, none⟩) hb).trans (HC.out k x hx 5 _ rfl)
   obtain ⟨fn, tmps, assign, body, hy, hR⟩ := HY.out (zs.take k) x (wr.alloc (.cells #[.int .i64 ((x.1.seq : Nat) : Int), .string x.1.key, .bool x.1.del, .int .i64 ((x.1.slot : Nat) : Int), .int .i64 ((x.1.off : Nat) : Int), .int .i64 ((x.1.size : Nat) : Int)] 47)) (HJ.out _ _ _ none hJs (World.grownBy_alloc _ _ none) (fun r e => by cases e)) (by rw [List.length_take]; omega)
   unfold Ent.val at hy
   have hnx1 := hnx.alloc (Nat.le_trans hn0 hnx.size) (.cells #[.int .i64 ((x.1.seq : Nat) : Int), .string x.1.key, .bool x.1.del, .int .i64 ((x.1.slot : Nat) : Int), .int .i64 ((x.1.off : Nat) : Int), .int .i64 ((x.1.size : Nat) : Int)] 47)
   have hts : zs.take k ++ [x] = zs.take (k + 1) := by rw [List.take_add_one, hx]; rfl
   gi_wp2
   refine hR.mono ?_
   rintro e W3 (⟨rfl, hJ3, hk3⟩ | ⟨rfl, hJx3⟩)
   ·gi_wp2
    go_roundw
    case rel => exact ⟨k + 1, by omega, by simp, by rw [← hts]; exact hJ3, hnx1.trans hk3⟩
    case measure => simp [intOf]; omega
   ·gi_wp2
    refine bodyPost_ret (results_none rfl _ _ _) rfl ?_
    exact ⟨⟨_, rfl⟩, .inr ⟨_, ⟨k + 1, by omega, hts⟩, hJx3⟩⟩
  ·obtain rfl : k = zs.length := by omega
   gi_wp2
   go_end0
   exact ⟨⟨_, rfl⟩, .inl ⟨_, rfl, by simpa using hJs⟩⟩
theorem vals1_nil_in {q : Ent → Prop} (F : Fence) (n : Nat) (h7 : F.fn 233) (hro : F.round = none) (l Bs : Nat) (J : List {x : Ent // q x} → World → Prop) (W : World) (hBs : W.cell? ⟨Bs, 0, none⟩ = some (.slice none 0 0)) (h0 : J [] W) :
 CallsIn F n Tryz.prog 233 #[.func (.yield l) #[] #[], .pointer (some ⟨Bs, 0, none⟩)] W fun e W' => (∃ v, e = .returned v) ∧ J [] W' := by
 refine callsIn_of_wp Tryz.func233 rfl h7 ?_ hro
 simp only [Tryz.ntmps233, List.size_toArray, List.length_cons, List.length_nil, Nat.reduceAdd, Nat.reduceSub, Array.replicate_succ, Array.replicate_zero, List.push_toArray, List.append_toArray, List.nil_append, List.cons_append]
 gi_wp2
 gi_loopw [7] (fun i wr => i = .int .i64 0 ∧ J [] wr) (fun _ _ => 0)
 case atStart => exact ⟨rfl, h0⟩
 case round =>
  obtain ⟨rfl, hJs⟩ := hrel
  gi_wp2
  go_end0
  exact ⟨⟨_, rfl⟩, hJs⟩
theorem values_in {w : World} {v : Value} (hv : ∃ a n c, v = .slice a n c) :
 Calls Tryz.prog 169 #[v] w fun e w' => e = .returned (.func (.func 233) #[] #[.pointer (some ⟨w.heap.size, 0, none⟩)]) ∧ w.alloc (.cells #[v] 142) = w' := by
 obtain ⟨a, n, c, rfl⟩ := hv
 go_enter Tryz.func169, Tryz.ntmps169
 go_wp2
 go_ret
 exact ⟨rfl, rfl⟩
theorem grownBy_drew' {w w' : World} {row : Option Nat} (h : w.grownBy w' row) : w.grownBy w'.drew row := ⟨h.os, h.tape, h.output, h.size, h.block⟩
def Came {q : Ent → Prop} (J Jx : List {x : Ent // q x} → World → Prop) (zs : List {x : Ent // q x}) (e : Ending) (W' : World) : Prop := (∃ v, e = .returned v) ∧ ((∃ ys, ys = zs ∧ J ys W') ∨ (∃ pre, pre <+: zs ∧ Jx pre W'))
theorem vals_any {q : Ent → Prop} (n : Nat) (hn : 1 ≤ n) (l Bs n₀ : Nat) (sv : Value) (zs : List {x : Ent // q x}) (hreach : zs.length ≤ 1000) (J Jx : List {x : Ent // q x} → World → Prop)
 (hY : ∀ pre x W, J pre W → pre.length < zs.length → YieldAt Fence.wide (n - 1) Tryz.prog l #[x.1.val] W fun e W' =>
   (e = .returned (.bool true) ∧ J (pre ++ [x]) W' ∧ Below n₀ W W') ∨ (e = .returned (.bool false) ∧ Jx (pre ++ [x]) W'))
 (W : World) (hJ : AbidesFrom W.heap.size J) (hn0 : n₀ ≤ W.heap.size) (hBs : W.cell? ⟨Bs, 0, none⟩ = some sv) (hE : EntsB n₀ W sv zs) (h0 : J [] W) :
 Calls Tryz.prog 233 #[.func (.yield l) #[] #[], .pointer (some ⟨Bs, 0, none⟩)] W (Came J Jx zs) := by
 refine callsIn_wide (n := n) |>.1 ?_
 rcases hE with ⟨rfl, rfl⟩ | ⟨b, cap, rfl, hb, hcs⟩
 ·exact (vals1_nil_in Fence.wide n trivial rfl l Bs J W hBs h0).mono fun e W' ⟨he, hj⟩ => ⟨he, .inl ⟨_, rfl, hj⟩⟩
 ·refine (vals1_in Fence.wide n trivial rfl hn l Bs n₀ b cap zs hreach hb J Jx hY W hJ hn0 hBs hcs h0).mono ?_
  rintro e W' ⟨he, ⟨ys, rfl, hj⟩ | ⟨pre, ⟨k, hk, rfl⟩, hj⟩⟩
  ·exact ⟨he, .inl ⟨_, rfl, hj⟩⟩
  ·exact ⟨he, .inr ⟨_, List.take_prefix _ _, hj⟩⟩
set_option maxHeartbeats 2000000 in
theorem slot_iter {q : Ent → Prop} (n : Nat) (hn : 1 ≤ n) (l PX PS X S i m c n₀ : Nat) (sv : Value) (O : Value) (zs : List {x : Ent // q x}) (hreach : zs.length ≤ 1000) (J Jx : List {x : Ent // q x} → World → Prop)
 (hY : ∀ pre x W, J pre W → pre.length < zs.length → YieldAt Fence.wide (n - 1) Tryz.prog l #[x.1.val] W fun e W' =>
   (e = .returned (.bool true) ∧ J (pre ++ [x]) W' ∧ Below n₀ W W') ∨ (e = .returned (.bool false) ∧ Jx (pre ++ [x]) W'))
 (W : World) (hJ : AbidesFrom W.heap.size J) (hn0 : n₀ ≤ W.heap.size) (hPX : W.cell? ⟨PX, 0, none⟩ = some (.pointer (some ⟨X, 0, none⟩))) (hPS : W.cell? ⟨PS, 0, none⟩ = some (.int .i64 ((i : Nat) : Int)))
 (hX1 : W.cell? ⟨X, 1, none⟩ = some (.slice (some ⟨S, 0, none⟩) m c)) (hS : W.cell? ⟨S, i, none⟩ = some sv) (him : i < m) (hE : EntsB n₀ W sv zs) (h0 : J [] W) :
 Calls Tryz.prog 168 #[.func (.yield l) #[] #[], .pointer (some ⟨PX, 0, none⟩), .pointer (some ⟨PS, 0, none⟩)] W (Came J Jx zs) := by
 have g1 : ¬ ((i : Int) < 0) := by omega
 have g2 : (i : Int) < (m : Int) := by omega
 have g3 : ¬ ((m : Int) ≤ (i : Int)) := by omega
 have g4 : 0 < m := by omega
 have hsv : ∃ a n c, sv = .slice a n c := by rcases hE with ⟨h, _⟩ | ⟨b, cap, h, _⟩ <;> exact ⟨_, _, _, h⟩
 have HV : Hid (∀ W1 : World, W.grownBy W1 none → W1.cell? ⟨W.heap.size, 0, none⟩ = some sv → Calls Tryz.prog 233 #[.func (.yield l) #[] #[], .pointer (some ⟨W.heap.size, 0, none⟩)] W1 (Came J Jx zs)) := fun W1 hg hb =>
  vals_any n hn l W.heap.size n₀ sv zs hreach J Jx hY W1 (fun s A B row hs hg' hr => hJ s A B row hs hg' (fun r e => ⟨Nat.le_trans hg.size (hr r e).1, (hr r e).2⟩)) (Nat.le_trans hn0 hg.size) hb (hE.below ((Below.refl n₀ W).grown hg hn0 (fun k e => by cases e))) (hJ _ _ _ none h0 hg (fun r e => by cases e))
 have HVI := Lib.hid (fun w : World => values_in (w := w) hsv)
 clear hE hJ h0 hY
 obtain ⟨sa, sn, sc, rfl⟩ := hsv
 go_enter Tryz.func168, Tryz.ntmps168
 go_wp2_with (first | go_in)
 ·have HG : W.grownBy ((W.alloc (.cells #[.slice sa sn sc] 142)).drew) none := grownBy_drew' (World.grownBy_alloc _ _ none)
  have HB : ((W.alloc (.cells #[.slice sa sn sc] 142)).drew).cell? ⟨W.heap.size, 0, none⟩ = some (.slice sa sn sc) := by simp
  go_region_with (first | (go_at_call 169; refine (HVI.out _).mono ?_; rintro e w1 ⟨rfl, rfl⟩) | (go_at_call 233; refine (HV.out ((W.alloc (.cells #[.slice sa sn sc] 142)).drew) HG HB).mono ?_; rintro e w2 ⟨⟨v, rfl⟩, hC⟩))
  all_goals
   go_end0
   exact ⟨⟨_, rfl⟩, hC⟩
end Go.M
namespace Go.M
open Go.Proofs Go.RowKit Go.Shelf
attribute [local go_sem] Oper.semAt_some
theorem OMap.old {w w' : World} {O n : Nat} {mv : Value} {key : Nat → ByteArray} {val : Nat → Value} (h : OMap w O mv n key val) (U : Old w w') : OMap w' O mv n key val := by
 obtain ⟨⟨t, hO⟩, own, hs, hf⟩ := h
 exact ⟨⟨t, U.has hO⟩, Upd.own U own (fun _ _ x => x), hs, hf⟩
theorem EntsB.old {q : Ent → Prop} {n₀ : Nat} {A B : World} (h : Old A B) {sv : Value} {zs : List {x : Ent // q x}} : EntsB n₀ A sv zs → EntsB n₀ B sv zs
 | .inl e => .inl e
 | .inr ⟨b, cap, e, hb, hc⟩ => .inr ⟨b, cap, e, hb, fun i e he j u hj => Old.cellOf' h (hc i e he j u hj)⟩
theorem key_none {n r : Nat} {k : ByteArray} {key : Nat → ByteArray} (hs : ∀ k i j, i ≤ j → j < n → keyLt (key j) k = true → keyLt (key i) k = true) (ha : ∀ i, i < r → keyLt (key i) k = true) (hb : ∀ i, r ≤ i → i < n → keyLt (key i) k = false) (hk : ¬ (r < n ∧ key r = k)) : ∀ i, i < n → key i ≠ k := fun i hi e => by
 have hri : r ≤ i := Nat.le_of_not_lt (fun h => by have := ha i h; rw [e, keyLt_irrefl] at this; cases this)
 refine hk ⟨by omega, keyLt_tri (hb r (Nat.le_refl _) (by omega)) ?_⟩
 cases hq : keyLt k (key r) with
 | false => rfl
 | true =>
  have := hs (key r) r i hri hi (by rw [e]; exact hq)
  rw [keyLt_irrefl] at this
  cases this
def GetEnts (Q : Nat → List Ent → Prop) (ky : ByteArray) (key : Nat → ByteArray) (L : Nat) (q : Ent → Prop) (n₀ : Nat) (mn : Nat) (val : Nat → Value) (w : World) (e : Ending) (w' : World) : Prop := ∃ (a : Option Addr) (n c : Nat) (b : Bool) (zs : List {x : Ent // q x}), e = .returned (.tuple #[.slice a n c, .bool b]) ∧ zs.length ≤ L ∧ EntsB n₀ w' (.slice a n c) zs ∧ Old w w' ∧ ((a = none ∧ n = 0 ∧ c = 0 ∧ zs = [] ∧ ∀ r, r < mn → key r ≠ ky) ∨ ∃ r, r < mn ∧ val r = .slice a n c ∧ key r = ky ∧ Q r (zs.map (·.1)))
theorem get_ents {Q : Nat → List Ent → Prop} {L : Nat} {q : Ent → Prop} {n₀ O mn : Nat} {w : World} {mv : Value} {ky : ByteArray} {key : Nat → ByteArray} {val : Nat → Value} (hM : OMap w O mv mn key val)
 (hE : ∀ r, r < mn → ∃ zs : List {x : Ent // q x}, zs.length ≤ L ∧ EntsB n₀ w (val r) zs ∧ Q r (zs.map (·.1))) :
 Calls Tryz.prog 90 #[.pointer (some ⟨O, 0, none⟩), .string ky] w (GetEnts Q ky key L q n₀ mn val w) := by
 refine (get_any (k := ky) hM).mono ?_
 rintro e w' ⟨r, hr, ha, hb, hO, ⟨h1, h2, rfl⟩ | ⟨h1, rfl⟩⟩
 ·obtain ⟨zs, hl, hz, hQ⟩ := hE r h1
  have hz' := hz.old hO
  obtain ⟨a, n, c, hv⟩ : ∃ a n c, val r = .slice a n c := by rcases hz with ⟨h, _⟩ | ⟨b, cap, h, _⟩ <;> exact ⟨_, _, _, h⟩
  rw [hv] at hz' ⊢
  exact ⟨a, n, c, true, zs, rfl, hl, hz', hO, .inr ⟨r, h1, hv, h2, hQ⟩⟩
 ·exact ⟨none, 0, 0, false, [], rfl, Nat.zero_le _, .inl ⟨rfl, rfl⟩, hO, .inl ⟨rfl, rfl, rfl, rfl, key_none hM.sorted ha hb h1⟩⟩
set_option maxHeartbeats 2000000 in
theorem of_iter {q : Ent → Prop} (n : Nat) (hn : 1 ≤ n) (l PX PK X O S m c n₀ : Nat) (mv : Value) (ky : ByteArray) (key : Nat → ByteArray) (val : Nat → Value) (J Jx : List {x : Ent // q x} → World → Prop)
 (W : World) (hJ : AbidesFrom W.heap.size J) (hn0 : n₀ ≤ W.heap.size) (hPX : W.cell? ⟨PX, 0, none⟩ = some (.pointer (some ⟨X, 0, none⟩))) (hPK : W.cell? ⟨PK, 0, none⟩ = some (.string ky))
 (hX0 : W.cell? ⟨X, 0, none⟩ = some (.pointer (some ⟨O, 0, none⟩))) (hX1 : W.cell? ⟨X, 1, none⟩ = some (.slice (some ⟨S, 0, none⟩) m c)) (hm : 0 < m) (mn : Nat) (hM : OMap W O mv mn key val)
 (hE : ∀ r, r < mn → ∃ zs : List {x : Ent // q x}, zs.length ≤ 500 ∧ EntsB n₀ W (val r) zs)
 (hY : ∀ (N : Nat), N ≤ 1000 → ∀ pre x W, J pre W → pre.length < N → YieldAt Fence.wide (n - 1) Tryz.prog l #[x.1.val] W fun e W' =>
   (e = .returned (.bool true) ∧ J (pre ++ [x]) W' ∧ Below n₀ W W') ∨ (e = .returned (.bool false) ∧ Jx (pre ++ [x]) W')) (h0 : J [] W) :
 Calls Tryz.prog 214 #[.func (.yield l) #[] #[], .pointer (some ⟨PX, 0, none⟩), .pointer (some ⟨PK, 0, none⟩)] W fun e W' => (∃ v, e = .returned v) ∧ ((∃ ys, J ys W') ∨ ∃ pre, Jx pre W') := by
 have HG : Hid (Calls Tryz.prog 90 #[.pointer (some ⟨O, 0, none⟩), .string ky] W.drew (GetEnts (fun _ _ => True) ky key 500 q n₀ mn val W.drew)) := get_ents (hM.old ((Upd.refl _ W).drew)) (fun r hr => by obtain ⟨zs, h1, h2⟩ := hE r hr; exact ⟨zs, h1, h2.old ((Upd.refl _ W).drew), trivial⟩)
 have HVI := Lib.hid (fun (w : World) (a : Option Addr) (n c : Nat) => values_in (w := w) (v := .slice a n c) ⟨_, _, _, rfl⟩)
 have g4 : (0 : Int) < (m : Int) := by omega
 have HJ := Lib.hid hJ
 have HY := Lib.hid hY
 have HB0 : Hid (∀ w1 w2 : World, Old W.drew w1 → ∀ (a : Option Addr) (sn sc : Nat) (zs : List {x : Ent // q x}), zs.length ≤ 500 → EntsB n₀ w1 (.slice a sn sc) zs → w1.alloc (.cells #[.slice a sn sc] 142) = w2 →
  Calls Tryz.prog 233 #[.func (.yield l) #[] #[], .pointer (some ⟨w1.heap.size, 0, none⟩)] w2 fun e W' => (∃ v, e = .returned v) ∧ ((∃ ys, J ys W') ∨ ∃ pre, Jx pre W')) := by
  rintro w1 w2 U a sn sc zs hl hz rfl
  have hg : W.grownBy (w1.alloc (.cells #[.slice a sn sc] 142)) none := ⟨U.os, U.tape, U.out, Nat.le_trans U.size (by simp), fun k hk _ => by
   have h1 : k < w1.heap.size := Nat.lt_of_lt_of_le hk U.size
   exact ((World.grownBy_alloc w1 _ none).block k h1 (by simp)).trans (U.keep k hk (fun x => x))⟩
  refine (vals_any n hn l w1.heap.size n₀ (.slice a sn sc) zs (by omega) J Jx (hY _ (by omega)) _ (fun s A B row hs hg' hr => hJ s A B row hs hg' (fun r e => ⟨Nat.le_trans hg.size (hr r e).1, (hr r e).2⟩)) (Nat.le_trans hn0 hg.size) (by simp) (hz.old ((Upd.refl _ _).alloc _)) (hJ _ _ _ none h0 hg (fun r e => by cases e))).mono ?_
  rintro e W' ⟨h1, ⟨ys, rfl, h2⟩ | ⟨pre, _, h2⟩⟩
  ·exact ⟨h1, .inl ⟨_, h2⟩⟩
  ·exact ⟨h1, .inr ⟨_, h2⟩⟩
 clear hM hE hJ h0 hY
 go_enter Tryz.func214, Tryz.ntmps214
 go_wp2_with (first | go_in)
 go_region_held3 (fun x => x.cell? ⟨PX, 0, none⟩ = some (.pointer (some ⟨X, 0, none⟩)) ∧ x.cell? ⟨PK, 0, none⟩ = some (.string ky) ∧ x.cell? ⟨X, 0, none⟩ = some (.pointer (some ⟨O, 0, none⟩)))
  (first | go_keep | (exact ⟨Old.cellOf' hU.drew (by simpa using hPX), Old.cellOf' hU (by simpa using hPK), Old.cellOf' hU (by simpa using hX0)⟩))
  (first | (go_at_call 90; refine HG.out.mono ?_; rintro e w1 ⟨a, sn, sc, b, zs, rfl, hl, hz, hU, -⟩))
 have HBX := Lib.hid (fun w2 h => HB0.out _ w2 (by exact hU) a sn sc zs hl hz h)
 clear HB0
 go_wp2_with (first | (go_at_call 169; refine (HVI.out _ _ _ _).mono ?_; rintro e w2 ⟨rfl, hw2⟩; have HB1 := HBX.out w2 hw2) | (go_at_call 233; refine HB1.mono ?_; rintro e w3 ⟨⟨v, rfl⟩, hC⟩))
 go_end0
 exact ⟨⟨_, rfl⟩, hC⟩
end Go.M
namespace Go.M
open Go.Proofs Go.RowKit Go.Shelf
theorem icrash {w : World} {Mi g len sz dur vc kp : Nat} (m0 : w.cell? ⟨Mi, 0, none⟩ = some (.slice (some ⟨g, 0, none⟩) len vc)) (m1 : w.cell? ⟨Mi, 1, none⟩ = some (.int .i64 ((sz : Nat) : Int))) (m2 : w.cell? ⟨Mi, 2, none⟩ = some (.int .i64 ((dur : Nat) : Int)))
 (f : ∀ j, w.frozen? ⟨Mi, j, none⟩ = false) (p2 : 0 < sz) (h1 : dur ≤ len) (h2 : len ≤ vc) (h3 : len ≤ 8192) (h4 : kp ≤ 8192) :
 Calls Tryz.prog 205 #[.pointer (some ⟨Mi, 0, none⟩), .int .i64 ((kp : Nat) : Int)] w fun e w' => e = .returned (.int .i64 0) ∧ ∃ k : Nat, dur ≤ k ∧ k ≤ len ∧ ((w.setCell ⟨Mi, 0, none⟩ (.slice (some ⟨g, 0, none⟩) k vc)).setCell ⟨Mi, 2, none⟩ (.int .i64 ((k : Nat) : Int))).drew = w' := by
 have f0 := f 0
 have f2 := f 2
 have g1 : ¬ ((kp : Int) < 0) := by omega
 have hM := block_lt_of_cell m0
 simp only at hM
 have hs : IntKind.i64.wrap ((len : Int) - (dur : Int)) = (len : Int) - (dur : Int) := IntWalk.i64_in _ (by omega)
 by_cases hk : (len : Int) - (dur : Int) < (kp : Int)
 ·have hs2 : IntKind.i64.wrap ((dur : Int) + ((len : Int) - (dur : Int))) = ((len : Nat) : Int) := by rw [show (dur : Int) + ((len : Int) - (dur : Int)) = (len : Int) by omega]; exact IntWalk.i64_in _ (by omega)
  have g2 : ¬ ((len : Int) < 0) := by omega
  have g3 : ¬ ((vc : Int) < (len : Int)) := by omega
  go_enter Tryz.func205, Tryz.ntmps205
  go_wp2
  go_still_tail 25, (by kernel_rfl)
  change wpList _ _ _ _ _ w.drew
  go_wp2_with (first | (go_at_call 254; refine (isync_walk (va := some ⟨g, 0, none⟩) (len := len) (vc := vc) (sz := sz) (dur := dur) ?_ ?_ ?_ ?_ p2).mono ?_; (go_simp); (go_simp); (go_simp); (go_simp); rintro e w1 ⟨rfl, rfl⟩))
  go_ret
  exact ⟨rfl, len, h1, Nat.le_refl _, rfl⟩
 ·obtain ⟨k, hk2⟩ : ∃ k : Nat, (k : Int) = (dur : Int) + (kp : Int) := ⟨dur + kp, by omega⟩
  have hs2 : IntKind.i64.wrap ((dur : Int) + (kp : Int)) = ((k : Nat) : Int) := by rw [← hk2]; exact IntWalk.i64_in _ (by omega)
  have hk5 : (if (len : Int) - (dur : Int) < (kp : Int) then (len : Int) - (dur : Int) else (kp : Int)) = (kp : Int) := if_neg hk
  have g2 : ¬ ((k : Int) < 0) := by omega
  have g3 : ¬ ((vc : Int) < (k : Int)) := by omega
  have q1 : dur ≤ k := by omega
  have q2 : k ≤ len := by omega
  clear hk2
  go_enter Tryz.func205, Tryz.ntmps205
  go_wp2
  go_still_tail 25, (by kernel_rfl)
  change wpList _ _ _ _ _ w.drew
  go_wp2_with (first | (go_at_call 254; refine (isync_walk (va := some ⟨g, 0, none⟩) (len := k) (vc := vc) (sz := sz) (dur := dur) ?_ ?_ ?_ ?_ p2).mono ?_; (go_simp); (go_simp); (go_simp); (go_simp); rintro e w1 ⟨rfl, rfl⟩))
  go_ret
  exact ⟨rfl, k, q1, q2, rfl⟩
theorem icrash0 {w : World} {Mi sz kp : Nat} (m0 : w.cell? ⟨Mi, 0, none⟩ = some (.slice none 0 0)) (m1 : w.cell? ⟨Mi, 1, none⟩ = some (.int .i64 ((sz : Nat) : Int))) (m2 : w.cell? ⟨Mi, 2, none⟩ = some (.int .i64 0))
 (f : ∀ j, w.frozen? ⟨Mi, j, none⟩ = false) (p2 : 0 < sz) (h4 : kp ≤ 8192) :
 Calls Tryz.prog 205 #[.pointer (some ⟨Mi, 0, none⟩), .int .i64 ((kp : Nat) : Int)] w fun e w' => e = .returned (.int .i64 0) ∧ ((w.setCell ⟨Mi, 0, none⟩ (.slice none 0 0)).setCell ⟨Mi, 2, none⟩ (.int .i64 0)).drew = w' := by
 have hw0 : IntKind.i64.wrap 0 = 0 := by decide
 have f0 := f 0
 have f2 := f 2
 have hM := block_lt_of_cell m0
 simp only at hM
 rcases Nat.eq_zero_or_pos kp with rfl | hk
 ·go_enter Tryz.func205, Tryz.ntmps205
  go_wp2
  go_still_tail 25, (by kernel_rfl)
  change wpList _ _ _ _ _ w.drew
  go_wp2_with (first | (go_at_call 254; refine (isync_walk (va := none) (len := 0) (vc := 0) (sz := sz) (dur := 0) ?_ ?_ ?_ ?_ p2).mono ?_; (go_simp); (go_simp); (go_simp); (go_simp); rintro e w1 ⟨rfl, rfl⟩))
  go_ret
  exact ⟨rfl, rfl⟩
 ·have g1 : ¬ ((kp : Int) < 0) := by omega
  have g2 : (0 : Int) < (kp : Int) := by omega
  go_enter Tryz.func205, Tryz.ntmps205
  go_wp2
  go_still_tail 25, (by kernel_rfl)
  change wpList _ _ _ _ _ w.drew
  go_wp2_with (first | (go_at_call 254; refine (isync_walk (va := none) (len := 0) (vc := 0) (sz := sz) (dur := 0) ?_ ?_ ?_ ?_ p2).mono ?_; (go_simp); (go_simp); (go_simp); (go_simp); rintro e w1 ⟨rfl, rfl⟩))
  go_ret
  exact ⟨rfl, rfl⟩
theorem ftkeep {w : World} {x : Nat} (hx : x ≤ 8192) : Calls Tryz.prog 201 #[.int .i64 ((x : Nat) : Int)] w fun e w' => e = .returned (.bool false) ∧ w = w' := by
 have g1 : ¬ ((x : Int) < 0) := by omega
 have g2 : ((x : Int) ≤ 8192) := by omega
 go_enter Tryz.func201, Tryz.ntmps201
 go_wp2_with go_in
 go_ret
 exact ⟨rfl, rfl⟩
end Go.M
