/- Walks 25. -/
import Derived.Test.YtjadmbkmlehfdaaGreatDoorProg
import Derived.Test.YtjadmbkmlehfdaaGreatDoorK6
import Derived.Test.YtjadmbkmlehfdaaGreatDoorK12
import Derived.Test.YtjadmbkmlehfdaaGreatDoorK24
import Derived.Test.YtjadmbkmlehfdaaGreatDoorK10
set_option linter.unusedVariables false
set_option linter.unusedSimpArgs false
set_option maxRecDepth 100000
namespace Go.M
open Go.Proofs Go.RowKit Go.Shelf
attribute [local go_sem] Oper.semAt_some
theorem of_at {q : Ent → Prop} (n : Nat) (hn : 1 ≤ n) (l PX PK X O S m c n₀ : Nat) (ky : ByteArray) (sv : Value) (zs : List {x : Ent // q x}) (hl : zs.length ≤ 500) (J Jx : List {x : Ent // q x} → World → Prop)
 (W : World) (hJ : AbidesFrom W.heap.size J) (hn0 : n₀ ≤ W.heap.size) (hPX : W.cell? ⟨PX, 0, none⟩ = some (.pointer (some ⟨X, 0, none⟩))) (hPK : W.cell? ⟨PK, 0, none⟩ = some (.string ky))
 (hX0 : W.cell? ⟨X, 0, none⟩ = some (.pointer (some ⟨O, 0, none⟩))) (hX1 : W.cell? ⟨X, 1, none⟩ = some (.slice (some ⟨S, 0, none⟩) m c)) (hm : 0 < m)
 (hG : ∀ W', Old W W' → Calls Tryz.prog 90 #[.pointer (some ⟨O, 0, none⟩), .string ky] W' fun e w' => (∃ b, e = .returned (.tuple #[sv, .bool b])) ∧ Old W' w') (hE : EntsB n₀ W sv zs)
 (hY : ∀ pre x W, J pre W → pre.length < zs.length → YieldAt Fence.wide (n - 1) Tryz.prog l #[x.1.val] W fun e W' =>
   (e = .returned (.bool true) ∧ J (pre ++ [x]) W' ∧ Below n₀ W W') ∨ (e = .returned (.bool false) ∧ Jx (pre ++ [x]) W')) (h0 : J [] W) :
 Calls Tryz.prog 214 #[.func (.yield l) #[] #[], .pointer (some ⟨PX, 0, none⟩), .pointer (some ⟨PK, 0, none⟩)] W (Came J Jx zs) := by
 obtain ⟨a, sn, sc, rfl⟩ : ∃ a n c, sv = .slice a n c := by rcases hE with ⟨h, _⟩ | ⟨b, cap, h, _⟩ <;> exact ⟨_, _, _, h⟩
 have HG := Lib.hid (hG _ ((Upd.refl _ W).drew))
 have HVI := Lib.hid (fun (w : World) => values_in (w := w) (v := .slice a sn sc) ⟨_, _, _, rfl⟩)
 have g4 : (0 : Int) < (m : Int) := by omega
 have HB0 : Hid (∀ w1 w2 : World, Old W.drew w1 → w1.alloc (.cells #[.slice a sn sc] 142) = w2 →
  Calls Tryz.prog 233 #[.func (.yield l) #[] #[], .pointer (some ⟨w1.heap.size, 0, none⟩)] w2 (Came J Jx zs)) := by
  rintro w1 w2 U rfl
  have hg : W.grownBy (w1.alloc (.cells #[.slice a sn sc] 142)) none := grown_of_old (Upd.alloc (Upd.trans ((Upd.refl _ W).drew) U) _)
  exact vals_any n hn l w1.heap.size n₀ (.slice a sn sc) zs (by omega) J Jx hY _ (fun s A B row hs hg' hr => hJ s A B row hs hg' (fun r e => ⟨Nat.le_trans hg.size (hr r e).1, (hr r e).2⟩)) (Nat.le_trans hn0 hg.size) (by simp) (hE.old (Upd.alloc (Upd.trans ((Upd.refl _ W).drew) U) _)) (hJ _ _ _ none h0 hg (fun r e => by cases e))
 clear hE hJ h0 hY hG
 go_enter Tryz.func214, Tryz.ntmps214
 go_wp2_with (first | go_in)
 go_region_held3 (fun x => x.cell? ⟨PX, 0, none⟩ = some (.pointer (some ⟨X, 0, none⟩)) ∧ x.cell? ⟨PK, 0, none⟩ = some (.string ky) ∧ x.cell? ⟨X, 0, none⟩ = some (.pointer (some ⟨O, 0, none⟩)))
  (first | go_keep | (exact ⟨Old.cellOf' hU.drew (by simpa using hPX), Old.cellOf' hU (by simpa using hPK), Old.cellOf' hU (by simpa using hX0)⟩))
  (first | (go_at_call 90; refine HG.out.mono ?_; rintro e w1 ⟨⟨b, rfl⟩, hU⟩))
 have HBX := Lib.hid (fun w2 h => HB0.out _ w2 (by exact hU) h)
 clear HB0
 go_wp2_with (first | (go_at_call 169; refine (HVI.out _).mono ?_; rintro e w2 ⟨rfl, hw2⟩; have HB1 := HBX.out w2 hw2) | (go_at_call 233; refine HB1.mono ?_; rintro e w3 ⟨⟨v, rfl⟩, hC⟩))
 go_end0
 exact ⟨⟨_, rfl⟩, hC⟩
end Go.M
namespace Go.M
open Go.Proofs Go.RowKit Go.Shelf
attribute [local go_sem] Oper.semAt_some
def ItemsB (n₀ n : Nat) (key : Nat → ByteArray) (val : Nat → Value) (W : World) (mv : Value) : Prop :=
 (mv = .slice none 0 0 ∧ n = 0) ∨ ∃ b cap, mv = .slice (some ⟨b, 0, none⟩) n cap ∧ n ≤ cap ∧ b < n₀ ∧ ∀ i, i < n → W.cell? ⟨b, i * 2, none⟩ = some (.string (key i)) ∧ W.cell? ⟨b, i * 2 + 1, none⟩ = some (val i)
theorem ItemsB.below {n₀ n : Nat} {key : Nat → ByteArray} {val : Nat → Value} {A B : World} (h : Below n₀ A B) {mv : Value} : ItemsB n₀ n key val A mv → ItemsB n₀ n key val B mv
 | .inl e => .inl e
 | .inr ⟨b, cap, e, hn, hb, hc⟩ => .inr ⟨b, cap, e, hn, hb, fun i hi => ⟨(h.cell (p := ⟨b, i * 2, none⟩) hb).trans (hc i hi).1, (h.cell (p := ⟨b, i * 2 + 1, none⟩) hb).trans (hc i hi).2⟩⟩
theorem since_in {n₀ n b cap O : Nat} {key : Nat → ByteArray} {val : Nat → Value} (m : Nat) (hm : 1 ≤ m) (l : Nat) (hn : n ≤ 1000) (hb : b < n₀) (hcap : n ≤ cap) (hv1 : ∀ i, i < n → ∃ a c d, val i = .slice a c d) (J Jx : List {i : Nat // i < n} → World → Prop)
 (hY : ∀ pre x W, J pre W → pre.length < n → YieldAt Fence.wide (m - 1) Tryz.prog l #[.string (key x.1), val x.1] W fun e W' =>
   (e = .returned (.bool true) ∧ J (pre ++ [x]) W' ∧ Below n₀ W W') ∨ (e = .returned (.bool false) ∧ Jx (pre ++ [x]) W'))
 (W : World) (hJ : AbidesFrom W.heap.size J) (hn0 : n₀ ≤ W.heap.size) (hO0 : W.cell? ⟨O, 0, none⟩ = some (.bool true)) (hO1 : W.cell? ⟨O, 1, none⟩ = some (.slice (some ⟨b, 0, none⟩) n cap))
 (hc : ∀ i, i < n → W.cell? ⟨b, i * 2, none⟩ = some (.string (key i)) ∧ W.cell? ⟨b, i * 2 + 1, none⟩ = some (val i)) (h0 : J [] W) :
 CallsIn Fence.wide m Tryz.prog 163 #[.pointer (some ⟨O, 0, none⟩), .int .i64 0, .func (.yield l) #[] #[]] W fun e W' => (∃ v, e = .returned v) ∧
  ((∃ ys, ys.map (·.1) = List.range n ∧ J ys W') ∨ (∃ pre, pre.length ≤ n ∧ Jx pre W')) := by
 refine callsIn_of_wp Tryz.func163 rfl trivial ?_ rfl
 simp only [Tryz.ntmps163, List.size_toArray, List.length_cons, List.length_nil, Nat.reduceAdd, Nat.reduceSub, Array.replicate_succ, Array.replicate_zero, List.push_toArray, List.append_toArray, List.nil_append, List.cons_append]
 have HC := Lib.hid hc
 have HY := Lib.hid hY
 have HJ := Lib.hid hJ
 have HV := Lib.hid hv1
 clear hc hY hJ hv1
 have g1 : ¬ ((n : Int) < 0) := by omega
 have g2 : ¬ ((cap : Int) < (n : Int)) := by omega
 have HI := Lib.hid (oitems (w := W) hO0 hO1)
 gi_wp2_with (first | (refine ⟨trivial, ?_⟩; gi_at_call 226; refine (callsIn_wide.2 HI.out).mono ?_; rintro e w1 ⟨rfl, rfl⟩))
 gi_loopw [7, 13] (fun _ i wr => ∃ (k : Nat) (pre : List {i : Nat // i < n}), k ≤ n ∧ i = .int .i64 k ∧ pre.map (·.1) = List.range k ∧ J pre wr ∧ Below n₀ W wr)
  (fun _ i _ => n - (intOf i).toNat)
 case atStart => exact ⟨0, [], Nat.zero_le _, rfl, rfl, h0, Below.refl _ _⟩
 case round =>
  obtain ⟨k, pre, hk, rfl, hpm, hJs, hnx⟩ := hrel
  have hpl : pre.length = k := by have := congrArg List.length hpm; simpa using this
  by_cases hlt : k < n
  ·obtain ⟨va, vn, vc, hvk⟩ := HV.out k hlt
   have c0 : wr.cell? ⟨b, k * 2, none⟩ = some (.string (key k)) := (hnx.cell (p := ⟨b, k * 2, none⟩) hb).trans (HC.out k hlt).1
   have c1 : wr.cell? ⟨b, k * 2 + 1, none⟩ = some (.slice va vn vc) := (hnx.cell (p := ⟨b, k * 2 + 1, none⟩) hb).trans ((HC.out k hlt).2.trans (by rw [hvk]))
   obtain ⟨fn, tmps, assign, body, hy, hR⟩ := HY.out pre ⟨k, hlt⟩ (wr.alloc (.cells #[.string (key k), .slice va vn vc] 233)) (HJ.out _ _ _ none hJs (World.grownBy_alloc _ _ none) (fun r e => by cases e)) (by omega)
   rw [hvk] at hy
   have hnx1 := hnx.alloc (Nat.le_trans hn0 hnx.size) (.cells #[.string (key k), .slice va vn vc] 233)
   gi_wp2
   refine hR.mono ?_
   rintro e W3 (⟨rfl, hJ3, hk3⟩ | ⟨rfl, hJx3⟩)
   ·gi_wp2
    go_roundw
    case rel => exact ⟨k + 1, pre ++ [⟨k, hlt⟩], by omega, by simp, by rw [List.map_append, hpm, List.range_succ]; rfl, hJ3, hnx1.trans hk3⟩
    case measure => simp [intOf]; omega
   ·gi_wp2
    refine bodyPost_ret (results_none rfl _ _ _) rfl ?_
    exact ⟨⟨_, rfl⟩, .inr ⟨_, by simp [hpl]; omega, hJx3⟩⟩
  ·obtain rfl : k = n := by omega
   gi_wp2
   go_end0
   exact ⟨⟨_, rfl⟩, .inl ⟨_, hpm, hJs⟩⟩
theorem since_nil {O n : Nat} (m : Nat) (hm : 1 ≤ m) (l : Nat) (hn : n = 0) (J Jx : List {i : Nat // i < n} → World → Prop) (W : World) (hO0 : W.cell? ⟨O, 0, none⟩ = some (.bool true)) (hO1 : W.cell? ⟨O, 1, none⟩ = some (.slice none 0 0)) (h0 : J [] W) :
 CallsIn Fence.wide m Tryz.prog 163 #[.pointer (some ⟨O, 0, none⟩), .int .i64 0, .func (.yield l) #[] #[]] W fun e W' => (∃ v, e = .returned v) ∧
  ((∃ ys, ys.map (·.1) = List.range n ∧ J ys W') ∨ (∃ pre, pre.length ≤ n ∧ Jx pre W')) := by
 refine callsIn_of_wp Tryz.func163 rfl trivial ?_ rfl
 simp only [Tryz.ntmps163, List.size_toArray, List.length_cons, List.length_nil, Nat.reduceAdd, Nat.reduceSub, Array.replicate_succ, Array.replicate_zero, List.push_toArray, List.append_toArray, List.nil_append, List.cons_append]
 have HI := Lib.hid (oitems (w := W) hO0 hO1)
 gi_wp2_with (first | (refine ⟨trivial, ?_⟩; gi_at_call 226; refine (callsIn_wide.2 HI.out).mono ?_; rintro e w1 ⟨rfl, rfl⟩))
 gi_loopw [7, 13] (fun _ i wr => i = .int .i64 0 ∧ J [] wr) (fun _ _ _ => 0)
 case atStart => exact ⟨rfl, h0⟩
 case round =>
  obtain ⟨rfl, hJs⟩ := hrel
  gi_wp2
  go_end0
  exact ⟨⟨_, rfl⟩, .inl ⟨[], by simp [hn], hJs⟩⟩
theorem all_stops {O n : Nat} {mv : Value} {key : Nat → ByteArray} {val : Nat → Value} {w0 w : World} (m : Nat) (hm : 1 ≤ m) (PM : Nat) (hPM : w.cell? ⟨PM, 0, none⟩ = some (.pointer (some ⟨O, 0, none⟩))) (hM : OMap w0 O mv n key val) (U0 : Old w0 w) (hv1 : ∀ i, i < n → ∃ a c d, val i = .slice a c d) :
 SeqStopsK Fence.wide m Tryz.prog 162 #[.pointer (some ⟨PM, 0, none⟩)] (fun x : {i : Nat // i < n} => #[.string (key x.1), val x.1]) (Below w0.heap.size) (fun ys => ys.map (·.1) = List.range n) (fun pre => pre.length ≤ n) n w := fun l J Jx W hW hJ hJx hY h0 => by
 have U := old_of_below hW
 have hM' := (hM.old U0).old U
 have c1 := Old.cellOf' U hPM
 obtain ⟨t, hO⟩ := hM'.made
 have o0 := hO.cell 0
 have o1 := hO.cell 1
 have hz := Nat.le_trans U0.size hW.size
 have hfew := hM.few
 have HS : Hid (∀ n', CallsIn Fence.wide n' Tryz.prog 163 #[.pointer (some ⟨O, 0, none⟩), .int .i64 0, .func (.yield l) #[] #[]] W fun e W' => (∃ v, e = .returned v) ∧
  ((∃ ys, ys.map (·.1) = List.range n ∧ J ys W') ∨ (∃ pre, pre.length ≤ n ∧ Jx pre W'))) := by
  intro n'
  refine callsIn_wide.2 (callsIn_wide (n := m).1 ?_)
  rcases hM'.own.2 with ⟨h1, h2⟩ | ⟨g, cap, cur, h1, hb, hg, hnc, hcm, hcs, htk⟩
  ·rw [h1] at o1
   exact since_nil m hm l h2 J Jx W o0 o1 h0
  ·rw [h1] at o1
   have hgl : g < w0.heap.size := by
    have h3 := hM.own
    rw [h1] at h3
    exact (h3.lt g rfl).2
   refine since_in m hm l hfew hgl hnc hv1 J Jx hY W hJ hz o0 o1 (fun i hi => ?_) h0
   have h4 := hM'.own.cells (g := g) (by rw [h1]; rfl)
   have e1 := h4 _ _ (itemsOf_cell (key := key) (val := val) hi).1
   have e2 := h4 _ _ (itemsOf_cell (key := key) (val := val) hi).2
   rw [show (⟨g, 0, none⟩ : Addr).add (i * 2) = ⟨g, i * 2, none⟩ from by unfold Addr.add; split <;> simp_all] at e1
   rw [show (⟨g, 0, none⟩ : Addr).add (i * 2 + 1) = ⟨g, i * 2 + 1, none⟩ from by unfold Addr.add; split <;> simp_all] at e2
   exact ⟨e1, e2⟩
 clear hM hM' hY hJ hJx h0 hO o0 o1
 refine callsIn_of_wp Tryz.func162 rfl trivial ?_ rfl
 simp only [Tryz.ntmps162, List.size_toArray, List.length_cons, List.length_nil, Nat.reduceAdd, Nat.reduceSub, Array.replicate_succ, Array.replicate_zero, List.push_toArray, List.append_toArray, List.nil_append, List.cons_append]
 gi_wp2_with (first | (refine ⟨trivial, ?_⟩; gi_at_call 163; refine (HS.out _).mono ?_; rintro e w1 ⟨⟨v, rfl⟩, hC⟩))
 go_end0
 exact ⟨⟨_, rfl⟩, hC⟩
end Go.M
namespace Go.M
open Go.Proofs Go.RowKit
set_option linter.unusedSimpArgs false
structure KvIn (V : World) (O : Nat) (mv : Value) (n : Nat) (key : Nat → ByteArray) (val : Nat → Value) (kz : Nat → List Ent) (B : Nat → Prop) (M : ByteArray → List Ent) : Prop where
 om : OMap V O mv n key val
 n5 : n ≤ 500
 mO : mv.ownBlock ≠ some O
 row : ∀ r, r < n → V.ownsRow 0 47 6 (val r) (kz r).length (rowOf (kz r))
 len : ∀ r, r < n → (kz r).length ≤ 500
 sep : ∀ r, r < n → ∀ b, (val r).ownBlock = some b → b ≠ O ∧ mv.ownBlock ≠ some b
 mp : ∀ r, r < n → kz r ≠ [] ∧ M (key r) = kz r
 on : ∀ k, M k ≠ [] → ∃ r, r < n ∧ key r = k
 inj : ∀ i j, i < n → j < n → key i = key j → i = j
 bl : ∀ r, r < n → ∀ b, (val r).ownBlock = some b → B b
variable {V : World} {O n : Nat} {mv : Value} {key : Nat → ByteArray} {val : Nat → Value} {kz : Nat → List Ent} {B : Nat → Prop} {M : ByteArray → List Ent}
theorem KvIn.upd {V' : World} {G : Nat → Prop} (h : KvIn V O mv n key val kz B M) (U : Upd G V V') (hO : ¬ G O) (hm : ∀ b, mv.ownBlock = some b → ¬ G b) (hr : ∀ r, r < n → ∀ b, (val r).ownBlock = some b → ¬ G b) : KvIn V' O mv n key val kz B M :=
 ⟨h.om.upd U hO hm, h.n5, h.mO, fun r hn => Upd.own U (h.row r hn) (hr r hn), h.len, h.sep, h.mp, h.on, h.inj, h.bl⟩
theorem KvIn.one (h : KvIn V O mv n key val kz B M) : ∀ i, i < n → (val i).oneCell' = true := fun i hi => by
 obtain ⟨a, c, e⟩ := own_slice (h.row i hi)
 rw [e]; rfl
theorem KvIn.weaken {B' : Nat → Prop} (h : KvIn V O mv n key val kz B M) (hB : ∀ b, B b → B' b) : KvIn V O mv n key val kz B' M :=
 ⟨h.om, h.n5, h.mO, h.row, h.len, h.sep, h.mp, h.on, h.inj, fun r hr b hb => hB b (h.bl r hr b hb)⟩
theorem KvIn.put {V w' : World} {O n n' : Nat} {mv mv' v : Value} {k : ByteArray} {l : List Ent} {key key' : Nat → ByteArray} {val val' : Nat → Value} {kz : Nat → List Ent} {B B' : Nat → Prop} {M : ByteArray → List Ent} {G : Nat → Prop} (h : KvIn V O mv n key val kz B M) (U : Upd G V w') (hG : ∀ r, r < n → ∀ b, (val r).ownBlock = some b → ¬ G b)
 (hM : OMap w' O mv' n' key' val') (hd : SetDesc n k v key val n' key' val') (own : w'.ownsRow 0 47 6 v l.length (rowOf l)) (hl : l ≠ []) (hl5 : l.length ≤ 500) (hn : n' ≤ 500) (hmO : mv'.ownBlock ≠ some O) (hs : ∀ b, v.ownBlock = some b → b ≠ O ∧ mv'.ownBlock ≠ some b)
 (hm : ∀ r, r < n → ∀ b, (val r).ownBlock = some b → mv'.ownBlock ≠ some b) (hB : ∀ r, r < n → ∀ b, (val r).ownBlock = some b → B' b) (hv : ∀ b, v.ownBlock = some b → B' b) : ∃ kz', KvIn w' O mv' n' key' val' kz' B' (fun j => if j = k then l else M j) := by
 obtain ⟨kz', he, D2, D3, D4⟩ := hd.content h.inj kz l
 refine ⟨kz', hM, hn, hmO, fun r hr => ?_, fun r hr => ?_, fun r hr b hb => ?_, fun r hr => ?_, fun j hj => ?_, D4, fun r hr b hb => ?_⟩
 ·rcases he r hr with ⟨e1, e2, e3⟩ | ⟨j, j1, j2, e1, e2, e3⟩
  ·rw [e1, e3]; exact own
  ·rw [e1, e3]; exact Upd.own U (h.row j j1) (hG j j1)
 ·rcases he r hr with ⟨e1, e2, e3⟩ | ⟨j, j1, j2, e1, e2, e3⟩
  ·rw [e3]; exact hl5
  ·rw [e3]; exact h.len j j1
 ·rcases he r hr with ⟨e1, e2, e3⟩ | ⟨j, j1, j2, e1, e2, e3⟩
  ·rw [e1] at hb; exact hs b hb
  ·rw [e1] at hb; exact ⟨(h.sep j j1 b hb).1, hm j j1 b hb⟩
 ·rcases he r hr with ⟨e1, e2, e3⟩ | ⟨j, j1, j2, e1, e2, e3⟩
  ·rw [e3, e2]; exact ⟨hl, if_pos rfl⟩
  ·rw [e3, e2]
   refine ⟨(h.mp j j1).1, ?_⟩
   show (if key j = k then l else M (key j)) = kz j
   rw [if_neg j2]
   exact (h.mp j j1).2
 ·by_cases e : j = k
  ·obtain ⟨i, i1, i2, -⟩ := D2
   exact ⟨i, i1, by rw [i2, e]⟩
  ·simp only [if_neg e] at hj
   obtain ⟨r, r1, r2⟩ := h.on j hj
   obtain ⟨i, i1, i2, -⟩ := D3 r r1 (by rw [r2]; exact e)
   exact ⟨i, i1, by rw [i2, r2]⟩
 ·rcases he r hr with ⟨e1, e2, e3⟩ | ⟨j, j1, j2, e1, e2, e3⟩
  ·rw [e1] at hb; exact hv b hb
  ·rw [e1] at hb; exact hB j j1 b hb
end Go.M
namespace Go.M
open Go.Proofs Go.RowKit Go.Shelf
attribute [local go_sem] Oper.semAt_some
structure IxK (w : World) (X O S m c : Nat) (ky : ByteArray) (sv : Value) (zs : List Ent) : Prop where
 x0 : w.cell? ⟨X, 0, none⟩ = some (.pointer (some ⟨O, 0, none⟩))
 x1 : w.cell? ⟨X, 1, none⟩ = some (.slice (some ⟨S, 0, none⟩) m c)
 m0 : 0 < m
 get : ∀ W, Old w W → Calls Tryz.prog 90 #[.pointer (some ⟨O, 0, none⟩), .string ky] W fun e w' => (∃ b, e = .returned (.tuple #[sv, .bool b])) ∧ Old W w'
 own : w.ownsRow 0 47 6 sv zs.length (rowOf zs)
 few : zs.length ≤ 500
theorem IxK.old {w w' : World} {X O S m c : Nat} {ky : ByteArray} {sv : Value} {zs : List Ent} (h : IxK w X O S m c ky sv zs) (U : Old w w') : IxK w' X O S m c ky sv zs :=
 ⟨Old.cellOf' U h.x0, Old.cellOf' U h.x1, h.m0, fun W U' => h.get W (Upd.trans U U'), Upd.own U h.own (fun _ _ x => x), h.few⟩
theorem of_at_stops {w : World} {X O S m c n₀ : Nat} {ky : ByteArray} {sv : Value} {zs : List {x : Ent // True}} (n : Nat) (hn : 1 ≤ n) (PX PK : Nat) (hl : zs.length ≤ 500) (hn0 : n₀ ≤ w.heap.size)
 (hPX : w.cell? ⟨PX, 0, none⟩ = some (.pointer (some ⟨X, 0, none⟩))) (hPK : w.cell? ⟨PK, 0, none⟩ = some (.string ky)) (hX0 : w.cell? ⟨X, 0, none⟩ = some (.pointer (some ⟨O, 0, none⟩))) (hX1 : w.cell? ⟨X, 1, none⟩ = some (.slice (some ⟨S, 0, none⟩) m c)) (hm : 0 < m)
 (hG : ∀ W', Old w W' → Calls Tryz.prog 90 #[.pointer (some ⟨O, 0, none⟩), .string ky] W' fun e w' => (∃ b, e = .returned (.tuple #[sv, .bool b])) ∧ Old W' w') (hE : EntsB n₀ w sv zs) :
 SeqStopsK Fence.wide n Tryz.prog 214 #[.pointer (some ⟨PX, 0, none⟩), .pointer (some ⟨PK, 0, none⟩)] (fun x : {x : Ent // True} => #[x.1.val]) (Below n₀) (fun ys => ys = zs) (fun pre => pre <+: zs) zs.length w := fun l J Jx W hW hJ hJx hY h0 => by
 have U := old_of_below hW
 exact callsIn_wide.2 (of_at n hn l PX PK X O S m c n₀ ky sv zs hl J Jx W hJ (Nat.le_trans hn0 hW.size) (Old.cellOf' U hPX) (Old.cellOf' U hPK) (Old.cellOf' U hX0) (Old.cellOf' U hX1) hm (fun W' U' => hG W' (Upd.trans U U')) (hE.old U) hY h0)
theorem below_of_upd {F : Nat → Prop} {B : Nat} {W W' : World} (U : Upd F W W') (hB : B ≤ W.heap.size) (hF : ∀ b, b < B → ¬ F b) : Below B W W' :=
 { size := U.size, block := fun b hb => U.keep b (Nat.lt_of_lt_of_le hb hB) (hF b hb), tape := U.tape, os := U.os, output := U.out }
def AnyI (w : World) (gf EB : Nat) (r : Bool) (W : World) : Prop := W.cell? ⟨w.heap.size, 0, none⟩ = some (.func (.func gf) #[] #[.pointer (some ⟨EB, 0, none⟩)]) ∧ W.cell? ⟨w.heap.size + 1, 0, none⟩ = some (.bool r) ∧ W.frozen? ⟨w.heap.size + 1, 0, none⟩ = false ∧ Old w W
theorem AnyI.grown {w X Y : World} {gf EB : Nat} {r : Bool} {B : Nat} {row : Option Nat} (hB : w.heap.size + 1 < B) (h : AnyI w gf EB r X) (hg : X.grownBy Y row) (hr : ∀ k, row = some k → B ≤ k ∧ ∃ o : Obj, X.heap[k]? = some o ∧ o.isCells = false) : AnyI w gf EB r Y := by
 obtain ⟨h1, h2, h3, h4⟩ := h
 refine ⟨cell_kept h1 hg (fun k e => (hr k e).2), cell_kept h2 hg (fun k e => (hr k e).2), ?_, h4.grown hg (fun k e => .inr (by have := (hr k e).1; omega))⟩
 rw [World.frozen?_of_block (hg.block (w.heap.size + 1) (World.block_lt_of_cell? X _ h2) (fun e => by have := (hr _ e.symm).1; omega))]
 exact h3
theorem AnyI.old {w X Y : World} {gf EB : Nat} {r : Bool} (h : AnyI w gf EB r X) (U : Old X Y) : AnyI w gf EB r Y := by
 obtain ⟨h1, h2, h3, h4⟩ := h
 exact ⟨Old.cellOf' U h1, Old.cellOf' U h2, Old.frz U (World.block_lt_of_cell? X _ h2) h3, h4.trans U⟩
theorem AnyI.put {w X : World} {gf EB : Nat} {r : Bool} (h : AnyI w gf EB r X) (r' : Bool) : AnyI w gf EB r' (X.setCell ⟨w.heap.size + 1, 0, none⟩ (.bool r')) := by
 obtain ⟨h1, h2, h3, h4⟩ := h
 refine ⟨by rw [World.cell?_setCell_far _ _ _ _ (by simp)]; exact h1, World.cell?_setCell_same' _ _ _ (by rw [h2]; rfl), by rw [World.frozen?_setCell]; exact h3, h4.setCell _ _ (.inr (by simp))⟩
set_option maxHeartbeats 1600000 in
theorem any_walk {w : World} {X O S m c EB gf : Nat} {ky : ByteArray} {sv : Value} {es : List Ent} {p : Ent → Bool} (h : IxK w X O S m c ky sv es) (hgf : gf = 230 ∨ gf = 231 ∨ gf = 232)
 (hp : ∀ W y, Old w W → Calls Tryz.prog gf #[y.val, .pointer (some ⟨EB, 0, none⟩)] W fun e w' => e = .returned (.bool (p y)) ∧ Old W w') :
 Calls Tryz.prog 229 #[.pointer (some ⟨X, 0, none⟩), .string ky, .func (.func gf) #[] #[.pointer (some ⟨EB, 0, none⟩)]] w fun e w' => e = .returned (.bool (es.any p)) ∧ Old w w' := by
 obtain ⟨hX0, hX1, hm, hG, own, hl⟩ := h
 have HP := Lib.hid hp
 have hz := withQ_map (fun _ => True) es (fun _ _ => trivial)
 have hE : EntsB w.heap.size w sv (withQ (fun _ => True) es (fun _ _ => trivial)) := EntsB.of_own own _ hz
 generalize withQ (fun _ => True) es (fun _ _ => trivial) = zs at hz hE
 have hzl : zs.length = es.length := by rw [← hz, List.length_map]
 have HG := Lib.hid hG
 have HZ := Lib.hid hz
 clear hp own hG hz
 refine (callsIn_wide (n := 8)).1 ?_
 refine callsIn_of_wp_marks Tryz.func229 rfl trivial ?_ rfl
 simp only [Tryz.ntmps229, List.size_toArray, List.length_cons, List.length_nil, Nat.reduceAdd, Nat.reduceSub, Array.replicate_succ, Array.replicate_zero, List.push_toArray, List.append_toArray, List.nil_append, List.cons_append]
 refine wpIn_wide.2 ?_
 go_wp2_with (first | go_in)
 generalize hW0 : World.alloc (World.alloc (World.alloc (World.alloc w _) _) _) _ = W0
 have U0 : Old w W0 := by subst hW0; exact ((((Upd.refl _ w).alloc _).alloc _).alloc _).alloc _
 have c0 : W0.cell? ⟨w.heap.size, 0, none⟩ = some (.func (.func gf) #[] #[.pointer (some ⟨EB, 0, none⟩)]) := by subst hW0; go_simp
 have c1 : W0.cell? ⟨w.heap.size + 1, 0, none⟩ = some (.bool false) := by subst hW0; go_simp
 have f1 : W0.frozen? ⟨w.heap.size + 1, 0, none⟩ = false := by subst hW0; go_simp
 have c2 : W0.cell? ⟨w.heap.size + 1 + 1, 0, none⟩ = some (.pointer (some ⟨X, 0, none⟩)) := by subst hW0; go_simp
 have c3 : W0.cell? ⟨w.heap.size + 1 + 1 + 1, 0, none⟩ = some (.string ky) := by subst hW0; go_simp
 have z0 : W0.heap.size = w.heap.size + 4 := by subst hW0; simp
 clear hW0
 refine (wpIn_wide (n := 8)).1 ?_
 refine wpIn_rangeFunc_ownH rfl (by omega) (gf := 214) (lb := #[.pointer (some ⟨w.heap.size + 1 + 1, 0, none⟩), .pointer (some ⟨w.heap.size + 1 + 1 + 1, 0, none⟩)]) rfl trivial (enters_of Tryz.func214 (by kernel_rfl) rfl)
  (of_at_stops (zs := zs) (n₀ := w.heap.size) 7 (by omega) (w.heap.size + 1 + 1) (w.heap.size + 1 + 1 + 1) (by omega) (by omega) c2 c3 (Old.cellOf' U0 hX0) (Old.cellOf' U0 hX1) hm (fun W' U => HG.out W' (Upd.trans U0 U)) (hE.old U0)) belowK_t (belowK_b (by omega)) (Below.refl _ _) (fun _ => rfl)
  (fun (pre : List {x : Ent // True}) W => (pre.map (·.1)).any p = false ∧ AnyI w gf EB false W)
  (fun cd (pre : List {x : Ent // True}) W => cd = .ret ∧ (pre.map (·.1)).any p = true ∧ AnyI w gf EB true W)
  (fun pre A B row hs hg hr => ⟨hs.1, hs.2.grown (by omega) hg hr⟩)
  (fun cd pre A B row hs hg hr => ⟨hs.1, hs.2.1, hs.2.2.grown (by omega) hg hr⟩)
  ⟨rfl, c0, c1, f1, U0⟩
  (fun x a' W => ∃ Bx, w.heap.size + 1 < Bx ∧ Has W Bx 47 #[.int .i64 ((x.1.seq : Nat) : Int), .string x.1.key, .bool x.1.del, .int .i64 ((x.1.slot : Nat) : Int), .int .i64 ((x.1.off : Nat) : Int), .int .i64 ((x.1.size : Nat) : Int)] ∧ a' = { tmps := #[.pointer (some ⟨X, 0, none⟩), .string ky, .func (.func gf) #[] #[.pointer (some ⟨EB, 0, none⟩)], undef, undef, .pointer (some ⟨w.heap.size, 0, none⟩), .pointer (some ⟨w.heap.size + 1, 0, none⟩), .pointer (some ⟨Bx, 0, none⟩), .pointer (some ⟨X, 0, none⟩), .string ky, .func (.func 214) #[] #[.pointer (some ⟨w.heap.size + 1 + 1, 0, none⟩), .pointer (some ⟨w.heap.size + 1 + 1 + 1, 0, none⟩)], x.1.val, undef, undef, undef], defers := [] })
  (fun x a' _ A B row hs hg hr => by obtain ⟨Bx, h1, h2, h3⟩ := hs; exact ⟨Bx, h1, has_own Bx _ (fun (_ : Unit) => #[.int .i64 ((x.1.seq : Nat) : Int), .string x.1.key, .bool x.1.del, .int .i64 ((x.1.slot : Nat) : Int), .int .i64 ((x.1.off : Nat) : Int), .int .i64 ((x.1.size : Nat) : Int)]) () A B row h2 hg (fun r e => (hr r e).2), h3⟩)
  ?assign ?body ?done ?stop
 case assign =>
  rintro l pre x W K ⟨hpf, hA⟩ hK
  unfold Ent.val
  gi_wp2
  exact hK _ _ ((KeepsOthers.alloc _ _).from _) ((Below.refl _ W).alloc hA.2.2.2.size _) ⟨hpf, hA.old ((Upd.refl _ W).alloc _)⟩ ⟨W.heap.size, World.block_lt_of_cell? W _ hA.2.1, Has.new W _ _, rfl⟩
 case body =>
  rintro l pre x a' W hl2 ⟨r, hr⟩ ⟨hpf, hA⟩ ⟨Bx, hBx, hX, rfl⟩ hlt
  obtain ⟨a1, a2, a3, a4⟩ := hA
  have HC := Lib.hid (HP.out W x.1 a4)
  unfold Ent.val at HC ⊢
  have x0 : W.cell? ⟨Bx, 0, none⟩ = some (.int .i64 ((x.1.seq : Nat) : Int)) := hX.cell 0
  have x1 : W.cell? ⟨Bx, 1, none⟩ = some (.string x.1.key) := hX.cell 1
  have x2 : W.cell? ⟨Bx, 2, none⟩ = some (.bool x.1.del) := hX.cell 2
  have x3 : W.cell? ⟨Bx, 3, none⟩ = some (.int .i64 ((x.1.slot : Nat) : Int)) := hX.cell 3
  have x4 : W.cell? ⟨Bx, 4, none⟩ = some (.int .i64 ((x.1.off : Nat) : Int)) := hX.cell 4
  have x5 : W.cell? ⟨Bx, 5, none⟩ = some (.int .i64 ((x.1.size : Nat) : Int)) := hX.cell 5
  have hpp : ((pre ++ [x]).map (·.1)).any p = p x.1 := by rw [List.map_append, List.any_append, hpf]; simp
  have HPP := Lib.hid hpp
  clear hpp
  rcases hgf with rfl | rfl | rfl
  all_goals
   cases hpx : p x.1 with
   | false =>
    rw [hpx] at HC HPP
    gi_wp2_with (first | (refine ⟨trivial, ?_⟩; gi_at_call 230; refine (callsIn_wide.2 HC.out).mono ?_; rintro e w1 ⟨rfl, hO⟩) | (refine ⟨trivial, ?_⟩; gi_at_call 231; refine (callsIn_wide.2 HC.out).mono ?_; rintro e w1 ⟨rfl, hO⟩) | (refine ⟨trivial, ?_⟩; gi_at_call 232; refine (callsIn_wide.2 HC.out).mono ?_; rintro e w1 ⟨rfl, hO⟩))
    have hA : AnyI w _ EB false W := ⟨a1, a2, a3, a4⟩
    exact ⟨keepsFrom_upd hO (fun b hb => hb.elim), below_of_upd hO a4.size (fun _ _ x => x), HPP.out, hA.old hO⟩
   | true =>
    rw [hpx] at HC HPP
    have hA : AnyI w _ EB false W := ⟨a1, a2, a3, a4⟩
    gi_wp2_with (first | (refine ⟨trivial, ?_⟩; gi_at_call 230; refine (callsIn_wide.2 HC.out).mono ?_; rintro e w1 ⟨rfl, hO⟩; have hA1 := hA.old hO; have b2 := hA1.2.1; have b3 := hA1.2.2.1; have b4 := World.block_lt_of_cell? _ _ b2) | (refine ⟨trivial, ?_⟩; gi_at_call 231; refine (callsIn_wide.2 HC.out).mono ?_; rintro e w1 ⟨rfl, hO⟩; have hA1 := hA.old hO; have b2 := hA1.2.1; have b3 := hA1.2.2.1; have b4 := World.block_lt_of_cell? _ _ b2) | (refine ⟨trivial, ?_⟩; gi_at_call 232; refine (callsIn_wide.2 HC.out).mono ?_; rintro e w1 ⟨rfl, hO⟩; have hA1 := hA.old hO; have b2 := hA1.2.1; have b3 := hA1.2.2.1; have b4 := World.block_lt_of_cell? _ _ b2))
    exact ⟨keepsFrom_upd ((Upd.mono hO (G := fun b => b = w.heap.size + 1) (fun _ _ x => x.elim)).setCell ⟨w.heap.size + 1, 0, none⟩ (.bool true) (.inl rfl)) (fun b (hb : b = w.heap.size + 1) => by omega), rfl, HPP.out, hA1.put true⟩
 case done =>
  rintro D ys W hD rfl ⟨hpf, hA⟩ hK
  obtain ⟨a1, a2, a3, a4⟩ := hA
  have hl1 := World.block_lt_of_cell? W _ a2
  have hAp := (show AnyI w gf EB false W from ⟨a1, a2, a3, a4⟩).put false
  have hK' : (W.setCell ⟨w.heap.size + 1, 0, none⟩ (.bool false)).heap[D]? = some (.deferred (some [])) := (Below.heap_setCell W ⟨w.heap.size + 1, 0, none⟩ _ D (by show D ≠ w.heap.size + 1; omega)).trans hK
  have hAq := hAp.grown (B := W0.heap.size) (by omega) (grownBy_putObj' _ D (.deferred none)) (fun k e => by cases e; exact ⟨hD, _, hK', rfl⟩)
  have hq := hAq.2.1
  rw [HZ.out] at hpf
  go_wp2
  refine ⟨by simp, .inl ⟨_, _, rfl, run_takeDeferred hK', ?_⟩⟩
  refine ⟨_, res_cell (v := .bool false) rfl rfl ?_, by first | rfl | rw [hpf], hAq.2.2.2⟩
  go_simp
 case stop =>
  rintro D cd pre W hD ⟨tl, hpre⟩ ⟨rfl, hpt, hA⟩ hK
  have hAq := hA.grown (B := W0.heap.size) (by omega) (grownBy_putObj' _ D (.deferred none)) (fun k e => by cases e; exact ⟨hD, _, hK, rfl⟩)
  have hq := hAq.2.1
  have hany : es.any p = true := by rw [← HZ.out, ← hpre, List.map_append, List.any_append, hpt]; rfl
  gi_wp2
  refine ⟨by simp, .inl ⟨_, _, rfl, run_takeDeferred hK, ?_⟩⟩
  refine ⟨_, res_cell (v := .bool true) rfl rfl ?_, by first | rfl | rw [hany], hAq.2.2.2⟩
  go_simp
end Go.M
namespace Go.M
open Go.Proofs Go.RowKit Go.Shelf
def nd1 (e y : Ent) : Bool := decide (e.seq < y.seq)
def nd2 (e y : Ent) : Bool := decide (y.seq = e.seq) && decide (y.slot ≠ e.slot)
def nd3 (e y : Ent) : Bool := decide (y.seq < e.seq) && decide (y.slot ≠ e.slot)
def needE (zs : List Ent) (e : Ent) : Bool := if zs.any (nd1 e) then false else if zs.any (nd2 e) then false else if e.del then zs.any (nd3 e) else true
theorem need1 {w : World} {EB : Nat} {t : TypeId} {e y : Ent} (h : Has w EB t #[.int .i64 ((e.seq : Nat) : Int), .string e.key, .bool e.del, .int .i64 ((e.slot : Nat) : Int), .int .i64 ((e.off : Nat) : Int), .int .i64 ((e.size : Nat) : Int)]) :
 Calls Tryz.prog 230 #[y.val, .pointer (some ⟨EB, 0, none⟩)] w fun en w' => en = .returned (.bool (nd1 e y)) ∧ Old w w' := by
 have c0 : w.cell? ⟨EB, 0, none⟩ = some (.int .i64 ((e.seq : Nat) : Int)) := h.cell 0
 have hl := h.lt
 clear h
 unfold Ent.val
 go_enter Tryz.func230, Tryz.ntmps230
 go_wp2
 all_goals
  go_ret
  refine ⟨ret_bool ?_, (Upd.refl _ w).alloc _⟩
  rw [Bool.eq_iff_iff]
  simp [nd1]
  try omega
theorem need2 {w : World} {EB : Nat} {t : TypeId} {e y : Ent} (h : Has w EB t #[.int .i64 ((e.seq : Nat) : Int), .string e.key, .bool e.del, .int .i64 ((e.slot : Nat) : Int), .int .i64 ((e.off : Nat) : Int), .int .i64 ((e.size : Nat) : Int)]) :
 Calls Tryz.prog 231 #[y.val, .pointer (some ⟨EB, 0, none⟩)] w fun en w' => en = .returned (.bool (nd2 e y)) ∧ Old w w' := by
 have c0 : w.cell? ⟨EB, 0, none⟩ = some (.int .i64 ((e.seq : Nat) : Int)) := h.cell 0
 have c3 : w.cell? ⟨EB, 3, none⟩ = some (.int .i64 ((e.slot : Nat) : Int)) := h.cell 3
 have hl := h.lt
 clear h
 unfold Ent.val
 go_enter Tryz.func231, Tryz.ntmps231
 go_wp2
 all_goals
  go_ret
  refine ⟨ret_bool ?_, (Upd.refl _ w).alloc _⟩
  rw [Bool.eq_iff_iff]
  simp [nd2]
  try omega
theorem need3 {w : World} {EB : Nat} {t : TypeId} {e y : Ent} (h : Has w EB t #[.int .i64 ((e.seq : Nat) : Int), .string e.key, .bool e.del, .int .i64 ((e.slot : Nat) : Int), .int .i64 ((e.off : Nat) : Int), .int .i64 ((e.size : Nat) : Int)]) :
 Calls Tryz.prog 232 #[y.val, .pointer (some ⟨EB, 0, none⟩)] w fun en w' => en = .returned (.bool (nd3 e y)) ∧ Old w w' := by
 have c0 : w.cell? ⟨EB, 0, none⟩ = some (.int .i64 ((e.seq : Nat) : Int)) := h.cell 0
 have c3 : w.cell? ⟨EB, 3, none⟩ = some (.int .i64 ((e.slot : Nat) : Int)) := h.cell 3
 have hl := h.lt
 clear h
 unfold Ent.val
 go_enter Tryz.func232, Tryz.ntmps232
 go_wp2
 all_goals
  go_ret
  refine ⟨ret_bool ?_, (Upd.refl _ w).alloc _⟩
  rw [Bool.eq_iff_iff]
  simp [nd3]
  try omega
set_option maxHeartbeats 1000000 in
theorem needed_walk {w : World} {X O S m c : Nat} {sv : Value} {zs : List Ent} {e : Ent} (h : IxK w X O S m c e.key sv zs) :
 Calls Tryz.prog 167 #[.pointer (some ⟨X, 0, none⟩), e.val] w fun en w' => en = .returned (.bool (needE zs e)) ∧ Old w w' := by
 have hB := Has.new w 47 #[.int .i64 ((e.seq : Nat) : Int), .string e.key, .bool e.del, .int .i64 ((e.slot : Nat) : Int), .int .i64 ((e.off : Nat) : Int), .int .i64 ((e.size : Nat) : Int)]
 obtain ⟨W0, hW0⟩ : ∃ W0, w.alloc (.cells #[.int .i64 ((e.seq : Nat) : Int), .string e.key, .bool e.del, .int .i64 ((e.slot : Nat) : Int), .int .i64 ((e.off : Nat) : Int), .int .i64 ((e.size : Nat) : Int)] 47) = W0 := ⟨_, rfl⟩
 have hU0 : Old w W0 := by rw [← hW0]; exact (Upd.refl _ w).alloc _
 rw [hW0] at hB
 have HA : ∀ (g : Nat) (p : Ent → Bool), (g = 230 ∨ g = 231 ∨ g = 232) → (∀ W y, Old W0 W → Calls Tryz.prog g #[y.val, .pointer (some ⟨w.heap.size, 0, none⟩)] W fun e w' => e = .returned (.bool (p y)) ∧ Old W w') →
  Hid (∀ W, Old W0 W → Calls Tryz.prog 229 #[.pointer (some ⟨X, 0, none⟩), .string e.key, .func (.func g) #[] #[.pointer (some ⟨w.heap.size, 0, none⟩)]] W fun en w' => en = .returned (.bool (zs.any p)) ∧ Old W w') :=
  fun g p hg hp => Lib.hid (fun W U => any_walk (EB := w.heap.size) (gf := g) (p := p) (h.old (Upd.trans hU0 U)) hg (fun W' y U' => hp W' y (Upd.trans U U')))
 have HA1 := HA 230 (nd1 e) (.inl rfl) (fun W y U => need1 (U.has hB))
 have HA2 := HA 231 (nd2 e) (.inr (.inl rfl)) (fun W y U => need2 (U.has hB))
 have HA3 := HA 232 (nd3 e) (.inr (.inr rfl)) (fun W y U => need3 (U.has hB))
 have HB := Lib.hid hB
 have HU := Lib.hid hU0
 have d2 : W0.cell? ⟨w.heap.size, 1, none⟩ = some (.string e.key) := hB.cell 1
 have d4 := hB.lt
 unfold needE
 clear HA h hB hU0
 generalize zs.any (nd1 e) = b1 at HA1 ⊢
 generalize zs.any (nd2 e) = b2 at HA2 ⊢
 generalize zs.any (nd3 e) = b3 at HA3 ⊢
 unfold Ent.val
 go_enter Tryz.func167, Tryz.ntmps167
 go_wp2_with (first | (go_at_call 229; refine Hid.out ?_))
 refine Lib.hid ?_
 with_reducible refine Calls.mono (HA1.out W0 (Upd.refl _ W0)) ?_
 rintro e1 w1 ⟨rfl, hU1⟩
 have HU1 := Lib.hid hU1
 have hB := HU1.out.has HB.out
 have d2 : w1.cell? ⟨w.heap.size, 1, none⟩ = some (.string e.key) := hB.cell 1
 have d3 : w1.cell? ⟨w.heap.size, 2, none⟩ = some (.bool e.del) := hB.cell 2
 have d4 := hB.lt
 clear hU1 hB
 refine Hid.out ?_
 cases b1 with
 | true =>
  refine Lib.hid ?_
  go_wp2
  go_ret
  exact ⟨rfl, HU.out.trans HU1.out⟩
 | false =>
  cases b2 with
  | true =>
   refine Lib.hid ?_
   go_wp2_with (first | (go_at_call 229; refine Calls.mono (HA2.out w1 HU1.out) ?_; rintro e2 w2 ⟨rfl, hU2⟩; have HU2 := Lib.hid (show Old W0 w2 from Upd.trans HU1.out hU2); have hB := HU2.out.has HB.out; have d2 : w2.cell? ⟨w.heap.size, 1, none⟩ = some (.string e.key) := hB.cell 1; have d3 : w2.cell? ⟨w.heap.size, 2, none⟩ = some (.bool e.del) := hB.cell 2; have d4 := hB.lt; clear hU2 hB HA2) | (go_at_call 229; refine Hid.out ?_))
   go_ret
   exact ⟨rfl, HU.out.trans HU2.out⟩
  | false =>
   cases hd : e.del with
   | false =>
    refine Lib.hid ?_
    go_wp2_with (first | (go_at_call 229; refine Calls.mono (HA2.out w1 HU1.out) ?_; rintro e2 w2 ⟨rfl, hU2⟩; have HU2 := Lib.hid (show Old W0 w2 from Upd.trans HU1.out hU2); have hB := HU2.out.has HB.out; have d2 : w2.cell? ⟨w.heap.size, 1, none⟩ = some (.string e.key) := hB.cell 1; have d3 : w2.cell? ⟨w.heap.size, 2, none⟩ = some (.bool e.del) := hB.cell 2; have d4 := hB.lt; clear hU2 hB HA2) | (go_at_call 229; refine Hid.out ?_))
    go_ret
    exact ⟨rfl, HU.out.trans HU2.out⟩
   | true =>
    refine Lib.hid ?_
    go_wp2_with (first | (go_at_call 229; refine Calls.mono (HA2.out w1 HU1.out) ?_; rintro e2 w2 ⟨rfl, hU2⟩; have HU2 := Lib.hid (show Old W0 w2 from Upd.trans HU1.out hU2); have hB := HU2.out.has HB.out; have d2 : w2.cell? ⟨w.heap.size, 1, none⟩ = some (.string e.key) := hB.cell 1; have d3 : w2.cell? ⟨w.heap.size, 2, none⟩ = some (.bool e.del) := hB.cell 2; have d4 := hB.lt; clear hU2 hB HA2) | (go_at_call 229; refine Calls.mono (HA3.out w2 HU2.out) ?_; rintro e3 w3 ⟨rfl, hU3⟩; have HU3 := Lib.hid (show Old W0 w3 from Upd.trans HU2.out hU3); have hB := HU3.out.has HB.out; have d2 : w3.cell? ⟨w.heap.size, 1, none⟩ = some (.string e.key) := hB.cell 1; have d3 : w3.cell? ⟨w.heap.size, 2, none⟩ = some (.bool e.del) := hB.cell 2; have d4 := hB.lt; clear hU3 hB HA3) | (go_at_call 229; refine Hid.out ?_))
    go_ret
    exact ⟨rfl, HU.out.trans HU3.out⟩
attribute [local go_sem] Oper.semAt_some
end Go.M
namespace Go.M
open Go.Proofs Go.RowKit Go.Shelf
attribute [local go_sem] Oper.semAt_some
end Go.M
