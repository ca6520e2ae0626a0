/- Walks 24. -/
import Derived.Test.YtjadmbkmlehfdaaGreatDoorProg
import Derived.Test.YtjadmbkmlehfdaaGreatDoorK7
import Derived.Test.YtjadmbkmlehfdaaGreatDoorK14
import Derived.Test.YtjadmbkmlehfdaaGreatDoorK22
set_option linter.unusedVariables false
set_option linter.unusedSimpArgs false
set_option maxRecDepth 100000
namespace Go.M
open Go.Proofs Go.RowKit Go.Shelf
attribute [local go_sem] Oper.semAt_some
def UG (PD D : Nat) (col : Col) (s : DevS) (V : World) : Prop := V.cell? ⟨PD, 0, none⟩ = some (.pointer (some ⟨D, 0, none⟩)) ∧ ∃ K S cap T M W, DevAt V col 1 D s K S cap T M W
theorem UG.old {PD D : Nat} {col : Col} {s : DevS} {V V' : World} (h : UG PD D col s V) (U : Old V V') : UG PD D col s V' := by
 obtain ⟨h1, K, S, cap, T, M, W, h2⟩ := h
 exact ⟨Old.cellOf' U h1, K, S, cap, T, M, W, h2.other U (fun _ x => x.elim) (Kept.refl _ _)⟩
theorem UG.dsl {PD D : Nat} {col : Col} {s : DevS} {V : World} (h : UG PD D col s V) (hup : s.down = false) : DSl V (.pointer (some ⟨D, 0, none⟩)) s.n := by
 obtain ⟨-, K, S, cap, T, M, W, h2⟩ := h
 obtain ⟨t, hd⟩ := h2.fd
 have h4 := hd.cell 4
 rw [hup] at h4
 exact .inr ⟨D, rfl, hd.cell 2, h4⟩
theorem UG.uns {PD D : Nat} {col : Col} {s : DevS} {V : World} (h : UG PD D col s V) (hup : s.down = false) {i : Nat} (hi : i < s.n) :
 Calls Tryz.prog 11 #[.pointer (some ⟨D, 0, none⟩), .int .i64 ((i : Nat) : Int)] V fun e w' => e = .returned (.tuple #[.int .i64 (((s.img i).bs.length : Int) - ((s.img i).dur : Int)), .int .i64 0]) ∧ Old V w' := by
 obtain ⟨-, K, S, cap, T, M, W, h2⟩ := h
 obtain ⟨va, vc, hv, c⟩ := h2.cells i (by omega)
 rw [hup] at c
 exact uns_cells c
theorem grown_of_old {w w' : World} (U : Old w w') : w.grownBy w' none := ⟨U.os, U.tape, U.out, U.size, fun k hk _ => U.keep k hk (fun x => x)⟩
def unsOf (s : DevS) (i : Nat) : Bool := decide ((s.img i).dur < (s.img i).bs.length)
def UnG (D PD : Nat) (s0 : DevS) (G : List Nat → World → Prop) : Prop := ∀ pre V, G pre V → V.cell? ⟨PD, 0, none⟩ = some (.pointer (some ⟨D, 0, none⟩)) ∧ DSl V (.pointer (some ⟨D, 0, none⟩)) s0.n ∧ ∀ k, k < s0.n → k ∉ pre → (s0.img k).dur ≤ (s0.img k).bs.length ∧
 Calls Tryz.prog 11 #[.pointer (some ⟨D, 0, none⟩), .int .i64 ((k : Nat) : Int)] V fun e w' => e = .returned (.tuple #[.int .i64 (((s0.img k).bs.length : Int) - ((s0.img k).dur : Int)), .int .i64 0]) ∧ Old V w'
theorem uns_iter_g {w : World} (nf : Nat) (hnf : 1 ≤ nf) {PD D : Nat} {s0 : DevS} {G : List Nat → World → Prop} (hn : s0.n ≤ 32) (hst : UnG D PD s0 G) :
 SeqG Fence.wide nf Tryz.prog 191 #[.pointer (some ⟨PD, 0, none⟩)] (fun i : Nat => #[.int .i64 ((i : Nat) : Int)]) G (fun pre x => x < s0.n ∧ pre = (List.range x).filter (unsOf s0) ∧ unsOf s0 x = true) (fun xs => xs = (List.range s0.n).filter (unsOf s0)) w := by
 intro l J Jx W hW hJ hJx hG hY h0
 refine callsIn_of_wp Tryz.func191 rfl trivial ?_ rfl
 simp only [Tryz.ntmps191, List.size_toArray, List.length_cons, List.length_nil, Nat.reduceAdd, Nat.reduceSub, Array.replicate_succ, Array.replicate_zero, List.push_toArray, List.append_toArray, List.nil_append, List.cons_append]
 have HY := Lib.hid hY
 have HJ := Lib.hid hJ
 have HG := Lib.hid hG
 have HS := Lib.hid hst
 clear hY hJ hG
 obtain ⟨c1, hC, -⟩ := hst [] W (HG.out [] W h0)
 have HD := Lib.hid (d_slots hC (by omega))
 clear hC hst
 gi_wp2_with (first | (refine ⟨trivial, ?_⟩; gi_at_call 76; refine (callsIn_wide.2 HD.out).mono ?_; rintro e w1 ⟨rfl, rfl⟩))
 gi_loopw [3, 4, 8] (fun _ _ i wr => ∃ k : Nat, k ≤ s0.n ∧ i = .int .i64 k ∧ J ((List.range k).filter (unsOf s0)) wr)
  (fun _ _ i _ => s0.n - (intOf i).toNat)
 case atStart => exact ⟨0, Nat.zero_le _, rfl, h0⟩
 case round =>
  obtain ⟨k, hk, rfl, hJs⟩ := hrel
  by_cases hlt : k < s0.n
  ·obtain ⟨pre, hpre⟩ : ∃ pre, (List.range k).filter (unsOf s0) = pre := ⟨_, rfl⟩
   rw [hpre] at hJs
   have hin : ∀ y ∈ pre, y < k := fun y hy => by rw [← hpre, List.mem_filter, List.mem_range] at hy; exact hy.1
   have hnk : k ∉ pre := fun h => Nat.lt_irrefl _ (hin k h)
   obtain ⟨e1, -, hq⟩ := HS.out pre wr (HG.out pre wr hJs)
   obtain ⟨hdur, hun⟩ := hq k hlt hnk
   have HU := Lib.hid hun
   have g2 : ((k : Nat) : Int) < (s0.n : Int) := by omega
   have hsucc : (List.range (k + 1)).filter (unsOf s0) = pre ++ (if unsOf s0 k then [k] else []) := by
    rw [List.range_succ, List.filter_append, hpre]
    simp [List.filter]
    cases unsOf s0 k <;> rfl
   have HSU := Lib.hid hsucc
   have HPR := Lib.hid hpre
   clear hun hq hsucc hpre hin hnk
   by_cases hu : (s0.img k).dur < (s0.img k).bs.length
   ·have hu2 : unsOf s0 k = true := by simp [unsOf, hu]
    have g3 : (0 : Int) < ((s0.img k).bs.length : Int) - ((s0.img k).dur : Int) := by omega
    gi_wp2_with (first | (refine ⟨trivial, ?_⟩; gi_at_call 11; refine (callsIn_wide.2 HU.out).mono ?_; rintro e w1 ⟨rfl, hO⟩))
    obtain ⟨fn, tmps, assign, body, hy, hR⟩ := HY.out pre k w1 (HJ.out _ _ _ none hJs (grown_of_old hO) (fun _ e => by cases e)) ⟨hlt, HPR.out.symm, hu2⟩
    rw [hy]
    refine ⟨fun _ => hnf, hR.mono ?_⟩
    rintro e W3 (⟨rfl, hJ3⟩ | ⟨rfl, hJx3⟩)
    ·gi_wp2
     go_roundw
     case rel => exact ⟨k + 1, by omega, by simp, by rw [HSU.out, hu2]; exact hJ3⟩
     case measure => simp [intOf]; omega
    ·gi_wp2
     refine bodyPost_ret (results_none rfl _ _ _) rfl ?_
     exact ⟨⟨_, rfl⟩, .inr ⟨_, hJx3⟩⟩
   ·have hu2 : unsOf s0 k = false := by simp [unsOf, hu]
    have g3 : ¬ (0 : Int) < ((s0.img k).bs.length : Int) - ((s0.img k).dur : Int) := by omega
    gi_wp2_with (first | (refine ⟨trivial, ?_⟩; gi_at_call 11; refine (callsIn_wide.2 HU.out).mono ?_; rintro e w1 ⟨rfl, hO⟩))
    refine ⟨fun f h => (by cases h), ?_⟩
    gi_wp2
    go_roundw
    case rel => exact ⟨k + 1, by omega, by simp, by rw [HSU.out, hu2]; simpa using HJ.out _ _ _ none hJs (grown_of_old hO) (fun _ e => by cases e)⟩
    case measure => simp [intOf]; omega
  ·obtain rfl : k = s0.n := by omega
   gi_wp2
   go_end0
   exact ⟨⟨_, rfl⟩, .inl ⟨_, rfl, hJs⟩⟩
theorem uns_iter {w : World} (nf : Nat) (hnf : 1 ≤ nf) {PD D : Nat} {col : Col} {s0 : DevS} {st : List Nat → DevS} (hn : s0.n ≤ 32) (hst : ∀ pre, (st pre).n = s0.n ∧ (st pre).down = false ∧ ∀ k, k ∉ pre → (st pre).img k = s0.img k) :
 SeqG Fence.wide nf Tryz.prog 191 #[.pointer (some ⟨PD, 0, none⟩)] (fun i : Nat => #[.int .i64 ((i : Nat) : Int)]) (fun pre V => UG PD D col (st pre) V) (fun pre x => x < s0.n ∧ pre = (List.range x).filter (unsOf s0) ∧ unsOf s0 x = true) (fun xs => xs = (List.range s0.n).filter (unsOf s0)) w :=
 uns_iter_g nf hnf hn fun pre V hg => by
  obtain ⟨q1, q2, q3⟩ := hst pre
  have hd := hg.dsl q2
  rw [q1] at hd
  refine ⟨hg.1, hd, fun k hk hn => ?_⟩
  have hu := hg.uns q2 (i := k) (by omega)
  rw [q3 k hn] at hu
  refine ⟨?_, hu⟩
  obtain ⟨-, K, S, cap, T, M, W, h2⟩ := hg
  have := (h2.fm k (by omega)).durs
  rwa [q3 k hn] at this
end Go.M
namespace Go.M
open Go.Proofs Go.RowKit Go.Shelf
attribute [local go_sem] Oper.semAt_some
def DevS.syn (s : DevS) (i : Nat) : DevS := s.put i { s.img i with dur := (s.img i).bs.length }
def DevS.syns (s : DevS) (l : List Nat) : DevS := l.foldl DevS.syn s
theorem syns_n : ∀ (l : List Nat) (s : DevS), (s.syns l).n = s.n ∧ (s.syns l).down = s.down ∧ (s.syns l).ops = s.ops + l.length ∧ (∀ k, k ∉ l → (s.syns l).img k = s.img k) ∧ ∀ k, k ∈ l → (s.syns l).img k = { s.img k with dur := (s.img k).bs.length }
 | [], s => ⟨rfl, rfl, by simp [DevS.syns], fun _ _ => rfl, fun _ h => by cases h⟩
 | i :: l, s => by
  obtain ⟨h1, h2, h3, h4, h5⟩ := syns_n l (s.syn i)
  have e : ∀ k, (s.syn i).img k = if k = i then { s.img i with dur := (s.img i).bs.length } else s.img k := fun _ => rfl
  refine ⟨h1, h2, h3.trans ?_, fun k hk => ?_, fun k hk => ?_⟩
  ·show s.ops + 1 + (l.length : Int) = s.ops + ((l.length + 1 : Nat) : Int)
   omega
  ·rw [List.mem_cons, not_or] at hk
   show ((s.syn i).syns l).img k = _
   rw [h4 k hk.2, e, if_neg hk.1]
  ·show ((s.syn i).syns l).img k = _
   by_cases hl : k ∈ l
   ·rw [h5 k hl, e]
    by_cases hi : k = i
    ·rw [if_pos hi, hi]
    ·rw [if_neg hi]
   ·have hi : k = i := by rcases List.mem_cons.1 hk with h | h; exact h; exact absurd h hl
    rw [h4 k hl, e, if_pos hi, hi]
theorem res_cell {P : Program} {fn : Func} {p : Tmp} {ty : TypeId} {tmps : Array Value} {w : World} {a : Addr} {v : Value} (h : fn.results = #[.cell p ty]) (hp : tmps.getD p undef = .pointer (some a)) (hl : (loadVar ty a).run P w = .ok v w) : (results fn tmps).run P w = .ok v w := by
 have hp' : tmps[p]?.getD undef = .pointer (some a) := by simpa using hp
 simp only [results, h]
 simp [hp', asAddr, hl]
theorem UG.grown {PD D B : Nat} {col : Col} {s : DevS} {X Y : World} {row : Option Nat} (h : UG PD D col s X) (hg : X.grownBy Y row) (hc : ∀ b, B ≤ b → (col b).1 = 0) (hr : ∀ r, row = some r → B ≤ r ∧ ∃ o : Obj, X.heap[r]? = some o ∧ o.isCells = false) : UG PD D col s Y := by
 obtain ⟨h1, K, S, cap, T, M, W, h2⟩ := h
 exact ⟨cell_kept h1 hg (fun r e => (hr r e).2), K, S, cap, T, M, W, h2.other ((Upd.refl (fun b => row = some b) X).grown hg (fun k e => .inl e)) (fun b hb => by rw [hc b (hr b hb).1]; decide) (Kept.refl _ _)⟩
set_option maxHeartbeats 1600000 in
theorem r_sync_all {w : World} {col : Col} {D B : Nat} {s : DevS} {K S cap T : Nat} {M : Nat → Nat} {V : Nat → Value} (h : DevAt w col 1 D s K S cap T M V) (hup : s.down = false) (ht : TSl w (.pointer (some ⟨B, 0, none⟩)) s.n) (hc : ∀ b, w.heap.size ≤ b → (col b).1 = 0) (ho : s.ops ≤ 900000000) :
 Calls Tryz.prog 47 #[.pointer (some ⟨D, 0, none⟩), .pointer (some ⟨B, 0, none⟩)] w fun e w' => e = .returned (.int .i64 0) ∧ (∃ K S cap T M V, DevAt w' col 1 D (s.syns ((List.range s.n).filter (unsOf s))) K S cap T M V) ∧ Upd (fun b => (col b).1 = 1) w w' := by
 have hlo := h.lo
 have hhi := h.hi
 have hds : DSl w (.pointer (some ⟨D, 0, none⟩)) s.n := by
  obtain ⟨t, hd⟩ := h.fd
  have h4 := hd.cell 4
  rw [hup] at h4
  exact .inr ⟨D, rfl, hd.cell 2, h4⟩
 have HC := Lib.hid (fun (W : World) (U : Old w W) => r_check_ok (hds.old U) (ht.old U) (by omega) (by omega))
 have HH := Lib.hid h
 have HCO := Lib.hid hc
 clear hds ht h hc
 refine (callsIn_wide (n := 8)).1 ?_
 refine callsIn_of_wp_marks Tryz.func47 rfl trivial ?_ rfl
 simp only [Tryz.ntmps47, List.size_toArray, List.length_cons, List.length_nil, Nat.reduceAdd, Nat.reduceSub, Array.replicate_succ, Array.replicate_zero, List.push_toArray, List.append_toArray, List.nil_append, List.cons_append]
 refine wpIn_wide.2 ?_
 go_wp2_with (first | (go_at_call 115; refine (HC.out _ ?_).mono ?_; (exact (((Upd.refl _ w).alloc _).alloc _)); rintro e w1 ⟨rfl, hO⟩; have p0 : w1.cell? ⟨w.heap.size, 0, none⟩ = some (.pointer (some ⟨D, 0, none⟩)) := Old.cellOf' hO (by go_simp); have p1 : w1.cell? ⟨w.heap.size + 1, 0, none⟩ = some (.int .i64 0) := Old.cellOf' hO (by go_simp); have f1 : w1.frozen? ⟨w.heap.size + 1, 0, none⟩ = false := hO.frz (by go_simp) (by go_simp); have l1 := World.block_lt_of_cell? w1 _ p1; have l0 := World.block_lt_of_cell? w1 _ p0; have H1 := Lib.hid ((((Upd.refl _ w).alloc _).alloc _).trans hO); clear hO) | (go_at_call 115; refine Hid.out ?_) | go_in)
 obtain ⟨W0, hW0⟩ : ∃ W0, w1.alloc (.cells #[.pointer (some ⟨D, 0, none⟩)] 37) = W0 := ⟨_, rfl⟩
 obtain ⟨PD, hPD⟩ : ∃ PD, w1.heap.size = PD := ⟨_, rfl⟩
 have U0 : Old w W0 := by rw [← hW0]; exact H1.out.alloc _
 have P0 : W0.cell? ⟨PD, 0, none⟩ = some (.pointer (some ⟨D, 0, none⟩)) := by rw [← hW0, ← hPD]; exact (Has.new w1 _ _).cell 0
 have q0 : W0.cell? ⟨w.heap.size, 0, none⟩ = some (.pointer (some ⟨D, 0, none⟩)) := by rw [← hW0]; exact Old.cellOf' ((Upd.refl _ w1).alloc _) p0
 have q1 : W0.cell? ⟨w.heap.size + 1, 0, none⟩ = some (.int .i64 0) := by rw [← hW0]; exact Old.cellOf' ((Upd.refl _ w1).alloc _) p1
 have q2 : W0.frozen? ⟨w.heap.size + 1, 0, none⟩ = false := by rw [← hW0]; exact Old.frz ((Upd.refl (fun _ => False) w1).alloc _) l1 f1
 have hP : w.heap.size ≤ PD := by rw [← hPD]; exact H1.out.size
 have hPl : w.heap.size + 1 < W0.heap.size := World.block_lt_of_cell? W0 _ q1
 rw [hW0, hPD]
 have HU0 := Lib.hid U0
 clear hW0 hPD p0 p1 f1 l1 l0 H1 U0
 have hz := HU0.out.size
 refine (wpIn_wide (n := 8)).1 ?_
 refine range_told rfl (by omega) (gf := 191) (lb := #[.pointer (some ⟨PD, 0, none⟩)]) rfl trivial (enters_of Tryz.func191 (by kernel_rfl) rfl) (encs := fun i : Nat => #[.int .i64 ((i : Nat) : Int)]) (fun _ => rfl)
  (uns_iter 7 (by omega) (PD := PD) (D := D) (col := col) (s0 := s) (st := s.syns) (by omega) (fun pre => by obtain ⟨h1, h2, h3, h4, h5⟩ := syns_n pre s; exact ⟨h1, h2.trans hup, h4⟩))
  (fun pre V => UG PD D col (s.syns pre) V ∧ Upd (fun b => (col b).1 = 1) w V ∧ V.cell? ⟨w.heap.size, 0, none⟩ = some (.pointer (some ⟨D, 0, none⟩)) ∧ V.cell? ⟨w.heap.size + 1, 0, none⟩ = some (.int .i64 0) ∧ V.frozen? ⟨w.heap.size + 1, 0, none⟩ = false)
  (fun _ _ => False) ?own (fun _ _ _ _ _ h _ _ => h) ?start (fun pre V h => h.1)
  (fun i => { tmps := #[.pointer (some ⟨D, 0, none⟩), .pointer (some ⟨B, 0, none⟩), .pointer (some ⟨w.heap.size, 0, none⟩), undef, .pointer (some ⟨w.heap.size + 1, 0, none⟩), .int .i64 0, .int .i64 ((i : Nat) : Int), undef, .pointer (some ⟨D, 0, none⟩), .pointer (some ⟨B, 0, none⟩), .int .i64 0, .int .i64 0, .bool false, undef, .pointer (some ⟨D, 0, none⟩), .func (.func 191) #[] #[.pointer (some ⟨PD, 0, none⟩)], .int .i64 ((i : Nat) : Int), undef, undef, undef, undef, undef, undef], defers := [] })
  ?assign ?body ?done ?stop
 case own =>
  rintro pre X Y row ⟨h1, h2, h3, h4, h5⟩ hg hr
  have hn : ∀ r, row = some r → w.heap.size ≤ r := fun r e => by have := (hr r e).1; omega
  refine ⟨h1.grown hg HCO.out (fun r e => ⟨hn r e, (hr r e).2⟩), h2.grown hg (fun k e => .inr (hn k e)), cell_kept h3 hg (fun r e => (hr r e).2), cell_kept h4 hg (fun r e => (hr r e).2), ?_⟩
  have hb := hg.block (w.heap.size + 1) (World.block_lt_of_cell? X _ h4) (fun e => by have := (hr _ e.symm).1; omega)
  rw [World.frozen?_of_block hb]; exact h5
 case start =>
  exact ⟨⟨P0, K, S, cap, T, M, V, HH.out.other HU0.out (fun _ x => x.elim) (Kept.refl _ _)⟩, HU0.out.mono (fun _ _ x => x.elim), q0, q1, q2⟩
 case assign =>
  intro l x V K hK
  gi_wp2
  exact hK
 case body =>
  rintro l pre x V1 hl ⟨hg, hU, c0, c1, c2⟩ ⟨hx, hin, hu⟩
  obtain ⟨h1, h2, h3, h4, h5⟩ := syns_n pre s
  obtain ⟨hpd, K', S', cap', T', M', V', hd⟩ := hg
  have hpl : pre.length ≤ x := by
   have := List.length_filter_le (unsOf s) (List.range x)
   rw [← hin, List.length_range] at this
   exact this
  have HS := Lib.hid (dev_sync hd (h2.trans hup) x (by omega) (by omega))
  have cF : ∀ b, b = D ∨ b = M' x → (col b).1 = 1 := fun b e => by
   rcases e with rfl | rfl
   ·rw [hd.cD]
   ·rw [hd.cM x (by omega)]
  have hF : ∀ b, b = D ∨ b = M' x → b < w.heap.size := fun b e => by
   have e1 := cF b e
   exact Nat.lt_of_not_le (fun hb => by have := HCO.out b hb; omega)
  clear hd
  gi_wp2_with (first | (refine ⟨trivial, ?_⟩; gi_at_call 108; refine (callsIn_wide.2 HS.out).mono ?_; rintro e w2 ⟨rfl, hd2, hU2⟩))
  have nF : ∀ b, w.heap.size ≤ b → ¬ (b = D ∨ b = M' x) := fun b hb e => by have := hF b e; omega
  refine ⟨keepsFrom_upd hU2 (fun b hb => by have := hF b hb; omega), trivial, ⟨hU2.cellOf hpd (nF _ hP), K', S', cap', T', M', (fun k => if k = x then V' x else V' k), ?_⟩, hU.trans (hU2.mono (fun b _ e => cF b e)), hU2.cellOf c0 (nF _ (Nat.le_refl _)), hU2.cellOf c1 (nF _ (by omega)), ?_⟩
  ·have e : s.syns (pre ++ [x]) = (s.syns pre).syn x := by simp [DevS.syns, List.foldl_append]
   rw [e]
   exact hd2
  ·rw [World.frozen?_of_block (hU2.keep (w.heap.size + 1) (World.block_lt_of_cell? V1 _ c1) (nF _ (by omega)))]
   exact c2
 case done =>
  rintro D1 xs V1 hD rfl ⟨hg, hU, c0, c1, c2⟩ hKD
  go_wp2
  have hKD' : (V1.setCell ⟨w.heap.size + 1, 0, none⟩ (.int .i64 0)).heap[D1]? = some (.deferred (some [])) := (Below.heap_setCell V1 ⟨w.heap.size + 1, 0, none⟩ _ D1 (by show D1 ≠ w.heap.size + 1; omega)).trans hKD
  refine ⟨by simp, .inl ⟨_, _, rfl, run_takeDeferred hKD', ?_⟩⟩
  obtain ⟨V3, hV3⟩ : ∃ V3, (V1.setCell ⟨w.heap.size + 1, 0, none⟩ (.int .i64 0)).putObj D1 (.deferred none) = V3 := ⟨_, rfl⟩
  have k1 : V3.cell? ⟨w.heap.size + 1, 0, none⟩ = some (.int .i64 0) := by
   rw [← hV3, World.cell?_of_block (World.putObj_heap_other (by show w.heap.size + 1 ≠ D1; omega))]
   exact World.cell?_setCell_same' _ _ _ (by rw [c1]; rfl)
  have k2 : (∃ K S cap T M V, DevAt V3 col 1 D (s.syns ((List.range s.n).filter (unsOf s))) K S cap T M V) ∧ Upd (fun b => (col b).1 = 1) w V3 := by
   have U : Upd (fun b => b = w.heap.size + 1 ∨ b = D1) V1 V3 := by
    rw [← hV3]
    exact ((Upd.refl _ V1).setCell _ _ (.inl (.inl rfl))).grown (grownBy_putObj' _ D1 _) (fun k e => by cases e; exact .inl (.inr rfl))
   obtain ⟨hp, K', S', cap', T', M', V', hd⟩ := hg
   exact ⟨⟨K', S', cap', T', M', V', hd.other U (fun b hb => by rw [HCO.out b (by omega)]; decide) (Kept.refl _ _)⟩, hU.after U (fun b hb h => by omega)⟩
  rw [hV3]
  refine ⟨_, res_cell rfl rfl ?_, rfl, ?_, k2.2⟩
  ·go_simp
  ·exact k2.1
 case stop =>
  rintro D1 c V1 _ h _
  exact h.elim
end Go.M
namespace Go.M
open Go.Proofs Go.RowKit Go.Shelf
theorem grown_of_old' {w w' : World} (U : Old w w') : w.grownBy w' none := ⟨U.os, U.tape, U.out, U.size, fun k hk _ => U.keep k hk (fun x => x)⟩
theorem RoundIn.into {F : Fence} (hd : F.depth = none) {m m' l2 : Nat} {P : Program} {l : Nat} {f : FuncId} {tmps : Array Value} {assign body : Code} {w : World} {R : Ending → World → Prop}
 (h : RoundIn F m P l f tmps assign body w R) : RoundIn (F.inRound l2) m' P l f tmps assign body w R := ⟨h.1, fun c cs _ => h.2 c cs (fun d hd' => by rw [hd] at hd'; cases hd')⟩
def KeepsW (B : Nat) (Wr : World → Nat → Prop) (V V' : World) : Prop := V.heap.size ≤ V'.heap.size ∧ ∀ k, B ≤ k → k < V.heap.size → ¬ Wr V k → V'.heap[k]? = V.heap[k]?
def FreshW (Wr : World → Nat → Prop) (V V' : World) : Prop := ∀ k, Wr V' k → Wr V k ∨ V.heap.size ≤ k
structure WrOk {β : Type} (B : Nat) (Wr : World → Nat → Prop) (J : β → World → Prop) : Prop where
 cells : ∀ s V k, J s V → Wr V k → ∃ o : Obj, V.heap[k]? = some o ∧ o.isCells = true
 step : ∀ s X Y row, J s X → X.grownBy Y row → (∀ r, row = some r → B ≤ r ∧ ∃ o : Obj, X.heap[r]? = some o ∧ o.isCells = false) → ∀ k, Wr Y k → Wr X k
theorem KeepsW.from {β : Type} {B : Nat} {Wr : World → Nat → Prop} {J : β → World → Prop} {V V' : World} {s : β} (h : KeepsW B Wr V V') (ok : WrOk B Wr J) (hj : J s V) : KeepsFrom B V V' := ⟨h.1, fun k o hk ho hc => by
 refine (h.2 k hk (Array.getElem?_eq_some_iff.1 ho).1 (fun hw => ?_)).trans ho
 obtain ⟨o2, h1, h2⟩ := ok.cells s V k hj hw
 rw [ho] at h1
 cases h1
 rw [hc] at h2
 cases h2⟩
theorem KeepsW.mono {B B' : Nat} {Wr : World → Nat → Prop} {V V' : World} (h : KeepsW B Wr V V') (hB : B ≤ B') : KeepsW B' Wr V V' := ⟨h.1, fun k hk => h.2 k (Nat.le_trans hB hk)⟩
theorem KeepsW.cell {B : Nat} {Wr : World → Nat → Prop} {V V' : World} (h : KeepsW B Wr V V') {a : Addr} {v : Value} (hc : V.cell? a = some v) (hB : B ≤ a.block) (hw : ¬ Wr V a.block) : V'.cell? a = some v := by
 have := h.2 a.block hB (World.block_lt_of_cell? V a hc) hw
 rw [← hc]
 simp only [World.cell?, this]
theorem KeepsW.old {B : Nat} {Wr : World → Nat → Prop} {V V' : World} (U : Old V V') : KeepsW B Wr V V' := ⟨U.size, fun k _ hl _ => U.keep k hl (fun x => x)⟩
theorem WrOk.mono {β : Type} {B B' : Nat} {Wr : World → Nat → Prop} {J J' : β → World → Prop} (h : WrOk B Wr J) (hB : B ≤ B') (hj : ∀ s V, J' s V → J s V) : WrOk B' Wr J' :=
 ⟨fun s V k a b => h.cells s V k (hj s V a) b, fun s X Y row a hg hr => h.step s X Y row (hj s X a) hg (fun r e => ⟨Nat.le_trans hB (hr r e).1, (hr r e).2⟩)⟩
theorem WrOk.by_old {β : Type} {B : Nat} {Wr : World → Nat → Prop} {J : β → World → Prop} (h : WrOk B Wr J) {s : β} {X Y : World} (hj : J s X) (U : Old X Y) {k : Nat} (hw : Wr Y k) : Wr X k :=
 h.step s X Y none hj (grown_of_old' U) (fun r e => by cases e) k hw
theorem own_by_old {β : Type} {B : Nat} {J : β → World → Prop} (h : OwnFrom B J) {s : β} {X Y : World} (hj : J s X) (U : Old X Y) : J s Y :=
 h s X Y none hj (grown_of_old' U) (fun r e => by cases e)
def SeqW {α : Type} (F : Fence) (n : Nat) (P : Program) (g : Nat) (lb : Array Value) (encs : α → Array Value) (G : List α → World → Prop) (ok : List α → α → Prop) (S : List α → Prop) (w : World) : Prop :=
 ∀ (l : Nat) (J Jx : List α → World → Prop) (Wr : World → Nat → Prop) (W : World), Old w W → OwnFrom W.heap.size J → OwnFrom W.heap.size Jx → (∀ pre V, J pre V → G pre V) → WrOk W.heap.size Wr J →
  (∀ pre x V, J pre V → ok pre x → YieldAt F (n - 1) P l (encs x) V fun e V' => KeepsW W.heap.size Wr V V' ∧ ((e = .returned (.bool true) ∧ J (pre ++ [x]) V' ∧ FreshW Wr V V') ∨ (e = .returned (.bool false) ∧ Jx (pre ++ [x]) V'))) →
  J [] W → CallsIn F n P g (#[.func (.yield l) #[] #[]] ++ lb) W fun e V => (∃ v, e = .returned v) ∧ ((∃ xs, S xs ∧ J xs V) ∨ ∃ pre, Jx pre V)
def ownPostW {α : Type} (B : Nat) (Wr : World → Nat → Prop) (I : List α → World → Prop) (Ix : Code → World → Prop) (xs : List α) (W : World) : Exit → Act → World → Prop
 | .normal, _, W' => KeepsW B Wr W W' ∧ FreshW Wr W W' ∧ I xs W'
 | .ret, _, W' => KeepsW B Wr W W' ∧ Ix .ret W'
 | .exit id, _, W' => KeepsW B Wr W W' ∧ Ix (.exit id) W'
 | .goto t, _, W' => KeepsW B Wr W W' ∧ Ix (.goto t) W'
 | .panic _, _, _ => False
 | .outgrown, _, _ => False
def SeqK {α : Type} (K : World → (World → Nat → Prop) → (List α → World → Prop) → Prop) (F : Fence) (n : Nat) (P : Program) (g : Nat) (lb : Array Value) (encs : α → Array Value) (G : List α → World → Prop) (ok : List α → α → Prop) (S : List α → Prop) (w : World) : Prop :=
 ∀ (l : Nat) (J Jx : List α → World → Prop) (Wr : World → Nat → Prop) (W : World), Old w W → OwnFrom W.heap.size J → OwnFrom W.heap.size Jx → (∀ pre V, J pre V → G pre V) → WrOk W.heap.size Wr J → K W Wr J →
  (∀ pre x V, J pre V → ok pre x → YieldAt F (n - 1) P l (encs x) V fun e V' => KeepsW W.heap.size Wr V V' ∧ ((e = .returned (.bool true) ∧ J (pre ++ [x]) V' ∧ FreshW Wr V V') ∨ (e = .returned (.bool false) ∧ Jx (pre ++ [x]) V'))) →
  J [] W → CallsIn F n P g (#[.func (.yield l) #[] #[]] ++ lb) W fun e V => (∃ v, e = .returned v) ∧ ((∃ xs, S xs ∧ J xs V) ∨ ∃ pre, Jx pre V)
def StW {β : Type} (B : Nat) (Wr : World → Nat → Prop) (J : β → World → Prop) : Prop := ∀ s X Y, J s X → Upd (fun b => B ≤ b ∧ ¬ Wr X b) X Y → J s Y ∧ ∀ k, Wr Y k → Wr X k
theorem range_k {α : Type} {K : World → (World → Nat → Prop) → (List α → World → Prop) → Prop} {F : Fence} {n : Nat} {P : Program} {g : Operand} {ps : Array Tmp} {assign body : Code} {Q : Exit → Act → World → Prop} {a : Act} {w : World} (hro : F.round = none) (h1 : 1 ≤ n) {gf : Nat} {lb : Array Value}
 (hg : a.eval g = .func (.func gf) #[] lb) (hF : F.fn gf) (eg : ∀ args w, (callFunc gf args).run P w = .ok (.enter gf args) w) {encs : α → Array Value} (hps : ∀ x, (encs x).size = ps.size)
 {G : List α → World → Prop} {ok : List α → α → Prop} {S : List α → Prop} (hseq : SeqK K F (n - 1) P gf lb encs G ok S w)
 (I : List α → World → Prop) (Ix : Code → World → Prop) (Wr : World → Nat → Prop) (hWr : WrOk w.heap.size Wr I) (hI : OwnFrom w.heap.size I) (hIx : ∀ c, OwnFrom w.heap.size (fun (_ : Unit) => Ix c)) (h0 : I [] w) (hG : ∀ pre V, I pre V → G pre V) (hKK : ∀ (r : Loop) (V1 : World), V1.heap.size = w.heap.size + 2 → K V1 Wr (fun pre V => I pre V ∧ Bk w.heap.size r V)) (a1 : α → Act)
 (hassign : ∀ (l : Nat) (x : α) (V : World) (K' : Act → World → Prop), K' (a1 x) V → assign.wpIn (F.inRound l) (n - 1 - 1) P (Exit.then K' (fun _ _ _ => False)) { tmps := (ps.zip (encs x)).foldl (fun t (p, v) => t.setIfInBounds p v) a.tmps, defers := [] } V)
 (hbody : ∀ (l : Nat) (pre : List α) (x : α) (V : World), w.heap.size ≤ l → I pre V → ok pre x → body.wpIn (F.inRound l) (n - 1 - 1) P (ownPostW w.heap.size Wr I Ix (pre ++ [x]) V) (a1 x) V)
 (hdone : ∀ (D : Nat) (xs : List α) (V : World), w.heap.size ≤ D → S xs → I xs V → V.heap[D]? = some (.deferred (some [])) → Q .normal { a with defers := { target := .collected D, args := #[] } :: a.defers } V)
 (hstop : ∀ (D : Nat) (c : Code) (V : World), w.heap.size ≤ D → Ix c V → V.heap[D]? = some (.deferred (some [])) → c.wpIn F n P Q { a with defers := { target := .collected D, args := #[] } :: a.defers } V) :
 (Code.rangeFunc g ps assign body).wpIn F n P Q a w := by
 refine wpIn_rangeFunc fun fn hfn => ?_
 rw [hro]
 obtain ⟨b, hb⟩ : ∃ b, w.heap.size = b := ⟨_, rfl⟩
 obtain ⟨r0, hr0⟩ : ∃ r0 : Loop, r0 = { state := .ready, pending := none, fn := fn, tmps := a.tmps, params := ps, assign := assign, body := body, defers := b } := ⟨_, rfl⟩
 obtain ⟨V1, hV1⟩ : ∃ V1, (w.alloc (.deferred (some []))).alloc (.loop r0) = V1 := ⟨_, rfl⟩
 have hz : V1.heap.size = b + 2 := by rw [← hV1, ← hb]; simp
 have U1 : Old w V1 := by rw [← hV1]; exact ((Upd.refl _ w).alloc _).alloc _
 have B1 : Bk b r0 V1 := by
  rw [← hV1]
  constructor
  ·rw [← hb]; exact (Below.heap_alloc _ _ _ (by simp)).trans (World.alloc_heap_new w _)
  ·have := World.alloc_heap_new (w.alloc (.deferred (some []))) (.loop r0)
   rwa [World.size_alloc, hb] at this
 have I1 : I [] V1 := by rw [← hV1]; exact hI.alloc _ (hI.alloc _ h0)
 refine ⟨b + 1, [{ target := .collected b, args := #[] }], V1, { target := .fn (.func gf) lb, args := #[.func (.yield (b + 1)) #[] #[]] }, V1, gf, #[.func (.yield (b + 1)) #[] #[]] ++ lb, V1, ?_, ?_, ?_, ?_, fun _ => h1, ?_⟩
 ·have := run_enterLoop_outer (P := P) (w := w) fn a.tmps ps assign body
  rw [hb] at this
  rw [this, ← hV1, hr0]
 ·simp only [resolve, hg]
  simp [go_sem]
 ·intro f' hf'
  simp [Target.leads] at hf'
  subst hf'
  exact hF
 ·simp [invoke, go_sem, eg]
 have row : ∀ {A : World} {r : Option Nat}, (∀ k, r = some k → V1.heap.size ≤ k ∧ ∃ o : Obj, A.heap[k]? = some o ∧ o.isCells = false) → ∀ k, r = some k → w.heap.size ≤ k ∧ ∃ o : Obj, A.heap[k]? = some o ∧ o.isCells = false := fun h k e => by
  obtain ⟨h2, o, ho, hw⟩ := h k e
  exact ⟨by omega, o, ho, hw⟩
 have put : ∀ {A : World} {s : List α} {r : Loop} (o2 : Obj), I s A → Bk b r A → ∀ k, Wr (A.putObj (b + 1) o2) k → Wr A k := fun {A s r} o2 hi hb k => hWr.step s A _ _ hi (grownBy_putObj' _ _ _) (fun q e => by cases e; exact ⟨by omega, _, hb.2, rfl⟩) k
 have far : ∀ {A C : World} {s : List α} {r : Loop} {o1 o2 : Obj}, I s A → Bk b r A → KeepsW w.heap.size Wr (A.putObj (b + 1) o1) C → KeepsW V1.heap.size Wr A (C.putObj (b + 1) o2) := fun {A C s r o1 o2} hi hb h => by
  refine ⟨by have := h.1; simpa using this, fun k hk hl hw => ?_⟩
  rw [World.putObj_heap_other (by omega)]
  have := h.2 k (by omega) (by simpa using hl) (fun hw2 => hw (put o1 hi hb k hw2))
  rw [this, World.putObj_heap_other (by omega)]
 refine (hseq (b + 1) (fun pre V => I pre V ∧ Bk b r0 V) (fun _ V => ∃ c, Ix c V ∧ Bk b { r0 with state := .done, pending := some c } V) Wr V1 U1 ?_ ?_ (fun pre V h => hG pre V h.1) ⟨fun s V k h hw => hWr.cells s V k h.1 hw, fun s A B r h hg hr k hw => hWr.step s A B r h.1 hg (row hr) k hw⟩ (by have := hKK r0 V1 (by omega); rwa [hb] at this) ?_ ⟨I1, B1⟩).mono ?_
 ·exact fun s A A' r h hgr hr => ⟨hI s A A' r h.1 hgr (row hr), h.2.far hgr (B := V1.heap.size) (by omega) (fun k e => (hr k e).1)⟩
 ·rintro s A A' r ⟨c, h1, h2⟩ hgr hr
  exact ⟨c, hIx c () A A' r h1 hgr (row hr), h2.far hgr (B := V1.heap.size) (by omega) (fun k e => (hr k e).1)⟩
 ·rintro pre x V ⟨hi, hk⟩ hok
  have hy := run_yield (P := P) (args := encs x) hk.2 (by rw [hr0]; exact hps x)
  rw [hr0] at hy
  refine ⟨fn, _, assign, body, hy, roundIn_of_wpIn hfn (hassign _ x V _ ?_)⟩
  refine ⟨_, run_beginRound hk.2 (by rw [hr0]), ?_⟩
  have hl : ∃ o : Obj, V.heap[b + 1]? = some o ∧ o.isCells = false := ⟨_, hk.2, rfl⟩
  have hk2 := hk.put { r0 with state := .busy }
  have hi2 := hI.putObj (s := pre) (.loop { r0 with state := .busy }) hi (by omega) hk.2 rfl
  have ends : ∀ (j : Option Code) (V3 : World), KeepsFrom w.heap.size (V.putObj (b + 1) (.loop { r0 with state := .busy })) V3 → (Instr.endRound (b + 1) j).run P V3 = .ok (.bool j.isNone) (V3.putObj (b + 1) (.loop { r0 with state := if j.isNone then .ready else .done, pending := j })) ∧ Bk b { r0 with state := .busy } V3 := fun j V3 k3 => by
   have e1 := k3.same _ _ (by omega) hk2.1 rfl
   have e2 := k3.same _ _ (by omega) hk2.2 rfl
   have e3 := run_endRound (P := P) j e2
   exact ⟨e3, e1, e2⟩
  refine wpIn_mono (hbody _ pre x _ (by omega) hi2 hok) ?_
  intro e a3 V3 hp
  have stop : ∀ c, KeepsW w.heap.size Wr (V.putObj (b + 1) (.loop { r0 with state := .busy })) V3 ∧ Ix c V3 → ∃ v V4, (Instr.endRound (b + 1) (some c)).run P V3 = .ok v V4 ∧ KeepsW V1.heap.size Wr V V4 ∧ ((Ending.returned v = .returned (.bool true) ∧ (I (pre ++ [x]) V4 ∧ Bk b r0 V4) ∧ FreshW Wr V V4) ∨ (Ending.returned v = .returned (.bool false) ∧ ∃ c, Ix c V4 ∧ Bk b { r0 with state := .done, pending := some c } V4)) := fun c h => by
   obtain ⟨e1, e2⟩ := ends (some c) V3 (h.1.from hWr hi2)
   exact ⟨_, _, e1, far hi hk h.1, .inr ⟨rfl, c, (hIx c).putObj (s := ()) _ h.2 (by omega) e2.2 rfl, by simpa using e2.put _⟩⟩
  cases e with
  | normal =>
   obtain ⟨k3, f3, i3⟩ := hp
   obtain ⟨e1, e2⟩ := ends none V3 (k3.from hWr hi2)
   refine ⟨_, _, e1, far hi hk k3, .inl ⟨rfl, ⟨hI.putObj (s := pre ++ [x]) _ i3 (by omega) e2.2 rfl, ?_⟩, fun k hw => ?_⟩⟩
   rotate_left
   ·rcases f3 k (put _ i3 e2 k hw) with h | h
    ·exact .inl (put _ hi hk k h)
    ·exact .inr (by simpa using h)
   have := e2.put r0
   rw [hr0] at this ⊢
   exact this
  | ret => exact stop _ hp
  | exit id => exact stop _ hp
  | goto t => exact stop _ hp
  | panic ch => exact hp.elim
  | outgrown => exact hp.elim
 ·rintro e V2 ⟨⟨v, rfl⟩, ⟨xs, hS, hi, hk⟩ | ⟨pre, c, hc, hk⟩⟩
  ·have := run_endLoop (P := P) hk.2 (by rw [hr0]; simp)
   rw [show r0.pending = none by rw [hr0]] at this
   exact ⟨none, _, this, hdone b xs _ (by omega) hS (hI.putObj (s := xs) _ hi (by omega) hk.2 rfl) (hk.put _).1⟩
  ·have := run_endLoop (P := P) hk.2 (by simp)
   exact ⟨some c, _, this, hstop b c _ (by omega) ((hIx c).putObj (s := ()) _ hc (by omega) hk.2 rfl) (hk.put _).1⟩
theorem range_w {α : Type} {F : Fence} {n : Nat} {P : Program} {g : Operand} {ps : Array Tmp} {assign body : Code} {Q : Exit → Act → World → Prop} {a : Act} {w : World} (hro : F.round = none) (h1 : 1 ≤ n) {gf : Nat} {lb : Array Value}
 (hg : a.eval g = .func (.func gf) #[] lb) (hF : F.fn gf) (eg : ∀ args w, (callFunc gf args).run P w = .ok (.enter gf args) w) {encs : α → Array Value} (hps : ∀ x, (encs x).size = ps.size)
 {G : List α → World → Prop} {ok : List α → α → Prop} {S : List α → Prop} (hseq : SeqW F (n - 1) P gf lb encs G ok S w)
 (I : List α → World → Prop) (Ix : Code → World → Prop) (Wr : World → Nat → Prop) (hWr : WrOk w.heap.size Wr I) (hI : OwnFrom w.heap.size I) (hIx : ∀ c, OwnFrom w.heap.size (fun (_ : Unit) => Ix c)) (h0 : I [] w) (hG : ∀ pre V, I pre V → G pre V) (a1 : α → Act)
 (hassign : ∀ (l : Nat) (x : α) (V : World) (K : Act → World → Prop), K (a1 x) V → assign.wpIn (F.inRound l) (n - 1 - 1) P (Exit.then K (fun _ _ _ => False)) { tmps := (ps.zip (encs x)).foldl (fun t (p, v) => t.setIfInBounds p v) a.tmps, defers := [] } V)
 (hbody : ∀ (l : Nat) (pre : List α) (x : α) (V : World), w.heap.size ≤ l → I pre V → ok pre x → body.wpIn (F.inRound l) (n - 1 - 1) P (ownPostW w.heap.size Wr I Ix (pre ++ [x]) V) (a1 x) V)
 (hdone : ∀ (D : Nat) (xs : List α) (V : World), w.heap.size ≤ D → S xs → I xs V → V.heap[D]? = some (.deferred (some [])) → Q .normal { a with defers := { target := .collected D, args := #[] } :: a.defers } V)
 (hstop : ∀ (D : Nat) (c : Code) (V : World), w.heap.size ≤ D → Ix c V → V.heap[D]? = some (.deferred (some [])) → c.wpIn F n P Q { a with defers := { target := .collected D, args := #[] } :: a.defers } V) :
 (Code.rangeFunc g ps assign body).wpIn F n P Q a w :=
 range_k (K := fun _ _ _ => True) hro h1 hg hF eg hps (fun l J Jx Wr W a b c d e _ f g => hseq l J Jx Wr W a b c d e f g) I Ix Wr hWr hI hIx h0 hG (fun _ _ _ => trivial) a1 hassign hbody hdone hstop
attribute [local go_sem] Oper.semAt_some
theorem vals_told (F : Fence) (n : Nat) (h7 : F.fn 233) (hro : F.round = none) (hn : 1 ≤ n) (l Bs b cap : Nat) (zs : List Ent) (hreach : zs.length ≤ 1000) (J Jx : List Ent → World → Prop)
 (hY : ∀ pre x W, J pre W → (pre = zs.take pre.length ∧ zs[pre.length]? = some x) → YieldAt F (n - 1) Tryz.prog l #[x.val] W fun e W' =>
   (e = .returned (.bool true) ∧ J (pre ++ [x]) W') ∨ (e = .returned (.bool false) ∧ Jx (pre ++ [x]) W'))
 (W : World) (hJ : AbidesFrom W.heap.size J) (hBs : W.cell? ⟨Bs, 0, none⟩ = some (.slice (some ⟨b, 0, none⟩) zs.length cap)) (hc : ∀ pre V, J pre V → ∀ i e, zs[i]? = some e → ∀ j u, e.cells[j]? = some u → V.cell? ⟨b, i * 6 + j, none⟩ = some u) (h0 : J [] W) :
 CallsIn F n Tryz.prog 233 #[.func (.yield l) #[] #[], .pointer (some ⟨Bs, 0, none⟩)] W fun e W' => (∃ v, e = .returned v) ∧
  ((∃ ys, ys = zs ∧ J ys W') ∨ (∃ pre, (∃ k, k ≤ zs.length ∧ pre = zs.take k) ∧ Jx pre W')) := by
 refine callsIn_of_wp Tryz.func233 rfl h7 ?_ hro
 simp only [Tryz.ntmps233, List.size_toArray, List.length_cons, List.length_nil, Nat.reduceAdd, Nat.reduceSub, Array.replicate_succ, Array.replicate_zero, List.push_toArray, List.append_toArray, List.nil_append, List.cons_append]
 have HC := Lib.hid hc
 have HY := Lib.hid hY
 have HJ := Lib.hid hJ
 clear hc hY hJ
 gi_wp2
 gi_loopw [7] (fun i wr => ∃ k : Nat, k ≤ zs.length ∧ i = .int .i64 k ∧ J (zs.take k) wr)
  (fun i _ => zs.length - (intOf i).toNat)
 case atStart => exact ⟨0, Nat.zero_le _, rfl, by simpa using h0⟩
 case round =>
  obtain ⟨k, hk, rfl, hJs⟩ := hrel
  by_cases hlt : k < zs.length
  ·obtain ⟨x, hx⟩ : ∃ x, zs[k]? = some x := ⟨zs[k]'(by omega), List.getElem?_eq_getElem _⟩
   have c0 : wr.cell? ⟨b, k * 6, none⟩ = some (.int .i64 ((x.seq : Nat) : Int)) := HC.out _ _ hJs k x hx 0 _ rfl
   have c1 : wr.cell? ⟨b, k * 6 + 1, none⟩ = some (.string x.key) := HC.out _ _ hJs k x hx 1 _ rfl
   have c2 : wr.cell? ⟨b, k * 6 + 2, none⟩ = some (.bool x.del) := HC.out _ _ hJs k x hx 2 _ rfl
   have c3 : wr.cell? ⟨b, k * 6 + 3, none⟩ = some (.int .i64 ((x.slot : Nat) : Int)) := HC.out _ _ hJs k x hx 3 _ rfl
   have c4 : wr.cell? ⟨b, k * 6 + 4, none⟩ = some (.int .i64 ((x.off : Nat) : Int)) := HC.out _ _ hJs k x hx 4 _ rfl
   have c5 : wr.cell? ⟨b, k * 6 + 5, none⟩ = some (.int .i64 ((x.size : Nat) : Int)) := HC.out _ _ hJs k x hx 5 _ rfl
   obtain ⟨fn, tmps, assign, body, hy, hR⟩ := HY.out (zs.take k) x (wr.alloc (.cells #[.int .i64 ((x.seq : Nat) : Int), .string x.key, .bool x.del, .int .i64 ((x.slot : Nat) : Int), .int .i64 ((x.off : Nat) : Int), .int .i64 ((x.size : Nat) : Int)] 47)) (HJ.out _ _ _ none hJs (World.grownBy_alloc _ _ none) (fun r e => by cases e)) (by rw [List.length_take, Nat.min_eq_left hk]; exact ⟨rfl, hx⟩)
   unfold Ent.val at hy
   have hts : zs.take k ++ [x] = zs.take (k + 1) := by rw [List.take_add_one, hx]; rfl
   gi_wp2
   refine hR.mono ?_
   rintro e W3 (⟨rfl, hJ3⟩ | ⟨rfl, hJx3⟩)
   ·gi_wp2
    go_roundw
    case rel => exact ⟨k + 1, by omega, by simp, by rw [← hts]; exact hJ3⟩
    case measure => simp [intOf]; omega
   ·gi_wp2
    refine bodyPost_ret (results_none rfl _ _ _) rfl ?_
    exact ⟨⟨_, rfl⟩, .inr ⟨_, ⟨k + 1, by omega, hts⟩, hJx3⟩⟩
  ·obtain rfl : k = zs.length := by omega
   gi_wp2
   go_end0
   exact ⟨⟨_, rfl⟩, .inl ⟨_, rfl, by simpa using hJs⟩⟩
structure SlG (PX PS X S i m c b cap : Nat) (zs : List Ent) (V : World) : Prop where
 px : V.cell? ⟨PX, 0, none⟩ = some (.pointer (some ⟨X, 0, none⟩))
 ps : V.cell? ⟨PS, 0, none⟩ = some (.int .i64 ((i : Nat) : Int))
 x1 : V.cell? ⟨X, 1, none⟩ = some (.slice (some ⟨S, 0, none⟩) m c)
 s : V.cell? ⟨S, i, none⟩ = some (.slice (some ⟨b, 0, none⟩) zs.length cap)
 row : ∀ i e, zs[i]? = some e → ∀ j u, e.cells[j]? = some u → V.cell? ⟨b, i * 6 + j, none⟩ = some u
theorem SlG.old {PX PS X S i m c b cap : Nat} {zs : List Ent} {V V' : World} (h : SlG PX PS X S i m c b cap zs V) (U : Old V V') : SlG PX PS X S i m c b cap zs V' :=
 ⟨Old.cellOf' U h.px, Old.cellOf' U h.ps, Old.cellOf' U h.x1, Old.cellOf' U h.s, fun i e hi j u hu => Old.cellOf' U (h.row i e hi j u hu)⟩
set_option maxHeartbeats 2000000 in
theorem slot_told {w : World} (nf : Nat) (hnf : 1 ≤ nf) {PX PS X S i m c b cap : Nat} {zs : List Ent} (hreach : zs.length ≤ 1000) (him : i < m) :
 SeqG Fence.wide nf Tryz.prog 168 #[.pointer (some ⟨PX, 0, none⟩), .pointer (some ⟨PS, 0, none⟩)] (fun x : Ent => #[x.val]) (fun _ V => SlG PX PS X S i m c b cap zs V) (fun pre x => pre = zs.take pre.length ∧ zs[pre.length]? = some x) (fun xs => xs = zs) w := by
 intro l J Jx W hW hJ hJx hG hY h0
 refine callsIn_wide.2 ?_
 show Calls Tryz.prog _ #[.func (.yield l) #[] #[], .pointer (some ⟨PX, 0, none⟩), .pointer (some ⟨PS, 0, none⟩)] W _
 have g1 : ¬ ((i : Int) < 0) := by omega
 have g2 : (i : Int) < (m : Int) := by omega
 have g3 : ¬ ((m : Int) ≤ (i : Int)) := by omega
 have g4 : 0 < m := by omega
 obtain ⟨hPX, hPS, hX1, hS, -⟩ := hG [] W h0
 have HV : Hid (∀ W1 : World, W.grownBy W1 none → W1.cell? ⟨W.heap.size, 0, none⟩ = some (.slice (some ⟨b, 0, none⟩) zs.length cap) → Calls Tryz.prog 233 #[.func (.yield l) #[] #[], .pointer (some ⟨W.heap.size, 0, none⟩)] W1 fun e V => (∃ v, e = .returned v) ∧ ((∃ xs, xs = zs ∧ J xs V) ∨ ∃ pre, Jx pre V)) := fun W1 hg hb => by
  refine (callsIn_wide.1 (vals_told Fence.wide nf trivial rfl hnf l W.heap.size b cap zs hreach J Jx hY W1 (fun s A B row hs hg' hr => hJ s A B row hs hg' (fun r e => ⟨Nat.le_trans hg.size (hr r e).1, (hr r e).2⟩)) hb (fun pre V hj => (hG pre V hj).row) (hJ _ _ _ none h0 hg (fun r e => by cases e)))).mono ?_
  rintro e V ⟨h1, h2 | ⟨pre, _, h2⟩⟩
  ·exact ⟨h1, .inl h2⟩
  ·exact ⟨h1, .inr ⟨pre, h2⟩⟩
 have HVI := Lib.hid (fun w : World => values_in (w := w) (v := .slice (some ⟨b, 0, none⟩) zs.length cap) ⟨_, _, _, rfl⟩)
 clear hJ h0 hY hG hJx
 go_enter Tryz.func168, Tryz.ntmps168
 go_wp2_with (first | go_in)
 ·have HG : W.grownBy ((W.alloc (.cells #[.slice (some ⟨b, 0, none⟩) zs.length cap] 142)).drew) none := grownBy_drew' (World.grownBy_alloc _ _ none)
  have HB : ((W.alloc (.cells #[.slice (some ⟨b, 0, none⟩) zs.length cap] 142)).drew).cell? ⟨W.heap.size, 0, none⟩ = some (.slice (some ⟨b, 0, none⟩) zs.length cap) := by simp
  go_region_with (first | (go_at_call 169; refine (HVI.out _).mono ?_; rintro e w1 ⟨rfl, rfl⟩) | (go_at_call 233; refine (HV.out ((W.alloc (.cells #[.slice (some ⟨b, 0, none⟩) zs.length cap] 142)).drew) HG HB).mono ?_; rintro e w2 ⟨⟨v, rfl⟩, hC⟩))
  all_goals
   go_end0
   exact ⟨⟨_, rfl⟩, hC⟩
end Go.M
namespace Go.M
open Go.Proofs Go.RowKit
theorem range_box {α : Type} {F : Fence} {n : Nat} {P : Program} {g : Operand} {ps : Array Tmp} {assign body : Code} {Q : Exit → Act → World → Prop} {a : Act} {w : World} (hro : F.round = none) (h1 : 1 ≤ n) {gf : Nat} {lb : Array Value}
 (hg : a.eval g = .func (.func gf) #[] lb) (hF : F.fn gf) (eg : ∀ args w, (callFunc gf args).run P w = .ok (.enter gf args) w) {encs : α → Array Value} (hps : ∀ x, (encs x).size = ps.size)
 {G : List α → World → Prop} {ok : List α → α → Prop} {S : List α → Prop} (hseq : SeqG F (n - 1) P gf lb encs G ok S w)
 (I : List α → World → Prop) (Ix : Code → World → Prop) (hI : OwnFrom w.heap.size I) (hIx : ∀ c, OwnFrom w.heap.size (fun (_ : Unit) => Ix c)) (h0 : I [] w) (hG : ∀ pre V, I pre V → G pre V) (ob : α → Obj) (a1 : α → Nat → Act)
 (hassign : ∀ (l : Nat) (x : α) (V : World) (K : Act → World → Prop), K (a1 x V.heap.size) (V.alloc (ob x)) → assign.wpIn (F.inRound l) (n - 1 - 1) P (Exit.then K (fun _ _ _ => False)) { tmps := (ps.zip (encs x)).foldl (fun t (p, v) => t.setIfInBounds p v) a.tmps, defers := [] } V)
 (hbody : ∀ (l H : Nat) (pre : List α) (x : α) (V : World), w.heap.size ≤ l → w.heap.size ≤ H → V.heap[H]? = some (ob x) → I pre V → ok pre x → body.wpIn (F.inRound l) (n - 1 - 1) P (ownPostG w.heap.size (fun _ _ => True) I (fun c _ => Ix c) (pre ++ [x]) V) (a1 x H) V)
 (hdone : ∀ (D : Nat) (xs : List α) (V : World), w.heap.size ≤ D → S xs → I xs V → V.heap[D]? = some (.deferred (some [])) → Q .normal { a with defers := { target := .collected D, args := #[] } :: a.defers } V)
 (hstop : ∀ (D : Nat) (c : Code) (V : World), w.heap.size ≤ D → Ix c V → V.heap[D]? = some (.deferred (some [])) → c.wpIn F n P Q { a with defers := { target := .collected D, args := #[] } :: a.defers } V) :
 (Code.rangeFunc g ps assign body).wpIn F n P Q a w := by
 refine wpIn_rangeFunc fun fn hfn => ?_
 rw [hro]
 obtain ⟨b, hb⟩ : ∃ b, w.heap.size = b := ⟨_, rfl⟩
 obtain ⟨r0, hr0⟩ : ∃ r0 : Loop, r0 = { state := .ready, pending := none, fn := fn, tmps := a.tmps, params := ps, assign := assign, body := body, defers := b } := ⟨_, rfl⟩
 obtain ⟨V1, hV1⟩ : ∃ V1, (w.alloc (.deferred (some []))).alloc (.loop r0) = V1 := ⟨_, rfl⟩
 have hz : V1.heap.size = b + 2 := by rw [← hV1, ← hb]; simp
 have U1 : Old w V1 := by rw [← hV1]; exact ((Upd.refl _ w).alloc _).alloc _
 have B1 : Bk b r0 V1 := by
  rw [← hV1]
  constructor
  ·rw [← hb]; exact (Below.heap_alloc _ _ _ (by simp)).trans (World.alloc_heap_new w _)
  ·have := World.alloc_heap_new (w.alloc (.deferred (some []))) (.loop r0)
   rwa [World.size_alloc, hb] at this
 have I1 : I [] V1 := by rw [← hV1]; exact hI.alloc _ (hI.alloc _ h0)
 refine ⟨b + 1, [{ target := .collected b, args := #[] }], V1, { target := .fn (.func gf) lb, args := #[.func (.yield (b + 1)) #[] #[]] }, V1, gf, #[.func (.yield (b + 1)) #[] #[]] ++ lb, V1, ?_, ?_, ?_, ?_, fun _ => h1, ?_⟩
 ·have := run_enterLoop_outer (P := P) (w := w) fn a.tmps ps assign body
  rw [hb] at this
  rw [this, ← hV1, hr0]
 ·simp only [resolve, hg]
  simp [go_sem]
 ·intro f' hf'
  simp [Target.leads] at hf'
  subst hf'
  exact hF
 ·simp [invoke, go_sem, eg]
 have row : ∀ {A : World} {r : Option Nat}, (∀ k, r = some k → V1.heap.size ≤ k ∧ ∃ o : Obj, A.heap[k]? = some o ∧ o.isWalk = true) → ∀ k, r = some k → w.heap.size ≤ k ∧ ∃ o : Obj, A.heap[k]? = some o ∧ o.isCells = false := fun h k e => by
  obtain ⟨h2, o, ho, hw⟩ := h k e
  exact ⟨by omega, o, ho, Obj.not_cells_of_walk hw⟩
 refine (hseq (b + 1) (fun pre V => I pre V ∧ Bk b r0 V) (fun _ V => ∃ c, Ix c V ∧ Bk b { r0 with state := .done, pending := some c } V) V1 U1 ?_ ?_ (fun pre V h => hG pre V h.1) ?_ ⟨I1, B1⟩).mono ?_
 ·exact fun s A A' r h hgr hr => ⟨hI s A A' r h.1 hgr (row hr), h.2.far hgr (B := V1.heap.size) (by omega) (fun k e => (hr k e).1)⟩
 ·rintro s A A' r ⟨c, h1, h2⟩ hgr hr
  exact ⟨c, hIx c () A A' r h1 hgr (row hr), h2.far hgr (B := V1.heap.size) (by omega) (fun k e => (hr k e).1)⟩
 ·rintro pre x V0 ⟨hi0, hk0⟩ hok
  have hy := run_yield (P := P) (args := encs x) hk0.2 (by rw [hr0]; exact hps x)
  rw [hr0] at hy
  refine ⟨fn, _, assign, body, hy, roundIn_of_wpIn hfn (hassign _ x V0 _ ?_)⟩
  have lb0 : b + 1 < V0.heap.size := (Array.getElem?_eq_some_iff.1 hk0.2).1
  have hi : I pre (V0.alloc (ob x)) := hI.alloc _ hi0
  have hk : Bk b r0 (V0.alloc (ob x)) := hk0.far (World.grownBy_alloc V0 (ob x) none) lb0 (fun k e => by cases e)
  have hH : (V0.alloc (ob x)).heap[V0.heap.size]? = some (ob x) := World.alloc_heap_new V0 _
  obtain ⟨V, hV⟩ : ∃ V, V0.alloc (ob x) = V := ⟨_, rfl⟩
  rw [hV] at hi hk hH ⊢
  refine ⟨_, run_beginRound hk.2 (by rw [hr0]), ?_⟩
  have hl : ∃ o : Obj, V.heap[b + 1]? = some o ∧ o.isCells = false := ⟨_, hk.2, rfl⟩
  have hk2 := hk.put { r0 with state := .busy }
  have hi2 := hI.putObj (s := pre) (.loop { r0 with state := .busy }) hi (by omega) hk.2 rfl
  have ends : ∀ (j : Option Code) (V3 : World), KeepsFrom w.heap.size (V.putObj (b + 1) (.loop { r0 with state := .busy })) V3 → (Instr.endRound (b + 1) j).run P V3 = .ok (.bool j.isNone) (V3.putObj (b + 1) (.loop { r0 with state := if j.isNone then .ready else .done, pending := j })) ∧ Bk b { r0 with state := .busy } V3 := fun j V3 k3 => by
   have e1 := k3.same _ _ (by omega) hk2.1 rfl
   have e2 := k3.same _ _ (by omega) hk2.2 rfl
   have e3 := run_endRound (P := P) j e2
   exact ⟨e3, e1, e2⟩
  refine wpIn_mono (hbody _ V0.heap.size pre x _ (by omega) (by omega) ((World.putObj_heap_other (by omega)).trans hH) hi2 hok) ?_
  intro e a3 V3 hp
  have stop : ∀ c, KeepsFrom w.heap.size (V.putObj (b + 1) (.loop { r0 with state := .busy })) V3 ∧ Ix c V3 → ∃ v V4, (Instr.endRound (b + 1) (some c)).run P V3 = .ok v V4 ∧ ((Ending.returned v = .returned (.bool true) ∧ I (pre ++ [x]) V4 ∧ Bk b r0 V4) ∨ (Ending.returned v = .returned (.bool false) ∧ ∃ c, Ix c V4 ∧ Bk b { r0 with state := .done, pending := some c } V4)) := fun c h => by
   obtain ⟨e1, e2⟩ := ends (some c) V3 h.1
   exact ⟨_, _, e1, .inr ⟨rfl, c, (hIx c).putObj (s := ()) _ h.2 (by omega) e2.2 rfl, by simpa using e2.put _⟩⟩
  cases e with
  | normal =>
   obtain ⟨k3, -, i3⟩ := hp
   obtain ⟨e1, e2⟩ := ends none V3 k3
   refine ⟨_, _, e1, .inl ⟨rfl, hI.putObj (s := pre ++ [x]) _ i3 (by omega) e2.2 rfl, ?_⟩⟩
   have := e2.put r0
   rw [hr0] at this ⊢
   exact this
  | ret => exact stop _ hp
  | exit id => exact stop _ hp
  | goto t => exact stop _ hp
  | panic ch => exact hp.elim
  | outgrown => exact hp.elim
 ·rintro e V2 ⟨⟨v, rfl⟩, ⟨xs, hS, hi, hk⟩ | ⟨pre, c, hc, hk⟩⟩
  ·have := run_endLoop (P := P) hk.2 (by rw [hr0]; simp)
   rw [show r0.pending = none by rw [hr0]] at this
   exact ⟨none, _, this, hdone b xs _ (by omega) hS (hI.putObj (s := xs) _ hi (by omega) hk.2 rfl) (hk.put _).1⟩
  ·have := run_endLoop (P := P) hk.2 (by simp)
   exact ⟨some c, _, this, hstop b c _ (by omega) ((hIx c).putObj (s := ()) _ hc (by omega) hk.2 rfl) (hk.put _).1⟩
end Go.M
