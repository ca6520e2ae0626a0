/- Walks 45. -/
import Derived.Test.YtjadmbkmlehfdaaGreatDoorProg
import Derived.Test.YtjadmbkmlehfdaaGreatDoorK14
import Derived.Test.YtjadmbkmlehfdaaGreatDoorK6
import Derived.Test.YtjadmbkmlehfdaaGreatDoorK5
import Derived.Test.YtjadmbkmlehfdaaGreatDoorK20
set_option linter.unusedVariables false
set_option linter.unusedSimpArgs false
set_option maxRecDepth 100000
namespace Go.M
open Go.Proofs Go.RowKit
structure DevT (w : World) (col : Col) (q D : Nat) (s : DevS) (K S cap T : Nat) (M : Nat → Nat) (V : Nat → Value) (tv : Value) : Prop where
 fd : ∃ t, Has w D t #[.pointer (some ⟨K, 0, none⟩), .pointer (some ⟨T, 0, none⟩), .int .i64 ((s.n : Nat) : Int), .int .i64 s.ops, .bool s.down]
 fk : ∃ t, Has w K t #[.slice (some ⟨S, 0, none⟩) (s.n + 2) cap]
 ft : ∃ t, Has w T t #[.bool true, tv]
 fs : ∀ i, i < s.n + 2 → w.cell? ⟨S, i, none⟩ = some (.pointer (some ⟨M i, 0, none⟩))
 fm : ∀ i, i < s.n + 2 → ImgAt w (M i) (V i) (s.img i)
 lo : 2 ≤ s.n
 hi : s.n ≤ 32
 cD : col D = (q, 0)
 cK : col K = (q, 1)
 cS : col S = (q, 2)
 cT : col T = (q, 3)
 cM : ∀ i, i < s.n + 2 → col (M i) = (q, 4 + 2 * i)
 cV : ∀ i, i < s.n + 2 → ∀ b, (V i).ownBlock = some b → col b = (q, 5 + 2 * i)
 ops0 : 0 ≤ s.ops
 ops1 : s.ops ≤ 1000000000
structure DcT (w : World) (D K S T Mi : Nat) (n i len sz dur cap : Nat) (ops : Int) (down : Bool) (va : Option Addr) (vc : Nat) (tv : Value) : Prop where
 d0 : w.cell? ⟨D, 0, none⟩ = some (.pointer (some ⟨K, 0, none⟩))
 d1 : w.cell? ⟨D, 1, none⟩ = some (.pointer (some ⟨T, 0, none⟩))
 d2 : w.cell? ⟨D, 2, none⟩ = some (.int .i64 ((n : Nat) : Int))
 d3 : w.cell? ⟨D, 3, none⟩ = some (.int .i64 ops)
 d4 : w.cell? ⟨D, 4, none⟩ = some (.bool down)
 k0 : w.cell? ⟨K, 0, none⟩ = some (.slice (some ⟨S, 0, none⟩) (n + 2) cap)
 t0 : w.cell? ⟨T, 0, none⟩ = some (.bool true)
 t1 : w.cell? ⟨T, 1, none⟩ = some tv
 s0 : w.cell? ⟨S, i, none⟩ = some (.pointer (some ⟨Mi, 0, none⟩))
 m0 : w.cell? ⟨Mi, 0, none⟩ = some (.slice va len vc)
 m1 : w.cell? ⟨Mi, 1, none⟩ = some (.int .i64 ((sz : Nat) : Int))
 m2 : w.cell? ⟨Mi, 2, none⟩ = some (.int .i64 ((dur : Nat) : Int))
 fD : ∀ j, w.frozen? ⟨D, j, none⟩ = false
 fM : ∀ j, w.frozen? ⟨Mi, j, none⟩ = false
 hD : D < w.heap.size
 hK : K < w.heap.size
 hS : S < w.heap.size
 hT : T < w.heap.size
 hM : Mi < w.heap.size
 b0 : (decide ((i : Int) < 0) || decide ((n : Int) + 2 ≤ (i : Int))) = false
 p0 : 0 < n
 p1 : (0 : Int) < (n : Int) + 2
 p2 : 0 < sz
 p3 : n ≤ 32
 p4 : i < n + 2
 p5 : len ≤ sz
 p6 : sz ≤ 8192
 p7 : dur ≤ len
 DK : D ≠ K
 DS : D ≠ S
 DT : D ≠ T
 DM : D ≠ Mi
 KM : K ≠ Mi
 SM : S ≠ Mi
 TM : T ≠ Mi
theorem DevT.cells {w : World} {col : Col} {q D : Nat} {s : DevS} {K S cap T : Nat} {M : Nat → Nat} {V : Nat → Value} {tv : Value} (h : DevT w col q D s K S cap T M V tv) (i : Nat) (hi : i < s.n + 2) :
 ∃ va vc, V i = .slice va (s.img i).bs.length vc ∧ DcT w D K S T (M i) s.n i (s.img i).bs.length (s.img i).sz (s.img i).dur cap s.ops s.down va vc tv := by
 obtain ⟨⟨_, d⟩, ⟨_, k⟩, ⟨_, t⟩, hs, hm, lo, hi2, cD, cK, cS, cT, cM, cV, -, -⟩ := h
 have s0 := hs i hi
 obtain ⟨⟨_, m⟩, own, f1, f2, p1, p2⟩ := hm i hi
 have hv : ∃ a c, V i = .slice a (s.img i).bs.length c := by
  rcases own.2 with ⟨h1, h2⟩ | ⟨g, c, cur, h1, _⟩
  ·exact ⟨none, 0, by rw [h1, h2]⟩
  ·exact ⟨_, _, h1⟩
 obtain ⟨va, vc, hv⟩ := hv
 rw [hv] at m
 have cm := cM i hi
 refine ⟨va, vc, hv, d.cell 0, d.cell 1, d.cell 2, d.cell 3, d.cell 4, k.cell 0, t.cell 0, t.cell 1, s0, m.cell 0, m.cell 1, m.cell 2, d.frozen, m.frozen, d.lt, k.lt, block_lt_of_cell s0, t.lt, m.lt, ?_, by omega, by omega, p1, hi2, hi, f1, p2, f2, ?_, ?_, ?_, ?_, ?_, ?_, ?_⟩
 ·simp; omega
 ·exact col_ne cD cK (by simp)
 ·exact col_ne cD cS (by simp)
 ·exact col_ne cD cT (by simp)
 ·exact col_ne cD cm (by simp; omega)
 ·exact col_ne cK cm (by simp; omega)
 ·exact col_ne cS cm (by simp; omega)
 ·exact col_ne cT cm (by simp; omega)
theorem DcT.old {w w' : World} (O : Old w w') {D K S T Mi : Nat} {n i len sz dur cap : Nat} {ops : Int} {down : Bool} {va : Option Addr} {vc : Nat} {tv : Value} (h : DcT w D K S T Mi n i len sz dur cap ops down va vc tv) :
 DcT w' D K S T Mi n i len sz dur cap ops down va vc tv := by
 obtain ⟨d0, d1, d2, d3, d4, k0, t0, t1, s0, m0, m1, m2, fD, fM, hD, hK, hS, hT, hM, b0, p0, p1, p2, p3, p4, p5, p6, p7, DK, DS, DT, DM, KM, SM, TM⟩ := h
 have n0 : ∀ b : Nat, ¬ False := fun _ h => h
 have z := O.size
 exact ⟨O.cellOf d0 (n0 0), O.cellOf d1 (n0 0), O.cellOf d2 (n0 0), O.cellOf d3 (n0 0), O.cellOf d4 (n0 0), O.cellOf k0 (n0 0), O.cellOf t0 (n0 0), O.cellOf t1 (n0 0), O.cellOf s0 (n0 0), O.cellOf m0 (n0 0), O.cellOf m1 (n0 0), O.cellOf m2 (n0 0),
  fun j => O.frz hD (fD j), fun j => O.frz hM (fM j), by omega, by omega, by omega, by omega, by omega, b0, p0, p1, p2, p3, p4, p5, p6, p7, DK, DS, DT, DM, KM, SM, TM⟩
theorem DevT.other {w w' : World} {col col' : Col} {q D : Nat} {s : DevS} {K S cap T : Nat} {M : Nat → Nat} {V : Nat → Value} {tv : Value} (h : DevT w col q D s K S cap T M V tv) {F : Nat → Prop} (U : Upd F w w') (hF : ∀ b, F b → (col b).1 ≠ q) (hc : Kept w col col') : DevT w' col' q D s K S cap T M V tv := by
 obtain ⟨⟨td, fd⟩, ⟨tk, fk⟩, ⟨tt, ft⟩, fs, fm, lo, hi, cD, cK, cS, cT, cM, cV, o0, o1⟩ := h
 have nF : ∀ b k, col b = (q, k) → ¬ F b := fun b k hb h => hF b h (by rw [hb])
 refine ⟨⟨td, U.has fd (nF _ _ cD)⟩, ⟨tk, U.has fk (nF _ _ cK)⟩, ⟨tt, U.has ft (nF _ _ cT)⟩, fun i hi => U.cellOf (fs i hi) (nF _ _ cS), fun i hi => ?_, lo, hi, by rw [hc _ fd.lt, cD], by rw [hc _ fk.lt, cK], by rw [hc _ (block_lt_of_cell (fs 0 (by omega))), cS], by rw [hc _ ft.lt, cT], fun i hi => ?_, fun i hi b hb => ?_, o0, o1⟩
 ·obtain ⟨⟨t, m⟩, own, f1, f2, p1, p2⟩ := fm i hi
  exact ⟨⟨t, U.has m (nF _ _ (cM i hi))⟩, Upd.own U own (fun b hb => nF _ _ (cV i hi b hb)), f1, f2, p1, p2⟩
 ·obtain ⟨⟨t, m⟩, own, f1, f2, p1, p2⟩ := fm i hi
  rw [hc _ m.lt, cM i hi]
 ·obtain ⟨⟨t, m⟩, own, f1, f2, p1, p2⟩ := fm i hi
  rw [hc _ (own_lt' own hb), cV i hi b hb]
section
variable {w : World} {col : Col} {q D : Nat} {s : DevS} {K S cap T : Nat} {M : Nat → Nat} {V : Nat → Value} {tv : Value}
theorem len_cellsT {w : World} {D K S T Mi : Nat} {n i len sz dur cap : Nat} {ops : Int} {va : Option Addr} {vc : Nat} {tv : Value} (h : DcT w D K S T Mi n i len sz dur cap ops false va vc tv) :
 Calls Tryz.prog 12 #[.pointer (some ⟨D, 0, none⟩), .int .i64 ((i : Nat) : Int)] w fun e w' => e = .returned (.tuple #[.int .i64 ((len : Nat) : Int), .int .i64 0]) ∧ Old w w' := by
 obtain ⟨d0, -, d2, -, d4, k0, -, -, s0, m0, m1, -, -, -, hD, hK, hS, -, hM, b0, p0, p1, p2, p3, p4, -, -, -, -, -, -, -, -, -, -⟩ := h
 go_enter Tryz.func12, Tryz.ntmps12
 go_wp2
 go_ret2
 exact ⟨rfl, ((Upd.refl _ _).alloc _).alloc _⟩
theorem ddur_walkT {w : World} {D K S T Mi : Nat} {n i len sz dur cap : Nat} {ops : Int} {va : Option Addr} {vc : Nat} {tv : Value} (h : DcT w D K S T Mi n i len sz dur cap ops false va vc tv) :
 Calls Tryz.prog 52 #[.pointer (some ⟨K, 0, none⟩), .int .i64 ((i : Nat) : Int)] w fun e w' => e = .returned (.tuple #[.int .i64 ((dur : Nat) : Int), .int .i64 0]) ∧ Old w w' := by
 obtain ⟨d0, -, d2, -, d4, k0, -, -, s0, m0, m1, m2, -, -, hD, hK, hS, -, hM, b0, p0, p1, p2, p3, p4, p5, p6, p7, -, -, -, -, -, -, -⟩ := h
 go_enter Tryz.func52, Tryz.ntmps52
 go_wp2
 go_ret2
 exact ⟨rfl, (((Upd.refl _ _).alloc _).alloc _)⟩
theorem uns_cellsT {w : World} {D K S T Mi : Nat} {n i len sz dur cap : Nat} {ops : Int} {va : Option Addr} {vc : Nat} {tv : Value} (h : DcT w D K S T Mi n i len sz dur cap ops false va vc tv) :
 Calls Tryz.prog 11 #[.pointer (some ⟨D, 0, none⟩), .int .i64 ((i : Nat) : Int)] w fun e w' => e = .returned (.tuple #[.int .i64 ((len : Int) - (dur : Int)), .int .i64 0]) ∧ Old w w' := by
 have HD := Lib.hid h
 have d0 := h.d0
 have hD := h.hD
 have q1 := h.p5
 have q2 := h.p6
 have q3 := h.p7
 clear h
 go_enter Tryz.func11, Tryz.ntmps11
 go_wp2_with (first | (go_at_call 12; refine (len_cellsT HD.out).mono ?_; rintro e1 w1 ⟨rfl, hO⟩; have H1 := Lib.hid hO; have HD1 := Lib.hid (HD.out.old hO); have c0 := HD1.out.d0; have hD1 := HD1.out.hD; clear hO) | (go_at_call 52; refine (ddur_walkT HD1.out).mono ?_; rintro e2 w2 ⟨rfl, hO⟩; have H2 := Lib.hid (H1.out.trans hO); clear hO))
 have hw : IntKind.i64.wrap ((len : Int) - (dur : Int)) = (len : Int) - (dur : Int) := IntWalk.i64_in _ (by omega)
 go_ret2
 exact ⟨rfl, H2.out⟩
theorem DevT.upd {w' : World} (h : DevT w col q D s K S cap T M V tv) {i : Nat} (hi : i < s.n + 2) {F : Nat → Prop} (U : Upd F w w') (hF : ∀ b, F b → b = D ∨ b = M i ∨ (V i).ownBlock = some b)
 {ops : Int} (hd : ∃ t, Has w' D t #[.pointer (some ⟨K, 0, none⟩), .pointer (some ⟨T, 0, none⟩), .int .i64 ((s.n : Nat) : Int), .int .i64 ops, .bool s.down])
 {v : Value} {m : ImgS} (him : ImgAt w' (M i) v m) {col' : Col} (hcol : Kept w col col') (hv : ∀ b, v.ownBlock = some b → col' b = (q, 5 + 2 * i)) (o0 : 0 ≤ ops) (o1 : ops ≤ 1000000000) :
 DevT w' col' q D { s with ops := ops, img := fun k => if k = i then m else s.img k } K S cap T M (fun k => if k = i then v else V k) tv := by
 obtain ⟨⟨td, d⟩, ⟨tk, k⟩, ⟨tt, t⟩, hs, hm, lo, hi2, cD, cK, cS, cT, cM, cV, -, -⟩ := h
 have lM : ∀ j, j < s.n + 2 → M j < w.heap.size := fun j hj => by obtain ⟨⟨_, m⟩, _⟩ := hm j hj; exact m.lt
 have lS : S < w.heap.size := block_lt_of_cell (hs i hi)
 have nF : ∀ b r, col b = (q, r) → r ≠ 0 → r ≠ 4 + 2 * i → r ≠ 5 + 2 * i → ¬ F b := by
  intro b r hb h0 h4 h5 hf
  rcases hF b hf with rfl | rfl | h1
  ·rw [cD] at hb; simp at hb; omega
  ·rw [cM i hi] at hb; simp at hb; omega
  ·rw [cV i hi b h1] at hb; simp at hb; omega
 refine ⟨hd, ⟨tk, U.has k (nF K 1 cK (by omega) (by omega) (by omega))⟩, ⟨tt, U.has t (nF T 3 cT (by omega) (by omega) (by omega))⟩, ?_, ?_, lo, hi2, ?_, ?_, ?_, ?_, ?_, ?_, o0, o1⟩
 ·intro j hj
  exact U.cellOf (hs j hj) (nF S 2 cS (by omega) (by omega) (by omega))
 ·intro j hj
  by_cases e : j = i
  ·subst e; simpa using him
  ·simp only [e, if_false]
   obtain ⟨⟨tm, m⟩, own, f1, f2, p1, p2⟩ := hm j hj
   exact ⟨⟨tm, U.has m (nF _ _ (cM j hj) (by omega) (by omega) (by omega))⟩, U.own own (fun b hb => nF _ _ (cV j hj b hb) (by omega) (by omega) (by omega)), f1, f2, p1, p2⟩
 ·rw [hcol D d.lt]; exact cD
 ·rw [hcol K k.lt]; exact cK
 ·rw [hcol S lS]; exact cS
 ·rw [hcol T t.lt]; exact cT
 ·intro j hj; rw [hcol _ (lM j hj)]; exact cM j hj
 ·intro j hj b hb
  by_cases e : j = i
  ·subst e; simp only [if_true] at hb; exact hv b hb
  ·simp only [e, if_false] at hb
   have hb2 : b < w.heap.size := by
    obtain ⟨_, own, _⟩ := hm j hj
    exact (own.lt b hb).2
   rw [hcol b hb2]; exact cV j hj b hb
theorem DevT.dev (h : DevT w col q D s K S cap T M V (.pointer none)) : DevAt w col q D s K S cap T M V := by
 obtain ⟨a, b, c, d, e, f, g, i, j, k, l, m, n, o, p⟩ := h
 exact ⟨a, b, c, d, e, f, g, i, j, k, l, m, n, o, p⟩
theorem DevAt.t (h : DevAt w col q D s K S cap T M V) : DevT w col q D s K S cap T M V (.pointer none) := by
 obtain ⟨a, b, c, d, e, f, g, i, j, k, l, m, n, o, p⟩ := h
 exact ⟨a, b, c, d, e, f, g, i, j, k, l, m, n, o, p⟩
end
theorem Upd.both {F : Nat → Prop} {w w1 : World} (U : Upd F w w1) (a : Addr) (v : Value) : Upd F (w.setCell a v) (w1.setCell a v) :=
 ⟨by simpa [World.setCell] using U.size, fun b hb hn => by
   have hb' : b < w.heap.size := by simpa [World.setCell] using hb
   have := U.keep b hb' hn
   unfold World.setCell
   simp only [Array.getElem?_modify, this], U.tape, U.os, U.out⟩
end Go.M
namespace Go.M
open Go.Proofs Go.RowKit
set_option linter.unusedSimpArgs false
def One (w : World) (g : Nat) (x : Nat) : Prop := w.cell? ⟨g, 0, none⟩ = some (.int .i64 ((x : Nat) : Int))
theorem clone_one {w : World} {kb kc x : Nat} (c : One w kb x) :
 Calls Tryz.prog 202 #[.slice (some ⟨kb, 0, none⟩) 1 kc] w fun e w' => ∃ g gc, e = .returned (.slice (some ⟨g, 0, none⟩) 1 gc) ∧ w.heap.size ≤ g ∧ 1 ≤ gc ∧ One w' g x ∧ Old w w' := by
 obtain ⟨i0, hi0, hz0, hz1, hz2⟩ := info_parts info_int
 have hq : ∀ w : World, (binOp .eql 48 (.slice (some ⟨kb, 0, none⟩) 1 kc) (.slice none 0 0)).run Tryz.prog w = .ok (.bool false) w := fun w => Lib.run_eql_slice_nil w _ _ _ _ _ _ _ Tryz.underlying48
 have he : ∀ j u, ([.int .i64 ((x : Nat) : Int)] : List Value)[j]? = some u → w.cell? ((⟨kb, 0, none⟩ : Addr).add j) = some u := fun j u h => by
  match j, h with
  | 0, h => cases h; exact c
  | j + 1, h => simp at h
 have HW : ∀ o : Obj, Hid (∀ j u, ([.int .i64 ((x : Nat) : Int)] : List Value)[j]? = some u → (w.alloc o).cell? ((⟨kb, 0, none⟩ : Addr).add j) = some u) := fun o j u hj => Old.cellOf' ((Upd.refl _ w).alloc o) (he j u hj)
 clear he c
 go_enter Tryz.func202, Tryz.ntmps202
 go_wp2_with (first | (at_builtin; refine wpList_append_mk rfl (.tmp 5) (.tmp 6) 48 rfl 3 i0 (.int .i64 0) 1 8 Tryz.underlying48 hi0 hz0 hz1 hz2 rfl (by decide) (.slice (some ⟨w.heap.size, 0, none⟩) 0 0) 0 [] rfl ?c0 ⟨kb, 0, none⟩ 1 kc [.int .i64 ((x : Nat) : Int)] rfl rfl (by exact (HW _).out) (by intro u hu; simp at hu; subst hu; rfl) (by unfold maxLen; omega) (by omega) ?_))
 case c0 => exact ⟨rfl, .inr ⟨w.heap.size, 0, #[], rfl, Nat.zero_le _, heap_alloc_new _ _, Nat.le_refl _, Nat.zero_le _, rfl, rfl⟩⟩
 intro v' w1 hown' hgrow hnil hfresh
 have hown' : w1.ownsRow 0 3 1 v' 1 [.int .i64 ((x : Nat) : Int)] := by simpa using hown'
 obtain ⟨g, gc, rfl⟩ := own_block hown' (by omega)
 have hU : Old w w1 := ((Upd.refl _ w).alloc _).grown hgrow (fun k hk => .inr (by simp [Value.ownBlock] at hk; omega))
 have hg : w.heap.size ≤ g := by
  rcases hfresh g rfl with h | h
  ·have : w.heap.size = g := by simpa [Value.ownBlock] using h
   omega
  ·exact Nat.le_trans (by simp) h
 have hc : w1.cell? ⟨g, 0, none⟩ = some (.int .i64 ((x : Nat) : Int)) := hown'.cells (g := g) rfl 0 _ rfl
 have hgc := (own_cap hown').1
 clear hown' hgrow hnil hfresh hq HW
 go_wp2
 go_ret
 exact ⟨g, gc, rfl, hg, hgc, hc, hU⟩
theorem fclone {w : World} {a kb kc x : Nat} {dn : Bool} (c : One w kb x) :
 Calls Tryz.prog 120 #[.agg #[.int .i64 ((a : Nat) : Int), .bool dn, .slice (some ⟨kb, 0, none⟩) 1 kc]] w fun e w' => ∃ g gc, e = .returned (.agg #[.int .i64 ((a : Nat) : Int), .bool dn, .slice (some ⟨g, 0, none⟩) 1 gc]) ∧ w.heap.size ≤ g ∧ 1 ≤ gc ∧ One w' g x ∧ Old w w' := by
 have hl := World.block_lt_of_cell? w _ c
 simp only at hl
 have HC := Lib.hid (fun (W : World) (U : Old w W) => clone_one (kc := kc) (show One W kb x from Old.cellOf' U c))
 clear c
 go_enter Tryz.func120, Tryz.ntmps120
 go_wp2_with (first | (go_at_call 202; refine (HC.out _ ?_).mono ?_; (exact (((Upd.refl _ w).alloc _).alloc _)); rintro e w1 ⟨g, gc, rfl, h1, h2, h3, hU⟩; have b0 := Old.has hU ((Has.new w 50 #[.int .i64 ((a : Nat) : Int), .bool dn, .slice (some ⟨kb, 0, none⟩) 1 kc]).alloc (.cells #[.int .i64 0, .bool false, .slice none 0 0] 50)); have b1 : Has w1 (w.heap.size + 1) 50 #[.int .i64 0, .bool false, .slice none 0 0] := Old.has hU (by have := Has.new (w.alloc (.cells #[.int .i64 ((a : Nat) : Int), .bool dn, .slice (some ⟨kb, 0, none⟩) 1 kc] 50)) 50 #[.int .i64 0, .bool false, .slice none 0 0]; simpa using this); have p0 := b0.cell 0; have p1 := b0.cell 1; have p2 := b0.cell 2; have f2 := b0.frozen 2; have q0 := b1.cell 0; have q1 := b1.cell 1; have q2 := b1.cell 2; have r0 := b1.frozen 0; have r1 := b1.frozen 1; have r2 := b1.frozen 2; have l0 := b0.lt; have l1 := b1.lt; have HO := Lib.hid (show Old w w1 from (((Upd.refl _ w).alloc _).alloc _).trans hU); have H3 := Lib.hid h3; have HB1 := Lib.hid b1; clear hU h3 b0 b1))
 have hh : Has ((((w1.setCell ⟨w.heap.size, 2, none⟩ (.slice (some ⟨g, 0, none⟩) 1 gc)).setCell ⟨w.heap.size + 1, 0, none⟩ (.int .i64 ((a : Nat) : Int))).setCell ⟨w.heap.size + 1, 1, none⟩ (.bool dn)).setCell ⟨w.heap.size + 1, 2, none⟩ (.slice (some ⟨g, 0, none⟩) 1 gc)) (w.heap.size + 1) 50 #[.int .i64 ((a : Nat) : Int), .bool dn, .slice (some ⟨g, 0, none⟩) 1 gc] := by
  have := (((HB1.out.setOther (a := ⟨w.heap.size, 2, none⟩) (by simp) (.slice (some ⟨g, 0, none⟩) 1 gc)).set 0 (.int .i64 ((a : Nat) : Int))).set 1 (.bool dn)).set 2 (.slice (some ⟨g, 0, none⟩) 1 gc)
  simpa using this
 refine bodyPost_ret (results_cell_row rfl _ _ (w.heap.size + 1) 50 #[.int .i64 ((a : Nat) : Int), .bool dn, .slice (some ⟨g, 0, none⟩) 1 gc] (0, 0) _ rfl hh Tryz.underlying50 rfl (by kernel_rfl)) rfl ?_
 ·have hb : w.heap.size ≤ w.heap.size + 1 := by omega
  have U := (((HO.out.setCell ⟨w.heap.size, 2, none⟩ (.slice (some ⟨g, 0, none⟩) 1 gc) (.inr (Nat.le_refl _))).setCell ⟨w.heap.size + 1, 0, none⟩ (.int .i64 ((a : Nat) : Int)) (.inr hb)).setCell ⟨w.heap.size + 1, 1, none⟩ (.bool dn) (.inr hb)).setCell ⟨w.heap.size + 1, 2, none⟩ (.slice (some ⟨g, 0, none⟩) 1 gc) (.inr hb)
  have U2 := ((((Upd.refl (fun b => b = w.heap.size ∨ b = w.heap.size + 1) w1).setCell ⟨w.heap.size, 2, none⟩ (.slice (some ⟨g, 0, none⟩) 1 gc) (.inl (.inl rfl))).setCell ⟨w.heap.size + 1, 0, none⟩ (.int .i64 ((a : Nat) : Int)) (.inl (.inr rfl))).setCell ⟨w.heap.size + 1, 1, none⟩ (.bool dn) (.inl (.inr rfl))).setCell ⟨w.heap.size + 1, 2, none⟩ (.slice (some ⟨g, 0, none⟩) 1 gc) (.inl (.inr rfl))
  have hg : w.heap.size + 2 ≤ g := by simpa using h1
  exact ⟨g, gc, rfl, by omega, h2, U2.cellOf H3.out (by omega), U⟩
theorem plan_some {w : World} {T PL a kb kc x : Nat} {dn : Bool} (t1 : w.cell? ⟨T, 1, none⟩ = some (.pointer (some ⟨PL, 0, none⟩))) (pl : Has w PL 50 #[.int .i64 ((a : Nat) : Int), .bool dn, .slice (some ⟨kb, 0, none⟩) 1 kc]) (c : One w kb x) :
 Calls Tryz.prog 194 #[.pointer (some ⟨T, 0, none⟩)] w fun e w' => ∃ g gc, e = .returned (.tuple #[.agg #[.int .i64 ((a : Nat) : Int), .bool dn, .slice (some ⟨g, 0, none⟩) 1 gc], .bool true]) ∧ w.heap.size ≤ g ∧ 1 ≤ gc ∧ One w' g x ∧ Old w w' := by
 have hT := block_lt_of_cell t1
 have hP := pl.lt
 simp only at hT
 have p0 := pl.cell 0
 have p1 := pl.cell 1
 have p2 := pl.cell 2
 have HC := Lib.hid (fun (W : World) (U : Old w W) => fclone (a := a) (kc := kc) (dn := dn) (show One W kb x from Old.cellOf' U c))
 clear c pl
 go_enter Tryz.func194, Tryz.ntmps194
 go_wp2_with (first | (go_at_call 120; refine (HC.out _ ?_).mono ?_; (exact ((Upd.refl _ w).alloc _)); rintro e w1 ⟨g, gc, rfl, h1, h2, h3, hU⟩; have b1 := Old.has hU (Has.new w 50 #[.int .i64 0, .bool false, .slice none 0 0]); have q0 := b1.cell 0; have q1 := b1.cell 1; have q2 := b1.cell 2; have r0 := b1.frozen 0; have r1 := b1.frozen 1; have r2 := b1.frozen 2; have l1 := b1.lt; have HO := Lib.hid (show Old w w1 from ((Upd.refl _ w).alloc _).trans hU); have H3 := Lib.hid h3; have HB1 := Lib.hid b1; clear hU h3 b1))
 refine bodyPost_ret (results_cell_tmp rfl _ _ ⟨w.heap.size, 0, none⟩ [.int .i64 ((a : Nat) : Int), .bool dn, .slice (some ⟨g, 0, none⟩) 1 gc] _ rfl ?_ Tryz.underlying50 rfl (by kernel_rfl)) rfl ?_
 ·have hh := ((HB1.out.set 0 (.int .i64 ((a : Nat) : Int))).set 1 (.bool dn)).set 2 (.slice (some ⟨g, 0, none⟩) 1 gc)
  intro j v hj
  rw [Addr.add_lit]
  simp only [Nat.zero_add]
  refine (hh.cell j).trans ?_
  simpa using hj
 ·have hb : w.heap.size ≤ w.heap.size := Nat.le_refl _
  have U := ((HO.out.setCell ⟨w.heap.size, 0, none⟩ (.int .i64 ((a : Nat) : Int)) (.inr hb)).setCell ⟨w.heap.size, 1, none⟩ (.bool dn) (.inr hb)).setCell ⟨w.heap.size, 2, none⟩ (.slice (some ⟨g, 0, none⟩) 1 gc) (.inr hb)
  have U2 := (((Upd.refl (fun b => b = w.heap.size) w1).setCell ⟨w.heap.size, 0, none⟩ (.int .i64 ((a : Nat) : Int)) (.inl rfl)).setCell ⟨w.heap.size, 1, none⟩ (.bool dn) (.inl rfl)).setCell ⟨w.heap.size, 2, none⟩ (.slice (some ⟨g, 0, none⟩) 1 gc) (.inl rfl)
  have hg : w.heap.size + 1 ≤ g := by simpa using h1
  exact ⟨g, gc, rfl, by omega, h2, U2.cellOf H3.out (by omega), U⟩
theorem ftidx1 {w : World} {kb kc x : Nat} (c : One w kb x) (hx : x ≤ 8192) :
 Calls Tryz.prog 255 #[.slice (some ⟨kb, 0, none⟩) 1 kc, .func (.func 201) #[] #[]] w fun e w' => e = .returned (.int .i64 (-1)) ∧ Old w w' := by
 have HF := Lib.hid (fun w' : World => ftkeep (w := w') hx)
 have c : w.cell? ⟨kb, 0, none⟩ = some (.int .i64 ((x : Nat) : Int)) := c
 go_enter Tryz.func255, Tryz.ntmps255
 go_wp2
 go_loopw [4, 5, 8] (fun a b i wr => ∃ k : Nat, k ≤ 1 ∧ i = .int .i64 k ∧ w = wr) (fun _ _ i _ => 1 - (intOf i).toNat)
 case atStart => exact ⟨0, by omega, rfl, rfl⟩
 case round =>
  obtain ⟨k, hk, rfl, rfl⟩ := hrel
  rcases Nat.eq_zero_or_pos k with rfl | hp
  ·go_wp2_with (first | (go_at_call 201; refine (HF.out _).mono ?_; rintro e w1 ⟨rfl, rfl⟩))
   exact ⟨⟨1, Nat.le_refl _, rfl, trivial⟩, by simp [intOf]⟩
  ·obtain rfl : k = 1 := by omega
   go_wp2
   go_ret
   exact ⟨rfl, Upd.refl _ _⟩
theorem ftcheck1 {w : World} {a kb kc x : Nat} {dn : Bool} (c : One w kb x) (hx : x ≤ 8192) (ha : a ≤ 1000000) :
 Calls Tryz.prog 119 #[.agg #[.int .i64 ((a : Nat) : Int), .bool dn, .slice (some ⟨kb, 0, none⟩) 1 kc]] w fun e w' => e = .returned (.int .i64 0) ∧ Old w w' := by
 have g1 : ¬ ((a : Int) < 0) := by omega
 have g2 : (a : Int) ≤ 1000000 := by omega
 have HF := Lib.hid (fun (w' : World) (U : Old w w') => ftidx1 (kc := kc) (show One w' kb x from Old.cellOf' U c) hx)
 clear c
 go_enter Tryz.func119, Tryz.ntmps119
 go_wp2_with (first | (go_at_call 255; refine (HF.out _ ?_).mono ?_; (exact ((Upd.refl _ _).alloc _)); rintro e w1 ⟨rfl, hU⟩; have HU := Lib.hid hU; clear hU) | go_in)
 go_ret
 exact ⟨rfl, ((Upd.refl _ _).alloc _).trans HU.out⟩
def TArm (w : World) (T : Nat) (tT : TypeId) (a x : Nat) (dn : Bool) (w' : World) : Prop := ∃ PL g gc, Has w' T tT #[.bool true, .pointer (some ⟨PL, 0, none⟩)] ∧ Has w' PL 50 #[.int .i64 ((a : Nat) : Int), .bool dn, .slice (some ⟨g, 0, none⟩) 1 gc] ∧ One w' g x ∧ 1 ≤ gc ∧ w.heap.size ≤ PL ∧ w.heap.size ≤ g ∧ PL ≠ g
theorem tarm1 {w : World} {T kb kc x a : Nat} {dn : Bool} {tT : TypeId} (ht : Has w T tT #[.bool true, .pointer none]) (c : One w kb x) (hx : x ≤ 8192) (ha : a ≤ 1000000) (ha1 : 1 ≤ a) :
 Calls Tryz.prog 55 #[.pointer (some ⟨T, 0, none⟩), .agg #[.int .i64 ((a : Nat) : Int), .bool dn, .slice (some ⟨kb, 0, none⟩) 1 kc]] w fun e w' => e = .returned (.int .i64 0) ∧ Upd (fun b => b = T) w w' ∧ TArm w T tT a x dn w' := by
 have t0 : w.cell? ⟨T, 0, none⟩ = some (.bool true) := ht.cell 0
 have t1 : w.cell? ⟨T, 1, none⟩ = some (.pointer none) := ht.cell 1
 have hT := ht.lt
 have hk := World.block_lt_of_cell? w _ c
 simp only at hk
 have kT : ∀ k, T < w.heap.size + k := fun k => by omega
 have g1 : (0 : Int) < (a : Int) := by omega
 have HF := Lib.hid (fun (w' : World) (U : Old w w') => ftcheck1 (a := a) (kc := kc) (dn := dn) (show One w' kb x from Old.cellOf' U c) hx ha)
 have HC := Lib.hid (fun (w' : World) (U : Upd (fun b => b = T) w w') (hn : T ≠ kb) => fclone (a := a) (kc := kc) (dn := dn) (show One w' kb x from U.cellOf c (Ne.symm hn)))
 have HT := Lib.hid ht
 have hTk : T ≠ kb := fun e => by
  subst e
  have := ht.cell 0
  unfold One at c
  rw [this] at c
  cases c
 clear c ht
 go_enter Tryz.func55, Tryz.ntmps55
 go_wp2_with (first | (go_at_call 119; refine (HF.out _ ?_).mono ?_; (exact ((Upd.refl _ _).alloc _)); rintro e w1 ⟨rfl, hU⟩; have b8 := Old.has hU (Has.new w 50 #[.int .i64 ((a : Nat) : Int), .bool dn, .slice (some ⟨kb, 0, none⟩) 1 kc]); have c0 := b8.cell 0; have c1 := b8.cell 1; have c2 := b8.cell 2; have hO := ((Upd.refl (fun _ => False) w).alloc _).trans hU; have hT1 := Old.has hO HT.out; have q0 := hT1.cell 0; have q1 := hT1.cell 1; have f1 := hT1.frozen 1; have l1 := hT1.lt; have HB8 := Lib.hid b8; have H1 := Lib.hid hO; have HT1 := Lib.hid hT1; clear t0 t1 HF hU b8 hO hT1) | (go_at_call 120; refine (HC.out _ ?_ hTk).mono ?_; (exact Upd.setCell (F := fun b => b = T) (H1.out.mono (fun _ _ h => h.elim)) _ _ (.inl rfl)); rintro e w2 ⟨g, gc, rfl, h1, h2, h3, hU⟩; have d8 := Old.has hU (HB8.out.setOther (a := ⟨T, 1, none⟩) (by simp only; omega) (.pointer none)); have dT := Old.has hU (HT1.out.set 1 (.pointer none)); have r0 := d8.frozen 0; have r1 := d8.frozen 1; have r2 := d8.frozen 2; have v0 := d8.cell 0; have v1 := d8.cell 1; have v2 := d8.cell 2; have y1 := dT.cell 1; have z1 := dT.frozen 1; have m1 := dT.lt; have m8 := d8.lt; have HD8 := Lib.hid d8; have HDT := Lib.hid dT; have H3 := Lib.hid (And.intro h1 (And.intro h2 (And.intro h3 hU))); clear hU h1 h2 h3 d8 dT))
 go_ret
 obtain ⟨h1, h2, h3, hU⟩ := H3.out
 have z1 : w.heap.size + 1 ≤ w1.heap.size := HB8.out.lt
 have hg : w1.heap.size ≤ g := by simpa using h1
 have hTH : T ≠ w.heap.size := by omega
 have hHT := Ne.symm hTH
 have dT : Has w2 T tT #[.bool true, .pointer none] := HDT.out
 refine ⟨rfl, ?_, w.heap.size, g, gc, ((((dT.setOther (a := ⟨w.heap.size, 0, none⟩) hHT _).setOther (a := ⟨w.heap.size, 1, none⟩) hHT _).setOther (a := ⟨w.heap.size, 2, none⟩) hHT _).set 1 _), ((((HD8.out.set 0 (.int .i64 ((a : Nat) : Int))).set 1 (.bool dn)).set 2 (.slice (some ⟨g, 0, none⟩) 1 gc)).setOther (a := ⟨T, 1, none⟩) hTH (.pointer (some ⟨w.heap.size, 0, none⟩))), ?_, h2, Nat.le_refl _, by omega, by omega⟩
 ·have U := ((H1.out.mono (G := fun b => b = T) (fun _ _ h => h.elim)).setCell ⟨T, 1, none⟩ (.pointer none) (.inl rfl)).trans (hU.mono (fun _ _ h => h.elim))
  exact (((U.setCell ⟨w.heap.size, 0, none⟩ _ (.inr (Nat.le_refl _))).setCell ⟨w.heap.size, 1, none⟩ _ (.inr (Nat.le_refl _))).setCell ⟨w.heap.size, 2, none⟩ _ (.inr (Nat.le_refl _))).setCell ⟨T, 1, none⟩ _ (.inl rfl)
 ·have U2 := ((((Upd.refl (fun b => b = w.heap.size ∨ b = T) w2).setCell ⟨w.heap.size, 0, none⟩ (.int .i64 ((a : Nat) : Int)) (.inl (.inl rfl))).setCell ⟨w.heap.size, 1, none⟩ (.bool dn) (.inl (.inl rfl))).setCell ⟨w.heap.size, 2, none⟩ (.slice (some ⟨g, 0, none⟩) 1 gc) (.inl (.inl rfl))).setCell ⟨T, 1, none⟩ (.pointer (some ⟨w.heap.size, 0, none⟩)) (.inl (.inr rfl))
  exact U2.cellOf h3 (by omega)
theorem tm_copy1 {w : World} {T PL a kb kc x : Nat} {dn : Bool} (t0 : w.cell? ⟨T, 0, none⟩ = some (.bool true)) (t1 : w.cell? ⟨T, 1, none⟩ = some (.pointer (some ⟨PL, 0, none⟩))) (pl : Has w PL 50 #[.int .i64 ((a : Nat) : Int), .bool dn, .slice (some ⟨kb, 0, none⟩) 1 kc]) (c : One w kb x) :
 Calls Tryz.prog 112 #[.pointer (some ⟨T, 0, none⟩)] w fun e w' => ∃ b, e = .returned (.pointer (some ⟨b, 0, none⟩)) ∧ Old w w' := by
 have HP := Lib.hid (fun (W : World) (U : Old w W) => plan_some (a := a) (kc := kc) (dn := dn) (Old.cellOf' U t1) (U.has pl) (show One W kb x from Old.cellOf' U c))
 clear c pl
 go_enter Tryz.func112, Tryz.ntmps112
 go_wp2_with (first | (go_at_call 194; refine (HP.out _ ?_).mono ?_; (exact ((Upd.refl _ w).alloc _)); rintro e w1 ⟨g, gc, rfl, h1, h2, h3, hU⟩; have b1 := Old.has hU (Has.new w 184 #[.bool true, .pointer none]); have r1 := b1.frozen 1; have q1 := b1.cell 1; have l1 := b1.lt; have kl : ∀ k, w.heap.size < w1.heap.size + k := (fun k => by omega); have HO := Lib.hid (show Old w w1 from ((Upd.refl _ w).alloc _).trans hU); clear hU h1 h2 h3 b1) | go_in)
 go_ret
 exact ⟨_, rfl, (HO.out.setCell ⟨w.heap.size, 1, none⟩ _ (.inr (Nat.le_refl _))).alloc _⟩
end Go.M
