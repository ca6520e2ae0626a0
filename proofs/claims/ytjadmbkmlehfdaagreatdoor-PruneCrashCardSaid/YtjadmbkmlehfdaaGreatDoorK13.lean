/- Walks 13. -/
import Derived.Test.YtjadmbkmlehfdaaGreatDoorProg
import Derived.Test.YtjadmbkmlehfdaaGreatDoorK2
import Derived.Test.YtjadmbkmlehfdaaGreatDoorK11
import Derived.Test.YtjadmbkmlehfdaaGreatDoorK5
set_option linter.unusedVariables false
set_option linter.unusedSimpArgs false
set_option maxRecDepth 100000
namespace Go.M
open Go.Proofs Go.RowKit
theorem own_lt' {w : World} {e : TypeId} {size n b : Nat} {v : Value} {xs : List Value} (own : w.ownsRow 0 e size v n xs) (hb : v.ownBlock = some b) : b < w.heap.size := (own.lt _ hb).2
theorem DevAt.other {w w' : World} {col col' : Col} {q D : Nat} {s : DevS} {K S cap T : Nat} {M : Nat → Nat} {V : Nat → Value} (h : DevAt w col q D s K S cap T M V) {F : Nat → Prop} (U : Upd F w w') (hF : ∀ b, F b → (col b).1 ≠ q) (hc : Kept w col col') : DevAt w' col' q D s K S cap T M V := by
 obtain ⟨⟨td, fd⟩, ⟨tk, fk⟩, ⟨tt, ft⟩, fs, fm, lo, hi, cD, cK, cS, cT, cM, cV, o0, o1⟩ := h
 have nF : ∀ b k, col b = (q, k) → ¬ F b := fun b k hb h => hF b h (by rw [hb])
 refine ⟨⟨td, U.has fd (nF _ _ cD)⟩, ⟨tk, U.has fk (nF _ _ cK)⟩, ⟨tt, U.has ft (nF _ _ cT)⟩, fun i hi => U.cellOf (fs i hi) (nF _ _ cS), fun i hi => ?_, lo, hi, by rw [hc _ fd.lt, cD], by rw [hc _ fk.lt, cK], by rw [hc _ (block_lt_of_cell (fs 0 (by omega))), cS], by rw [hc _ ft.lt, cT], fun i hi => ?_, fun i hi b hb => ?_, o0, o1⟩
 ·obtain ⟨⟨t, m⟩, own, f1, f2, p1, p2⟩ := fm i hi
  exact ⟨⟨t, U.has m (nF _ _ (cM i hi))⟩, Upd.own U own (fun b hb => nF _ _ (cV i hi b hb)), f1, f2, p1, p2⟩
 ·obtain ⟨⟨t, m⟩, own, f1, f2, p1, p2⟩ := fm i hi
  rw [hc _ m.lt, cM i hi]
 ·obtain ⟨⟨t, m⟩, own, f1, f2, p1, p2⟩ := fm i hi
  rw [hc _ (own_lt' own hb), cV i hi b hb]
theorem DbAt.upd {F : Nat → Prop} {w w' : World} (h : DbAt w) (U : Upd F w w') (hg : ¬ F 3) : DbAt w' := fun q hq => U.cellOf (h q hq) hg
theorem SealAt.upd {F : Nat → Prop} {w w' : World} (h : SealAt w) (U : Upd F w w') (hg : ¬ F 1) : SealAt w' := by
 obtain ⟨h0, h1, h2, h3, h4, h5⟩ := h
 exact ⟨U.cellOf h0 hg, U.cellOf h1 hg, U.cellOf h2 hg, U.cellOf h3 hg, U.cellOf h4 hg, U.cellOf h5 hg⟩
theorem BytesAt.upd {F : Nat → Prop} {w w' : World} {v : Value} {bs : List UInt8} (h : BytesAt w v bs) (U : Upd F w w') (hg : ∀ ad n c, v = .slice (some ad) n c → ¬ F ad.block) : BytesAt w' v bs := by
 rcases h with h | ⟨ad, c, h1, h2⟩
 ·exact .inl h
 ·refine .inr ⟨ad, c, h1, fun j u hj => ?_⟩
  have := h2 j u hj
  have hb : (ad.add j).block = ad.block := by unfold Addr.add; split <;> rfl
  rw [U.cell (World.block_lt_of_cell? w _ this) (by rw [hb]; exact hg ad _ _ h1)]
  exact this
theorem tab_busy {w : World} {B n r z0 z1 z2 z3 z4 x0 x2 x3 x4 : Nat} (h : TabCells w B n r z0 z1 z2 z3 z4 x0 0 x2 x3 x4) (hf : pop x0 ≤ r) :
 Calls Tryz.prog 105 #[.pointer (some ⟨B, 0, none⟩)] w fun e w' => e = .returned (.tuple #[.int .i64 0, .int .i64 11]) ∧ Old w w' := by
 have hp : pop x0 ≤ 10 := by
  have : ∀ x, x < 1024 → pop x ≤ 10 := by decide +kernel
  exact this x0 h.l0
 have hpz : pop 0 = 0 := by decide
 have HH := Lib.hid h
 obtain ⟨b0, b1, b2, b3, b4, b5, b6, n0, n1, n2, n3, n4, y0, y1, y2, y3, y4, f0, f1, f2, f3, f4, hB, p0, p1, p2, l0, l1, l2, l3, l4, e01, e02, e03, e04, e12, e13, e14, e23, e24, e34⟩ := h
 go_enter Tryz.func105, Tryz.ntmps105
 go_wp2_with (first | (go_at_call 78; (with_reducible refine (set_len (B := z1) (n := n) (x := 0) ?_ ?_ p0 (by omega)).mono ?_); exact n1; exact y1; rintro e w1 ⟨rfl, rfl⟩) | (go_at_call 78; (with_reducible refine (set_len (B := z0) (n := n) (x := x0) ?_ ?_ p0 l0).mono ?_); exact n0; exact y0; rintro e w1 ⟨rfl, rfl⟩) | go_in)
 go_quiet ((go_at_call 27; exact Calls.quiet_of_same (tab_free' (HH.out.old ((Upd.refl _ w).drewN _)))))
 go_wp2
 go_ret2
 exact ⟨rfl, Upd.drewN (Upd.refl _ _) _⟩
section
variable {w : World} {B n r z0 z1 z2 z3 z4 x0 x1 x2 x3 x4 : Nat}
theorem tab_stateE (h : TabCells w B n r z0 z1 z2 z3 z4 x0 x1 x2 x3 x4) (i k : Nat) (hi : i < n) (hk : k < 5) (b0 : x0.testBit i = (k == 0)) (b1 : x1.testBit i = (k == 1)) (b2 : x2.testBit i = (k == 2)) (b3 : x3.testBit i = (k == 3)) (b4 : x4.testBit i = (k == 4)) :
 Calls Tryz.prog 32 #[.pointer (some ⟨B, 0, none⟩), .int .i64 ((i : Nat) : Int)] w fun e w' => e = .returned (.tuple #[.int .i64 ((k : Nat) : Int), .int .i64 0]) ∧ w = w' := by
 by_cases h3 : k < 3
 ·refine tab_state h i k hi ?_
  obtain rfl | rfl | rfl : k = 0 ∨ k = 1 ∨ k = 2 := by omega
  ·exact .inl ⟨rfl, by rw [b0]; rfl⟩
  ·exact .inr (.inl ⟨rfl, by rw [b0]; rfl, by rw [b1]; rfl⟩)
  ·exact .inr (.inr ⟨rfl, by rw [b0]; rfl, by rw [b1]; rfl, by rw [b2]; rfl⟩)
 have c0 : (decide ((i : Int) < 0) || decide ((n : Int) ≤ (i : Int))) = false := by simp; omega
 have HH := Lib.hid h
 have A0 : Hid (x0.testBit i = false) := Lib.hid (by rw [b0]; simp; omega)
 have A1 : Hid (x1.testBit i = false) := Lib.hid (by rw [b1]; simp; omega)
 have A2 : Hid (x2.testBit i = false) := Lib.hid (by rw [b2]; simp; omega)
 have A3 := Lib.hid b3
 have A4 := Lib.hid b4
 clear b0 b1 b2 b3 b4
 obtain ⟨b0, b1, b2, b3, b4, b5, b6, n0, n1, n2, n3, n4, y0, y1, y2, y3, y4, f0, f1, f2, f3, f4, hB, p0, p1, p2, l0, l1, l2, l3, l4, e01, e02, e03, e04, e12, e13, e14, e23, e24, e34⟩ := h
 have k0 : ∀ w : World, (Instr.index 104 (.agg #[.pointer (some ⟨z0, 0, none⟩), .pointer (some ⟨z1, 0, none⟩), .pointer (some ⟨z2, 0, none⟩), .pointer (some ⟨z3, 0, none⟩), .pointer (some ⟨z4, 0, none⟩)]) (.int .i64 0)).run Tryz.prog w = .ok (.pointer (some ⟨z0, 0, none⟩)) w := fun _ => by kernel_rfl
 have k1 : ∀ w : World, (Instr.index 104 (.agg #[.pointer (some ⟨z0, 0, none⟩), .pointer (some ⟨z1, 0, none⟩), .pointer (some ⟨z2, 0, none⟩), .pointer (some ⟨z3, 0, none⟩), .pointer (some ⟨z4, 0, none⟩)]) (.int .i64 1)).run Tryz.prog w = .ok (.pointer (some ⟨z1, 0, none⟩)) w := fun _ => by kernel_rfl
 have k2 : ∀ w : World, (Instr.index 104 (.agg #[.pointer (some ⟨z0, 0, none⟩), .pointer (some ⟨z1, 0, none⟩), .pointer (some ⟨z2, 0, none⟩), .pointer (some ⟨z3, 0, none⟩), .pointer (some ⟨z4, 0, none⟩)]) (.int .i64 2)).run Tryz.prog w = .ok (.pointer (some ⟨z2, 0, none⟩)) w := fun _ => by kernel_rfl
 have k3 : ∀ w : World, (Instr.index 104 (.agg #[.pointer (some ⟨z0, 0, none⟩), .pointer (some ⟨z1, 0, none⟩), .pointer (some ⟨z2, 0, none⟩), .pointer (some ⟨z3, 0, none⟩), .pointer (some ⟨z4, 0, none⟩)]) (.int .i64 3)).run Tryz.prog w = .ok (.pointer (some ⟨z3, 0, none⟩)) w := fun _ => by kernel_rfl
 have k4 : ∀ w : World, (Instr.index 104 (.agg #[.pointer (some ⟨z0, 0, none⟩), .pointer (some ⟨z1, 0, none⟩), .pointer (some ⟨z2, 0, none⟩), .pointer (some ⟨z3, 0, none⟩), .pointer (some ⟨z4, 0, none⟩)]) (.int .i64 4)).run Tryz.prog w = .ok (.pointer (some ⟨z4, 0, none⟩)) w := fun _ => by kernel_rfl
 go_enter Tryz.func32, Tryz.ntmps32
 go_wp2_with (first | (go_at_call 50; refine (tab_valid HH.out).mono ?_; rintro e w1 ⟨rfl, rfl⟩) | (refine wpList_load_part rfl 104 (.tmp 25) rfl ⟨B, 2, none⟩ rfl [.pointer (some ⟨z0, 0, none⟩), .pointer (some ⟨z1, 0, none⟩), .pointer (some ⟨z2, 0, none⟩), .pointer (some ⟨z3, 0, none⟩), .pointer (some ⟨z4, 0, none⟩)] ?c1 _ Tryz.underlying104 rfl (by kernel_rfl) ?_) | go_in)
 case c1 =>
  intro j v hj
  match j with
  | 0 => cases hj; exact b2
  | 1 => cases hj; exact b3
  | 2 => cases hj; exact b4
  | 3 => cases hj; exact b5
  | 4 => cases hj; exact b6
  | j + 5 => simp at hj
 go_wp2
 refine wp_loop_rounds 5 ?_
 rw [rounds_succ]
 go_wp2_with (first | (go_at_call 94; refine (set_has (B := z0) (n := n) (x := x0) (by exact n0) (by exact y0) p0 (by omega) hi (by omega)).mono ?_; rw [A0.out]; rintro e w1 ⟨rfl, rfl⟩))
 rw [rounds_succ]
 go_wp2_with (first | (go_at_call 94; refine (set_has (B := z1) (n := n) (x := x1) (by exact n1) (by exact y1) p0 (by omega) hi (by omega)).mono ?_; rw [A1.out]; rintro e w1 ⟨rfl, rfl⟩))
 rw [rounds_succ]
 go_wp2_with (first | (go_at_call 94; refine (set_has (B := z2) (n := n) (x := x2) (by exact n2) (by exact y2) p0 (by omega) hi (by omega)).mono ?_; rw [A2.out]; rintro e w1 ⟨rfl, rfl⟩))
 obtain rfl | rfl : k = 3 ∨ k = 4 := by omega
 ·rw [rounds_succ]
  go_wp2_with (first | (go_at_call 94; refine (set_has (B := z3) (n := n) (x := x3) (by exact n3) (by exact y3) p0 (by omega) hi (by omega)).mono ?_; rw [A3.out]; rintro e w1 ⟨rfl, rfl⟩))
  go_ret2
  exact ⟨rfl, rfl⟩
 ·rw [rounds_succ]
  go_wp2_with (first | (go_at_call 94; refine (set_has (B := z3) (n := n) (x := x3) (by exact n3) (by exact y3) p0 (by omega) hi (by omega)).mono ?_; rw [A3.out]; rintro e w1 ⟨rfl, rfl⟩))
  rw [rounds_succ]
  go_wp2_with (first | (go_at_call 94; refine (set_has (B := z4) (n := n) (x := x4) (by exact n4) (by exact y4) p0 (by omega) hi (by omega)).mono ?_; rw [A4.out]; rintro e w1 ⟨rfl, rfl⟩))
  go_ret2
  exact ⟨rfl, rfl⟩
theorem tab_chg1 (h : TabCells w B n r z0 z1 z2 z3 z4 x0 x1 x2 x3 x4) (i : Nat) (hi : i < n) (g0 : x0.testBit i = (1 == 0)) (g1 : x1.testBit i = (1 == 1)) (g2 : x2.testBit i = (1 == 2)) (g3 : x3.testBit i = (1 == 3)) (g4 : x4.testBit i = (1 == 4)) (nb : z1 ≠ B) :
 Calls Tryz.prog 126 #[.pointer (some ⟨B, 0, none⟩), .int .i64 ((i : Nat) : Int), .agg #[.bool false, .bool true, .bool false, .bool false, .bool true, .int .i64 2]] w fun e w' => e = .returned (.int .i64 0) ∧
  Old ((w.setCell ⟨z1, 1, none⟩ (.int .u64 ((clr x1 i : Nat) : Int))).setCell ⟨z2, 1, none⟩ (.int .u64 ((x2 ||| 2 ^ i : Nat) : Int))) w' := by
 have HS := Lib.hid (fun (W : World) (U : Old w W) => tab_stateE (h.old U) i 1 hi (by omega) g0 g1 g2 g3 g4)
 clear g0 g1 g2 g3 g4
 obtain ⟨b0, b1, b2, b3, b4, b5, b6, n0, n1, n2, n3, n4, y0, y1, y2, y3, y4, f0, f1, f2, f3, f4, hB, p0, p1, p2, l0, l1, l2, l3, l4, e01, e02, e03, e04, e12, e13, e14, e23, e24, e34⟩ := h
 have hz1 := block_lt_of_cell n1
 have hz2 := block_lt_of_cell n2
 simp only at hz1 hz2
 have nb' := Ne.symm nb
 go_enter Tryz.func126, Tryz.ntmps126
 go_wp2_with (first | (go_at_call 32; refine (HS.out _ ((Upd.refl _ w).alloc _)).mono ?_; rintro e w1 ⟨rfl, rfl⟩) | (go_at_call 209; refine (tab_move (B := B) (f := 1) (g := 2) (zf := z1) (zt := z2) (n := n) (xf := x1) (xt := x2) (i := i) (by go_simp) (by go_simp) (by go_simp) (by go_simp) (by go_simp) (by go_simp) (by intro j; go_simp) (by intro j; go_simp) e12 nb (by omega) (by omega) p0 p1 hi l1 l2).mono ?_; rintro e w1 ⟨rfl, rfl⟩) | go_in)
 go_ret
 exact ⟨rfl, (((Upd.refl _ _).alloc _).drew).drew⟩
theorem tab_Seal1 (h : TabCells w B n r z0 z1 z2 z3 z4 x0 x1 x2 x3 x4) (hS : SealAt w) (i : Nat) (hi : i < n) (g0 : x0.testBit i = (1 == 0)) (g1 : x1.testBit i = (1 == 1)) (g2 : x2.testBit i = (1 == 2)) (g3 : x3.testBit i = (1 == 3)) (g4 : x4.testBit i = (1 == 4)) (nb : z1 ≠ B) :
 Calls Tryz.prog 109 #[.pointer (some ⟨B, 0, none⟩), .int .i64 ((i : Nat) : Int)] w fun e w' => e = .returned (.int .i64 0) ∧
  Old ((w.setCell ⟨z1, 1, none⟩ (.int .u64 ((clr x1 i : Nat) : Int))).setCell ⟨z2, 1, none⟩ (.int .u64 ((x2 ||| 2 ^ i : Nat) : Int))) w' := by
 have HC := Lib.hid (tab_chg1 h i hi g0 g1 g2 g3 g4 nb)
 obtain ⟨s0, s1, s2, s3, s4, s5⟩ := hS
 clear h g0 g1 g2 g3 g4
 go_enter Tryz.func109, Tryz.ntmps109
 go_wp2_with (first | (refine wpList_load_part rfl 192 (.global 1) rfl ⟨1, 0, none⟩ rfl [.bool false, .bool true, .bool false, .bool false, .bool true, .int .i64 2] ?c1 _ Tryz.underlying192 rfl (by kernel_rfl) ?_) | (go_at_call 126; refine HC.out.mono ?_; rintro e w1 ⟨rfl, hO⟩))
 case c1 =>
  intro j v hj
  match j with
  | 0 => cases hj; exact s0
  | 1 => cases hj; exact s1
  | 2 => cases hj; exact s2
  | 3 => cases hj; exact s3
  | 4 => cases hj; exact s4
  | 5 => cases hj; exact s5
  | j + 6 => simp at hj
 go_ret
 exact ⟨rfl, hO⟩
theorem tab_chg4 (h : TabCells w B n r z0 z1 z2 z3 z4 x0 x1 x2 x3 x4) (i : Nat) (hi : i < n) (g0 : x0.testBit i = (4 == 0)) (g1 : x1.testBit i = (4 == 1)) (g2 : x2.testBit i = (4 == 2)) (g3 : x3.testBit i = (4 == 3)) (g4 : x4.testBit i = (4 == 4)) (nb : z4 ≠ B) :
 Calls Tryz.prog 126 #[.pointer (some ⟨B, 0, none⟩), .int .i64 ((i : Nat) : Int), .agg #[.bool false, .bool true, .bool false, .bool false, .bool true, .int .i64 2]] w fun e w' => e = .returned (.int .i64 0) ∧
  Old ((w.setCell ⟨z4, 1, none⟩ (.int .u64 ((clr x4 i : Nat) : Int))).setCell ⟨z2, 1, none⟩ (.int .u64 ((x2 ||| 2 ^ i : Nat) : Int))) w' := by
 have HS := Lib.hid (fun (W : World) (U : Old w W) => tab_stateE (h.old U) i 4 hi (by omega) g0 g1 g2 g3 g4)
 clear g0 g1 g2 g3 g4
 obtain ⟨b0, b1, b2, b3, b4, b5, b6, n0, n1, n2, n3, n4, y0, y1, y2, y3, y4, f0, f1, f2, f3, f4, hB, p0, p1, p2, l0, l1, l2, l3, l4, e01, e02, e03, e04, e12, e13, e14, e23, e24, e34⟩ := h
 have hz1 := block_lt_of_cell n4
 have hz2 := block_lt_of_cell n2
 simp only at hz1 hz2
 have nb' := Ne.symm nb
 go_enter Tryz.func126, Tryz.ntmps126
 go_wp2_with (first | (go_at_call 32; refine (HS.out _ ((Upd.refl _ w).alloc _)).mono ?_; rintro e w1 ⟨rfl, rfl⟩) | (go_at_call 209; refine (tab_move (B := B) (f := 4) (g := 2) (zf := z4) (zt := z2) (n := n) (xf := x4) (xt := x2) (i := i) (by go_simp) (by go_simp) (by go_simp) (by go_simp) (by go_simp) (by go_simp) (by intro j; go_simp) (by intro j; go_simp) (Ne.symm e24) nb (by omega) (by omega) p0 p1 hi l4 l2).mono ?_; rintro e w1 ⟨rfl, rfl⟩) | go_in)
 go_ret
 exact ⟨rfl, (((Upd.refl _ _).alloc _).drew).drew⟩
theorem tab_Seal4 (h : TabCells w B n r z0 z1 z2 z3 z4 x0 x1 x2 x3 x4) (hS : SealAt w) (i : Nat) (hi : i < n) (g0 : x0.testBit i = (4 == 0)) (g1 : x1.testBit i = (4 == 1)) (g2 : x2.testBit i = (4 == 2)) (g3 : x3.testBit i = (4 == 3)) (g4 : x4.testBit i = (4 == 4)) (nb : z4 ≠ B) :
 Calls Tryz.prog 109 #[.pointer (some ⟨B, 0, none⟩), .int .i64 ((i : Nat) : Int)] w fun e w' => e = .returned (.int .i64 0) ∧
  Old ((w.setCell ⟨z4, 1, none⟩ (.int .u64 ((clr x4 i : Nat) : Int))).setCell ⟨z2, 1, none⟩ (.int .u64 ((x2 ||| 2 ^ i : Nat) : Int))) w' := by
 have HC := Lib.hid (tab_chg4 h i hi g0 g1 g2 g3 g4 nb)
 obtain ⟨s0, s1, s2, s3, s4, s5⟩ := hS
 clear h g0 g1 g2 g3 g4
 go_enter Tryz.func109, Tryz.ntmps109
 go_wp2_with (first | (refine wpList_load_part rfl 192 (.global 1) rfl ⟨1, 0, none⟩ rfl [.bool false, .bool true, .bool false, .bool false, .bool true, .int .i64 2] ?c1 _ Tryz.underlying192 rfl (by kernel_rfl) ?_) | (go_at_call 126; refine HC.out.mono ?_; rintro e w1 ⟨rfl, hO⟩))
 case c1 =>
  intro j v hj
  match j with
  | 0 => cases hj; exact s0
  | 1 => cases hj; exact s1
  | 2 => cases hj; exact s2
  | 3 => cases hj; exact s3
  | 4 => cases hj; exact s4
  | 5 => cases hj; exact s5
  | j + 6 => simp at hj
 go_ret
 exact ⟨rfl, hO⟩
end
def cntS (st : Nat → Nat) (n k : Nat) : Nat := ((List.range n).filter fun i => st i == k).length
def lowS (st : Nat → Nat) (n k : Nat) : Option Nat := (List.range n).find? fun i => st i == k
def setSt (st : Nat → Nat) (i b : Nat) : Nat → Nat := fun k => if k = i then b else st k
def BitsOf (x n : Nat) (st : Nat → Nat) (k : Nat) : Prop := x < 2 ^ n ∧ ∀ i, i < n → x.testBit i = (st i == k)
theorem range_ten {n : Nat} (h : n ≤ 10) : List.range 10 = List.range n ++ (List.range (10 - n)).map (n + ·) := by
 rw [← List.range_add]
 congr 1
 omega
theorem find_congr {p q : Nat → Bool} : ∀ {l : List Nat}, (∀ x ∈ l, p x = q x) → l.find? p = l.find? q
 | [], _ => rfl
 | a :: l, h => by
  rw [List.find?_cons, List.find?_cons, h a (List.mem_cons_self ..), find_congr (fun x hx => h x (List.mem_cons_of_mem _ hx))]
theorem BitsOf.above {x n k : Nat} {st : Nat → Nat} (h : BitsOf x n st k) (j : Nat) : x.testBit (n + j) = false :=
 Nat.testBit_lt_two_pow (Nat.lt_of_lt_of_le h.1 (Nat.pow_le_pow_right (n := 2) (by omega) (Nat.le_add_right n j)))
theorem BitsOf.pop {x n k : Nat} {st : Nat → Nat} (h : BitsOf x n st k) (hn : n ≤ 10) : pop x = cntS st n k := by
 unfold Go.M.pop cntS
 rw [range_ten hn, List.filter_append, List.length_append]
 have h2 : ((List.range (10 - n)).map (n + ·)).filter (fun i => x.testBit i) = [] := by
  rw [List.filter_eq_nil_iff]
  intro i hi
  obtain ⟨j, -, rfl⟩ := List.mem_map.1 hi
  rw [h.above j]
  decide
 rw [h2, List.length_nil, Nat.add_zero]
 congr 1
 exact List.filter_congr (fun i hi => h.2 i (List.mem_range.1 hi))
theorem BitsOf.find {x n k : Nat} {st : Nat → Nat} (h : BitsOf x n st k) (hn : n ≤ 10) : (List.range 10).find? (fun i => x.testBit i) = lowS st n k := by
 unfold lowS
 rw [range_ten hn, List.find?_append]
 have h1 : (List.range n).find? (fun i => x.testBit i) = (List.range n).find? (fun i => st i == k) := find_congr (fun i hi => h.2 i (List.mem_range.1 hi))
 have h2 : ((List.range (10 - n)).map (n + ·)).find? (fun i => x.testBit i) = none := by
  rw [List.find?_eq_none]
  intro i hi
  obtain ⟨j, -, rfl⟩ := List.mem_map.1 hi
  rw [h.above j]
  decide
 rw [h1, h2, Option.or_none]
theorem lowS_some {st : Nat → Nat} {n k i : Nat} (h : lowS st n k = some i) : i < n ∧ st i = k := by
 have h1 := List.find?_some h
 have h2 := List.mem_of_find?_eq_some h
 exact ⟨List.mem_range.1 h2, by simpa using h1⟩
theorem lowS_none {st : Nat → Nat} {n k : Nat} (h : lowS st n k = none) : ∀ i, i < n → st i ≠ k := fun i hi e => by
 have := List.find?_eq_none.1 h i (List.mem_range.2 hi)
 simp [e] at this
theorem BitsOf.low {x n k i : Nat} {st : Nat → Nat} (h : BitsOf x n st k) (hn : n ≤ 10) (hl : lowS st n k = some i) : Go.M.low x = i ∧ 0 < x := by
 refine ⟨by unfold Go.M.low; rw [h.find hn, hl]; rfl, ?_⟩
 obtain ⟨h1, h2⟩ := lowS_some hl
 have := h.2 i h1
 rw [h2] at this
 rcases Nat.eq_zero_or_pos x with rfl | h3
 ·simp at this
 ·exact h3
theorem BitsOf.zero {x n k : Nat} {st : Nat → Nat} (h : BitsOf x n st k) (hl : lowS st n k = none) : x = 0 := by
 refine Nat.eq_of_testBit_eq fun i => ?_
 rw [Nat.zero_testBit]
 rcases Nat.lt_or_ge i n with h1 | h1
 ·rw [h.2 i h1]
  simpa using lowS_none hl i h1
 ·have := h.above (i - n)
  rwa [show n + (i - n) = i by omega] at this
theorem cntS_pos {st : Nat → Nat} {n k i : Nat} (h : lowS st n k = some i) : 0 < cntS st n k := by
 obtain ⟨h1, h2⟩ := lowS_some h
 exact List.length_pos_of_mem (List.mem_filter.2 ⟨List.mem_range.2 h1, by simp [h2]⟩)
theorem lowS_of {st : Nat → Nat} {n k : Nat} (h : 0 < cntS st n k) : ∃ i, lowS st n k = some i := by
 rcases hl : lowS st n k with _ | i
 ·unfold cntS at h
  have : ((List.range n).filter fun i => st i == k) = [] := by
   rw [List.filter_eq_nil_iff]
   intro i hi
   simpa using lowS_none hl i (List.mem_range.1 hi)
  rw [this] at h
  cases h
 ·exact ⟨i, rfl⟩
def TabB (t : TabS) (st : Nat → Nat) : Prop := (∀ k, k < 5 → BitsOf (t.x k) t.n st k) ∧ ∀ i, i < t.n → st i < 5
def TabG (w : World) (col : Col) (q B n r : Nat) (st : Nat → Nat) : Prop := ∃ t Z, TabAt w col q B t Z ∧ t.n = n ∧ t.r = r ∧ TabB t st
section
variable {w w' : World} {col : Col} {q B n r : Nat} {st : Nat → Nat}
theorem TabG.other {col' : Col} (h : TabG w col q B n r st) {F : Nat → Prop} (U : Upd F w w') (hF : ∀ b, F b → (col b).1 ≠ q) (hc : Kept w col col') : TabG w' col' q B n r st := by
 obtain ⟨t, Z, h, h1⟩ := h
 exact ⟨t, Z, h.other U hF hc, h1⟩
theorem TabG.few (h : TabG w col q B n r st) : n ≤ 10 ∧ 0 < n ∧ r ≤ n ∧ (∀ i, i < n → st i < 5) ∧ col B = (q, 0) := by
 obtain ⟨t, Z, h, rfl, rfl, hs⟩ := h
 exact ⟨h.hi, h.lo, h.rn, hs.2, h.cB⟩
theorem TabB.bits {t : TabS} (h : TabB t st) {i : Nat} (hi : i < t.n) : (t.x 0).testBit i = (st i == 0) ∧ (t.x 1).testBit i = (st i == 1) ∧ (t.x 2).testBit i = (st i == 2) ∧ (t.x 3).testBit i = (st i == 3) ∧ (t.x 4).testBit i = (st i == 4) :=
 ⟨(h.1 0 (by omega)).2 i hi, (h.1 1 (by omega)).2 i hi, (h.1 2 (by omega)).2 i hi, (h.1 3 (by omega)).2 i hi, (h.1 4 (by omega)).2 i hi⟩
theorem TabG.state (h : TabG w col q B n r st) {i : Nat} (hi : i < n) :
 Calls Tryz.prog 32 #[.pointer (some ⟨B, 0, none⟩), .int .i64 ((i : Nat) : Int)] w fun e w' => e = .returned (.tuple #[.int .i64 ((st i : Nat) : Int), .int .i64 0]) ∧ w = w' := by
 obtain ⟨t, Z, h, rfl, rfl, hs⟩ := h
 obtain ⟨a0, a1, a2, a3, a4⟩ := hs.bits hi
 exact tab_stateE h.cells i (st i) hi (hs.2 i hi) a0 a1 a2 a3 a4
theorem TabG.free (h : TabG w col q B n r st) :
 Calls Tryz.prog 27 #[.pointer (some ⟨B, 0, none⟩)] w fun e w' => e = .returned (.int .i64 ((cntS st n 0 : Nat) : Int)) ∧ w = w' := by
 obtain ⟨t, Z, h, rfl, rfl, hs⟩ := h
 rw [← (hs.1 0 (by omega)).pop h.hi]
 exact tab_free h.cells
theorem TabAt.zb {t : TabS} {Z : Nat → Nat} (h : TabAt w col q B t Z) {k : Nat} (hk : k < 5) : Z k ≠ B := fun e => by
 have h2 := h.cZ k hk
 rw [e, h.cB] at h2
 simp at h2
 omega
theorem TabG.moved {t : TabS} {Z : Nat → Nat} (h : TabAt w col q B t Z) (hs : TabB t st) {a b i : Nat} (ha : a < 5) (hb : b < 5) (hab : a ≠ b) (hi : i < t.n) (hst : st i = a)
 (O : Old ((w.setCell ⟨Z a, 1, none⟩ (.int .u64 ((clr (t.x a) i : Nat) : Int))).setCell ⟨Z b, 1, none⟩ (.int .u64 ((t.x b ||| 2 ^ i : Nat) : Int))) w') : TabG w' col q B t.n t.r (setSt st i b) ∧ Upd (fun b => (col b).1 = q) w w' := by
 have hn := h.hi
 have h1024 : 2 ^ t.n ≤ 1024 := Nat.pow_le_pow_right (n := 2) (by omega) hn
 have la := h.bd a ha
 have lb := h.bd b hb
 have va := clr_lt (i := i) la
 have vb : t.x b ||| 2 ^ i < 2 ^ t.n := Nat.or_lt_two_pow lb (Nat.pow_lt_pow_right (by omega) hi)
 obtain ⟨ht, U⟩ := h.move ha hb hab va vb O
 refine ⟨⟨_, Z, ht, rfl, rfl, fun k hk => ?_, fun j hj => ?_⟩, U.mono (fun c _ h1 => by rcases h1 with rfl | rfl <;> rw [h.cZ _ (by omega)])⟩
 ·show BitsOf (if k = a then clr (t.x a) i else if k = b then t.x b ||| 2 ^ i else t.x k) t.n (setSt st i b) k
  refine ⟨by split; exact va; split; exact vb; exact h.bd k hk, fun j hj => ?_⟩
  have hj' := (hs.1 k hk).2 j hj
  by_cases e1 : k = a
  ·subst e1
   rw [if_pos rfl, clr_bit _ (by omega) i (by omega) j (by omega), hj']
   by_cases e : j = i
   ·subst e
    simp [setSt, Ne.symm hab]
   ·simp [setSt, e, Ne.symm e]
  ·by_cases e2 : k = b
   ·subst e2
    rw [if_neg e1, if_pos rfl, Nat.testBit_or, hj']
    by_cases e : j = i
    ·subst e
     simp [setSt, Nat.testBit_two_pow_self]
    ·rw [Nat.testBit_two_pow_of_ne (fun f => e f.symm)]
     simp [setSt, e]
   ·rw [if_neg e1, if_neg e2, hj']
    by_cases e : j = i
    ·subst e
     have h1 : (st j == k) = false := by rw [hst, beq_eq_false_iff_ne]; exact fun f => e1 f.symm
     have h2 : (setSt st j b j == k) = false := by unfold setSt; rw [if_pos rfl, beq_eq_false_iff_ne]; exact fun f => e2 f.symm
     rw [h1, h2]
    ·simp [setSt, e]
 ·unfold setSt
  split
  ·exact hb
  ·exact hs.2 j hj
theorem TabG.active (hT : DbAt w) (h : TabG w col q B n r st) {i : Nat} (hl : lowS st n 1 = some i) :
 Calls Tryz.prog 10 #[.pointer (some ⟨B, 0, none⟩), .int .i64 1] w fun e w' => e = .returned (.tuple #[.int .i64 ((i : Nat) : Int), .bool true]) ∧ w = w' := by
 obtain ⟨t, Z, h, rfl, rfl, hs⟩ := h
 obtain ⟨b1, b2⟩ := (hs.1 1 (by omega)).low h.hi hl
 rw [← b1]
 exact tab_active hT h.cells b2
theorem TabG.idle (h : TabG w col q B n r st) (hl : lowS st n 1 = none) :
 Calls Tryz.prog 10 #[.pointer (some ⟨B, 0, none⟩), .int .i64 1] w fun e w' => e = .returned (.tuple #[.int .i64 0, .bool false]) ∧ w = w' := by
 obtain ⟨t, Z, h, rfl, rfl, hs⟩ := h
 have hc := h.cells
 rw [(hs.1 1 (by omega)).zero hl] at hc
 exact tab_inactive hc
theorem TabG.busy (h : TabG w col q B n r st) (hl : lowS st n 1 = none) (hf : cntS st n 0 ≤ r) :
 Calls Tryz.prog 105 #[.pointer (some ⟨B, 0, none⟩)] w fun e w' => e = .returned (.tuple #[.int .i64 0, .int .i64 11]) ∧ Old w w' := by
 obtain ⟨t, Z, h, rfl, rfl, hs⟩ := h
 have hc := h.cells
 rw [(hs.1 1 (by omega)).zero hl] at hc
 exact tab_busy hc (by rw [(hs.1 0 (by omega)).pop h.hi]; exact hf)
theorem TabG.take (hT : DbAt w) (h : TabG w col q B n r st) (hl : lowS st n 1 = none) (hf : r < cntS st n 0) {i : Nat} (h0 : lowS st n 0 = some i) :
 Calls Tryz.prog 105 #[.pointer (some ⟨B, 0, none⟩)] w fun e w' => e = .returned (.tuple #[.int .i64 ((i : Nat) : Int), .int .i64 0]) ∧ TabG w' col q B n r (setSt st i 1) ∧ Upd (fun b => (col b).1 = q) w w' := by
 obtain ⟨t, Z, h, rfl, rfl, hs⟩ := h
 have hc := h.cells
 have hz := (hs.1 1 (by omega)).zero hl
 rw [hz] at hc
 obtain ⟨b1, b2⟩ := (hs.1 0 (by omega)).low h.hi h0
 obtain ⟨c1, c2⟩ := lowS_some h0
 refine (tab_take hT hc b2 (by rw [(hs.1 0 (by omega)).pop h.hi]; exact hf) (by rw [b1]; exact c1) (h.zb (by omega))).mono ?_
 rintro e w' ⟨rfl, O⟩
 rw [b1] at O ⊢
 have hp : ((2 : Int) ^ i) = ((t.x 1 ||| 2 ^ i : Nat) : Int) := by rw [hz, Nat.zero_or]; simp
 rw [hp] at O
 exact ⟨rfl, TabG.moved h hs (by omega) (by omega) (by omega) c1 c2 O⟩
theorem TabG.seal (hS : SealAt w) (h : TabG w col q B n r st) {i : Nat} (hi : i < n) (hst : st i = 1 ∨ st i = 4) :
 Calls Tryz.prog 109 #[.pointer (some ⟨B, 0, none⟩), .int .i64 ((i : Nat) : Int)] w fun e w' => e = .returned (.int .i64 0) ∧ TabG w' col q B n r (setSt st i 2) ∧ Upd (fun b => (col b).1 = q) w w' := by
 obtain ⟨t, Z, h, rfl, rfl, hs⟩ := h
 obtain ⟨a0, a1, a2, a3, a4⟩ := hs.bits hi
 rcases hst with e | e <;> rw [e] at a0 a1 a2 a3 a4
 ·refine (tab_Seal1 h.cells hS i hi a0 a1 a2 a3 a4 (h.zb (by omega))).mono ?_
  rintro e w' ⟨rfl, O⟩
  exact ⟨rfl, TabG.moved h hs (by omega) (by omega) (by omega) hi e O⟩
 ·refine (tab_Seal4 h.cells hS i hi a0 a1 a2 a3 a4 (h.zb (by omega))).mono ?_
  rintro e w' ⟨rfl, O⟩
  exact ⟨rfl, TabG.moved h hs (by omega) (by omega) (by omega) hi e O⟩
end
end Go.M
namespace Go.M
open Go.Proofs Go.RowKit
def stU (used : Nat) (act : Bool) (i : Nat) : Nat := if used ≤ i then 0 else if act = true ∧ i = used - 1 then 1 else 2
theorem stU_low : ∀ n, n < 10 → ∀ u, u ≤ n → lowS (stU u false) n 1 = none ∧ (0 < u → lowS (stU u true) n 1 = some (u - 1)) ∧ (u < n → lowS (stU u false) n 0 = some u) ∧ cntS (stU u false) n 0 = n - u ∧ cntS (stU u true) n 0 = n - u := by decide +kernel
theorem stU_take (u : Nat) : setSt (stU u false) u 1 = stU (u + 1) true := by
 funext k
 unfold setSt stU
 by_cases h : k = u
 ·subst h; simp
 ·rw [if_neg h]
  by_cases h2 : u ≤ k
  ·rw [if_pos h2, if_pos (by omega)]
  ·rw [if_neg h2, if_neg (by simp), if_neg (by omega), if_neg (by omega)]
theorem stU_seal {u : Nat} (hu : 0 < u) : setSt (stU u true) (u - 1) 2 = stU u false := by
 funext k
 unfold setSt stU
 by_cases h : k = u - 1
 ·rw [if_pos h, if_neg (by omega), if_neg (by simp)]
 ·rw [if_neg h]
  by_cases h2 : u ≤ k
  ·rw [if_pos h2, if_pos h2]
  ·rw [if_neg h2, if_neg h2, if_neg (by omega), if_neg (by simp)]
def TabU (w : World) (col : Col) (q B n r used : Nat) (act : Bool) : Prop := TabG w col q B n r (stU used act) ∧ n < 10 ∧ used ≤ n
variable {w w' : World} {col : Col} {q B n r used : Nat} {act : Bool}
theorem TabU.other {col' : Col} (h : TabU w col q B n r used act) {F : Nat → Prop} (U : Upd F w w') (hF : ∀ b, F b → (col b).1 ≠ q) (hc : Kept w col col') : TabU w' col' q B n r used act := ⟨h.1.other U hF hc, h.2⟩
theorem TabU.only (hT : DbAt w) (h : TabU w col q B n r used true) (hu : 0 < used) :
 Calls Tryz.prog 10 #[.pointer (some ⟨B, 0, none⟩), .int .i64 1] w fun e w' => e = .returned (.tuple #[.int .i64 ((used - 1 : Nat) : Int), .bool true]) ∧ w = w' :=
 h.1.active hT ((stU_low n h.2.1 used h.2.2).2.1 hu)
theorem TabU.idle (h : TabU w col q B n r used false) :
 Calls Tryz.prog 10 #[.pointer (some ⟨B, 0, none⟩), .int .i64 1] w fun e w' => e = .returned (.tuple #[.int .i64 0, .bool false]) ∧ w = w' :=
 h.1.idle (stU_low n h.2.1 used h.2.2).1
theorem TabU.free (h : TabU w col q B n r used act) :
 Calls Tryz.prog 27 #[.pointer (some ⟨B, 0, none⟩)] w fun e w' => e = .returned (.int .i64 ((n - used : Nat) : Int)) ∧ w = w' := by
 have := h.1.free
 obtain ⟨-, -, -, h1, h2⟩ := stU_low n h.2.1 used h.2.2
 cases act
 ·rwa [h1] at this
 ·rwa [h2] at this
theorem TabU.busy (h : TabU w col q B n r used false) (hf : n - used ≤ r) :
 Calls Tryz.prog 105 #[.pointer (some ⟨B, 0, none⟩)] w fun e w' => e = .returned (.tuple #[.int .i64 0, .int .i64 11]) ∧ Old w w' := by
 obtain ⟨h0, -, -, h1, -⟩ := stU_low n h.2.1 used h.2.2
 exact h.1.busy h0 (by rw [h1]; exact hf)
theorem TabU.take (hT : DbAt w) (h : TabU w col q B n r used false) (hu : used < n) (hf : r < n - used) :
 Calls Tryz.prog 105 #[.pointer (some ⟨B, 0, none⟩)] w fun e w' => e = .returned (.tuple #[.int .i64 ((used : Nat) : Int), .int .i64 0]) ∧ TabU w' col q B n r (used + 1) true ∧ Upd (fun b => (col b).1 = q) w w' := by
 obtain ⟨h0, -, h1, h2, -⟩ := stU_low n h.2.1 used h.2.2
 refine (h.1.take hT h0 (by rw [h2]; exact hf) (h1 hu)).mono ?_
 rintro e w' ⟨rfl, ht, U⟩
 rw [stU_take] at ht
 exact ⟨rfl, ⟨ht, h.2.1, hu⟩, U⟩
theorem TabU.sealed (hS : SealAt w) (h : TabU w col q B n r used true) (hu : 0 < used) :
 Calls Tryz.prog 109 #[.pointer (some ⟨B, 0, none⟩), .int .i64 ((used - 1 : Nat) : Int)] w fun e w' => e = .returned (.int .i64 0) ∧ TabU w' col q B n r used false ∧ Upd (fun b => (col b).1 = q) w w' := by
 refine (h.1.seal hS (i := used - 1) (by have := h.2.2; omega) (.inl ?_)).mono ?_
 ·unfold stU
  rw [if_neg (by omega), if_pos ⟨rfl, rfl⟩]
 ·rintro e w' ⟨rfl, ht, U⟩
  rw [stU_seal hu] at ht
  exact ⟨rfl, ⟨ht, h.2⟩, U⟩
theorem TabU.state (h : TabU w col q B n r used act) (ha : act = true → 0 < used) {i : Nat} (hi : i < n) : ∃ st : Nat, ∀ (F : Nat → Prop) (W : World), Upd F w W → (∀ b, F b → (col b).1 ≠ q) →
 Calls Tryz.prog 32 #[.pointer (some ⟨B, 0, none⟩), .int .i64 ((i : Nat) : Int)] W fun e w' => e = .returned (.tuple #[.int .i64 ((st : Nat) : Int), .int .i64 0]) ∧ W = w' :=
 ⟨_, fun F W U hF => (h.1.other U hF (Kept.refl _ _)).state hi⟩
end Go.M
namespace Go.M
open Go.Proofs Go.RowKit
def DevU (w : World) (col : Col) (q D n size : Nat) (lens : Nat → Nat) (du : Nat → Prop) (ops : Nat) : Prop :=
 ∃ s K S cap T M V, DevAt w col q D s K S cap T M V ∧ s.n = n ∧ s.down = false ∧ s.ops = ((ops : Nat) : Int) ∧ ∀ i, i < n → (s.img i).sz = size ∧ (s.img i).bs.length = lens i ∧ (du i → (s.img i).dur = (s.img i).bs.length)
theorem DevU.mono {w : World} {col : Col} {q D n size : Nat} {lens : Nat → Nat} {du du' : Nat → Prop} {ops : Nat} (h : DevU w col q D n size lens du ops) (hd : ∀ i, i < n → du' i → du i) : DevU w col q D n size lens du' ops := by
 obtain ⟨s, K, S, cap, T, M, V, h, h2, h3, h4, h5⟩ := h
 exact ⟨s, K, S, cap, T, M, V, h, h2, h3, h4, fun i hi => ⟨(h5 i hi).1, (h5 i hi).2.1, fun x => (h5 i hi).2.2 (hd i hi x)⟩⟩
theorem DevU.other {w w' : World} {col col' : Col} {q D n size : Nat} {lens : Nat → Nat} {du : Nat → Prop} {ops : Nat} (h : DevU w col q D n size lens du ops) {F : Nat → Prop} (U : Upd F w w') (hF : ∀ b, F b → (col b).1 ≠ q) (hc : Kept w col col') : DevU w' col' q D n size lens du ops := by
 obtain ⟨s, K, S, cap, T, M, V, h, h1⟩ := h
 exact ⟨s, K, S, cap, T, M, V, h.other U hF hc, h1⟩
theorem DevU.len {w : World} {col : Col} {q D n size : Nat} {lens : Nat → Nat} {du : Nat → Prop} {ops : Nat} (h : DevU w col q D n size lens du ops) {i : Nat} (hi : i < n) :
 Calls Tryz.prog 12 #[.pointer (some ⟨D, 0, none⟩), .int .i64 ((i : Nat) : Int)] w fun e w' => e = .returned (.tuple #[.int .i64 ((lens i : Nat) : Int), .int .i64 0]) ∧ Old w w' := by
 obtain ⟨s, K, S, cap, T, M, V, h, rfl, h2, h3, h4⟩ := h
 obtain ⟨va, vc, hv, c⟩ := h.cells i (by omega)
 rw [h2] at c
 have := len_cells c
 rwa [(h4 i hi).2.1] at this
theorem DevU.room {w : World} {col : Col} {q D n size : Nat} {lens : Nat → Nat} {du : Nat → Prop} {ops : Nat} (h : DevU w col q D n size lens du ops) {i : Nat} (hi : i < n) :
 Calls Tryz.prog 104 #[.pointer (some ⟨D, 0, none⟩), .int .i64 ((i : Nat) : Int)] w fun e w' => e = .returned (.tuple #[.int .i64 ((size : Int) - (lens i : Int)), .int .i64 0]) ∧ Old w w' := by
 obtain ⟨s, K, S, cap, T, M, V, h, rfl, h2, h3, h4⟩ := h
 obtain ⟨va, vc, hv, c⟩ := h.cells i (by omega)
 rw [h2] at c
 have := room_cells c
 rwa [(h4 i hi).2.1, (h4 i hi).1] at this
theorem DevU.append {w : World} {col : Col} {q D n size : Nat} {lens : Nat → Nat} {du : Nat → Prop} {ops : Nat} (h : DevU w col q D n size lens du ops) {i : Nat} (hi : i < n) (ho : ops < 1000000) {v : Value} {bs : List UInt8} (hb : BytesAt w v bs) (hl : 0 < bs.length) (hfit : lens i + bs.length ≤ size)
 (hbD : ∀ ad n c, v = .slice (some ad) n c → (col ad.block).1 ≠ q) :
 Calls Tryz.prog 107 #[.pointer (some ⟨D, 0, none⟩), .int .i64 ((i : Nat) : Int), v] w fun e w' => e = .returned (.int .i64 0) ∧
  ∃ col', DevU w' col' q D n size (fun k => if k = i then lens i + bs.length else lens k) (fun k => du k ∧ k ≠ i) (ops + 1) ∧ Upd (fun b => (col b).1 = q) w w' ∧ Kept w col col' := by
 obtain ⟨s, K, S, cap, T, M, V, h, rfl, h2, h3, h4⟩ := h
 rcases hb with ⟨_, h0⟩ | ⟨ad, c, rfl, hb⟩
 ·rw [h0] at hl; simp at hl
 ·refine (dev_append (cb := c) h h2 i (by omega) (by omega) (nb := bs) rfl (fun j u hj => hb j (bcell u) (by rw [List.getElem?_map, hj]; rfl)) hl (by rw [(h4 i hi).1, (h4 i hi).2.1]; exact hfit) (hbD ad _ _ rfl)).mono ?_
  rintro e w' ⟨rfl, v', col', hD, U, hk, _⟩
  refine ⟨rfl, col', ⟨_, K, S, cap, T, M, _, hD, rfl, h2, ?_, fun k hk => ?_⟩, U, hk⟩
  ·simp only [DevS.put]; rw [h3]; simp
  ·by_cases e : k = i
   ·subst e
    simp [DevS.put, (h4 k hi).1, (h4 k hi).2.1]
   ·simp [DevS.put, e, (h4 k hk).1, (h4 k hk).2.1]
    exact fun x => ((h4 k hk).2.2 x).trans (h4 k hk).2.1
theorem DevU.sync {w : World} {col : Col} {q D n size : Nat} {lens : Nat → Nat} {du : Nat → Prop} {ops : Nat} (h : DevU w col q D n size lens du ops) {i : Nat} (hi : i < n) (ho : ops < 1000000) :
 Calls Tryz.prog 108 #[.pointer (some ⟨D, 0, none⟩), .int .i64 ((i : Nat) : Int)] w fun e w' => e = .returned (.int .i64 0) ∧ DevU w' col q D n size lens (fun k => du k ∨ k = i) (ops + 1) ∧ Upd (fun b => (col b).1 = q) w w' := by
 obtain ⟨s, K, S, cap, T, M, V, h, rfl, h2, h3, h4⟩ := h
 refine (dev_sync h h2 i (by omega) (by omega)).mono ?_
 rintro e w' ⟨rfl, hD, U⟩
 refine ⟨rfl, ⟨_, K, S, cap, T, M, _, hD, rfl, h2, ?_, fun k hk => ?_⟩, U.mono (fun b _ hb => ?_)⟩
 ·simp only [DevS.put]; rw [h3]; simp
 ·by_cases e : k = i
  ·subst e
   simp [DevS.put, (h4 k hi).1, (h4 k hi).2.1]
  ·simp [DevS.put, e, (h4 k hk).1, (h4 k hk).2.1]
   exact fun x => ((h4 k hk).2.2 x).trans (h4 k hk).2.1
 ·rcases hb with rfl | rfl
  ·rw [h.cD]
  ·rw [h.cM i (by omega)]
end Go.M
