/- Walks 29. -/
import Derived.Test.YtjadmbkmlehfdaaGreatDoorProg
import Derived.Test.YtjadmbkmlehfdaaGreatDoorK13
import Derived.Test.YtjadmbkmlehfdaaGreatDoorK22
import Derived.Test.YtjadmbkmlehfdaaGreatDoorK5
import Derived.Test.YtjadmbkmlehfdaaGreatDoorK14
set_option linter.unusedVariables false
set_option linter.unusedSimpArgs false
set_option maxRecDepth 100000
namespace Go.M
open Go.Proofs Go.RowKit
def DropAt (w : World) : Prop := w.cell? ⟨0, 0, none⟩ = some (.bool false) ∧ w.cell? ⟨0, 1, none⟩ = some (.bool false) ∧ w.cell? ⟨0, 2, none⟩ = some (.bool true) ∧ w.cell? ⟨0, 3, none⟩ = some (.bool true) ∧ w.cell? ⟨0, 4, none⟩ = some (.bool false) ∧ w.cell? ⟨0, 5, none⟩ = some (.int .i64 0)
section
variable {w : World} {B n r z0 z1 z2 z3 z4 x0 x1 x2 x3 x4 : Nat}
theorem tab_only4 (hT : DbAt w) (h : TabCells w B n r z0 z1 z2 z3 z4 x0 x1 x2 x3 x4) (hx : 0 < x4) :
 Calls Tryz.prog 10 #[.pointer (some ⟨B, 0, none⟩), .int .i64 4] w fun e w' => e = .returned (.tuple #[.int .i64 ((low x4 : Nat) : Int), .bool true]) ∧ w = w' := by
 have HT := Lib.hid hT
 clear hT
 obtain ⟨b0, b1, b2, b3, b4, b5, b6, n0, n1, n2, n3, n4, y0, y1, y2, y3, y4, f0, f1, f2, f3, f4, hB, p0, p1, p2, l0, l1, l2, l3, l4, e01, e02, e03, e04, e12, e13, e14, e23, e24, e34⟩ := h
 go_enter Tryz.func10, Tryz.ntmps10
 go_wp2_with (first | (go_at_call 51; refine (set_low HT.out (by exact n4) (by exact y4) p0 p1 l4 hx).mono ?_; rintro e w1 ⟨rfl, rfl⟩) | go_in)
 go_ret2
 exact ⟨rfl, rfl⟩
theorem tab_no4 (h : TabCells w B n r z0 z1 z2 z3 z4 x0 x1 x2 x3 0) :
 Calls Tryz.prog 10 #[.pointer (some ⟨B, 0, none⟩), .int .i64 4] w fun e w' => e = .returned (.tuple #[.int .i64 0, .bool false]) ∧ w = w' := by
 obtain ⟨b0, b1, b2, b3, b4, b5, b6, n0, n1, n2, n3, n4, y0, y1, y2, y3, y4, f0, f1, f2, f3, f4, hB, p0, p1, p2, l0, l1, l2, l3, l4, e01, e02, e03, e04, e12, e13, e14, e23, e24, e34⟩ := h
 go_enter Tryz.func10, Tryz.ntmps10
 go_wp2_with (first | (go_at_call 51; refine (set_none (by exact n4) (by exact y4) p0 p1).mono ?_; rintro e w1 ⟨rfl, rfl⟩) | go_in)
 go_ret2
 exact ⟨rfl, rfl⟩
theorem tab_chg2 (h : TabCells w B n r z0 z1 z2 z3 z4 x0 x1 x2 x3 x4) (i : Nat) (hi : i < n) (g0 : x0.testBit i = (2 == 0)) (g1 : x1.testBit i = (2 == 1)) (g2 : x2.testBit i = (2 == 2)) (g3 : x3.testBit i = (2 == 3)) (g4 : x4.testBit i = (2 == 4)) (nb : z2 ≠ B) :
 Calls Tryz.prog 126 #[.pointer (some ⟨B, 0, none⟩), .int .i64 ((i : Nat) : Int), .agg #[.bool false, .bool false, .bool true, .bool true, .bool false, .int .i64 0]] w fun e w' => e = .returned (.int .i64 0) ∧
  Old ((w.setCell ⟨z2, 1, none⟩ (.int .u64 ((clr x2 i : Nat) : Int))).setCell ⟨z0, 1, none⟩ (.int .u64 ((x0 ||| 2 ^ i : Nat) : Int))) w' := by
 have HS := Lib.hid (fun (W : World) (U : Old w W) => tab_stateE (h.old U) i 2 hi (by omega) g0 g1 g2 g3 g4)
 clear g0 g1 g2 g3 g4
 obtain ⟨b0, b1, b2, b3, b4, b5, b6, n0, n1, n2, n3, n4, y0, y1, y2, y3, y4, f0, f1, f2, f3, f4, hB, p0, p1, p2, l0, l1, l2, l3, l4, e01, e02, e03, e04, e12, e13, e14, e23, e24, e34⟩ := h
 have hz1 := block_lt_of_cell n2
 have hz2 := block_lt_of_cell n0
 simp only at hz1 hz2
 have nb' := Ne.symm nb
 go_enter Tryz.func126, Tryz.ntmps126
 go_wp2_with (first | (go_at_call 32; refine (HS.out _ ((Upd.refl _ w).alloc _)).mono ?_; rintro e w1 ⟨rfl, rfl⟩) | (go_at_call 209; refine (tab_move (B := B) (f := 2) (g := 0) (zf := z2) (zt := z0) (n := n) (xf := x2) (xt := x0) (i := i) (by go_simp) (by go_simp) (by go_simp) (by go_simp) (by go_simp) (by go_simp) (by intro j; go_simp) (by intro j; go_simp) (Ne.symm e02) nb (by omega) (by omega) p0 p1 hi l2 l0).mono ?_; rintro e w1 ⟨rfl, rfl⟩) | go_in)
 go_ret
 exact ⟨rfl, (((Upd.refl _ _).alloc _).drew).drew⟩
theorem tab_Drop2 (h : TabCells w B n r z0 z1 z2 z3 z4 x0 x1 x2 x3 x4) (hS : DropAt w) (i : Nat) (hi : i < n) (g0 : x0.testBit i = (2 == 0)) (g1 : x1.testBit i = (2 == 1)) (g2 : x2.testBit i = (2 == 2)) (g3 : x3.testBit i = (2 == 3)) (g4 : x4.testBit i = (2 == 4)) (nb : z2 ≠ B) :
 Calls Tryz.prog 61 #[.pointer (some ⟨B, 0, none⟩), .int .i64 ((i : Nat) : Int)] w fun e w' => e = .returned (.int .i64 0) ∧
  Old ((w.setCell ⟨z2, 1, none⟩ (.int .u64 ((clr x2 i : Nat) : Int))).setCell ⟨z0, 1, none⟩ (.int .u64 ((x0 ||| 2 ^ i : Nat) : Int))) w' := by
 have HC := Lib.hid (tab_chg2 h i hi g0 g1 g2 g3 g4 nb)
 obtain ⟨s0, s1, s2, s3, s4, s5⟩ := hS
 clear h g0 g1 g2 g3 g4
 go_enter Tryz.func61, Tryz.ntmps61
 go_wp2_with (first | (refine wpList_load_part rfl 192 (.global 0) rfl ⟨0, 0, none⟩ rfl [.bool false, .bool false, .bool true, .bool true, .bool false, .int .i64 0] ?c1 _ Tryz.underlying192 rfl (by kernel_rfl) ?_) | (go_at_call 126; refine HC.out.mono ?_; rintro e w1 ⟨rfl, hO⟩))
 case c1 =>
  intro j v hj
  match j with
  | 0 => cases hj; exact s0
  | 1 => cases hj; exact s1
  | 2 => cases hj; exact s2
  | 3 => cases hj; exact s3
  | 4 => cases hj; exact s4
  | 5 => cases hj; exact s5
  | j + 6 => simp at hj
 go_ret
 exact ⟨rfl, hO⟩
theorem tab_out (hT : DbAt w) (h : TabCells w B n r z0 z1 z2 z3 z4 x0 x1 x2 x3 0) (hx : 0 < x0) (hf : 0 < pop x0) (hl : low x0 < n) (nb : z0 ≠ B) :
 Calls Tryz.prog 147 #[.pointer (some ⟨B, 0, none⟩)] w fun e w' => e = .returned (.tuple #[.int .i64 ((low x0 : Nat) : Int), .int .i64 0]) ∧
  Old ((w.setCell ⟨z0, 1, none⟩ (.int .u64 ((clr x0 (low x0) : Nat) : Int))).setCell ⟨z4, 1, none⟩ (.int .u64 ((2 : Int) ^ low x0))) w' := by
 have HT := Lib.hid hT
 clear hT
 have hp : pop x0 ≤ 10 := by
  have : ∀ x, x < 1024 → pop x ≤ 10 := by decide +kernel
  exact this x0 h.l0
 have hp0 : ((pop x0 : Nat) : Int) ≠ 0 := by omega
 have hlow : low x0 < 10 := by have := h.p1; omega
 have hpz : pop 0 = 0 := by decide
 have HH := Lib.hid h
 obtain ⟨b0, b1, b2, b3, b4, b5, b6, n0, n1, n2, n3, n4, y0, y1, y2, y3, y4, f0, f1, f2, f3, f4, hB, p0, p1, p2, l0, l1, l2, l3, l4, e01, e02, e03, e04, e12, e13, e14, e23, e24, e34⟩ := h
 go_enter Tryz.func147, Tryz.ntmps147
 go_wp2_with (first | (go_at_call 78; (with_reducible refine (set_len (B := z4) (n := n) (x := 0) ?_ ?_ p0 (by omega)).mono ?_); exact n4; exact y4; rintro e w1 ⟨rfl, rfl⟩) | (go_at_call 27; refine (tab_free (HH.out)).mono ?_; rintro e w1 ⟨rfl, rfl⟩) | (go_at_call 51; refine (set_low HT.out (by exact n0) (by exact y0) p0 p1 l0 hx).mono ?_; rintro e w1 ⟨rfl, rfl⟩) | (go_at_call 209; refine (tab_move (B := B) (f := 0) (g := 4) (zf := z0) (zt := z4) (n := n) (xf := x0) (xt := 0) (i := low x0) (by exact b2) (by exact b6) (by exact n0) (by exact n4) (by exact y0) (by exact y4) (by exact f0) (by exact f4) e04 nb (by omega) (by omega) p0 p1 hl l0 (by omega)).mono ?_; rintro e w1 ⟨rfl, rfl⟩) | go_in)
 go_ret2
 exact ⟨rfl, ((Upd.refl _ _).drew).drew⟩
end
section
variable {w w' : World} {col : Col} {q B n r : Nat} {st : Nat → Nat}
theorem TabG.output (hT : DbAt w) (h : TabG w col q B n r st) {i : Nat} (hl : lowS st n 4 = some i) :
 Calls Tryz.prog 10 #[.pointer (some ⟨B, 0, none⟩), .int .i64 4] w fun e w' => e = .returned (.tuple #[.int .i64 ((i : Nat) : Int), .bool true]) ∧ w = w' := by
 obtain ⟨t, Z, h, rfl, rfl, hs⟩ := h
 obtain ⟨b1, b2⟩ := (hs.1 4 (by omega)).low h.hi hl
 rw [← b1]
 exact tab_only4 hT h.cells b2
theorem TabG.noout (h : TabG w col q B n r st) (hl : lowS st n 4 = none) :
 Calls Tryz.prog 10 #[.pointer (some ⟨B, 0, none⟩), .int .i64 4] w fun e w' => e = .returned (.tuple #[.int .i64 0, .bool false]) ∧ w = w' := by
 obtain ⟨t, Z, h, rfl, rfl, hs⟩ := h
 have hc := h.cells
 rw [(hs.1 4 (by omega)).zero hl] at hc
 exact tab_no4 hc
theorem TabG.takeOut (hT : DbAt w) (h : TabG w col q B n r st) (hl : lowS st n 4 = none) {i : Nat} (h0 : lowS st n 0 = some i) :
 Calls Tryz.prog 147 #[.pointer (some ⟨B, 0, none⟩)] w fun e w' => e = .returned (.tuple #[.int .i64 ((i : Nat) : Int), .int .i64 0]) ∧ TabG w' col q B n r (setSt st i 4) ∧ Upd (fun b => (col b).1 = q) w w' := by
 obtain ⟨t, Z, h, rfl, rfl, hs⟩ := h
 have hc := h.cells
 have hz := (hs.1 4 (by omega)).zero hl
 rw [hz] at hc
 obtain ⟨b1, b2⟩ := (hs.1 0 (by omega)).low h.hi h0
 obtain ⟨c1, c2⟩ := lowS_some h0
 refine (tab_out hT hc b2 (by rw [(hs.1 0 (by omega)).pop h.hi]; exact cntS_pos h0) (by rw [b1]; exact c1) (h.zb (by omega))).mono ?_
 rintro e w' ⟨rfl, O⟩
 rw [b1] at O ⊢
 have e4 : ((2 : Int) ^ i) = ((t.x 4 ||| 2 ^ i : Nat) : Int) := by rw [hz, Nat.zero_or]; simp
 rw [e4] at O
 exact ⟨rfl, TabG.moved h hs (by omega) (by omega) (by omega) c1 c2 O⟩
theorem TabG.drop (h : TabG w col q B n r st) (hS : DropAt w) {i : Nat} (hi : i < n) (h2 : st i = 2) :
 Calls Tryz.prog 61 #[.pointer (some ⟨B, 0, none⟩), .int .i64 ((i : Nat) : Int)] w fun e w' => e = .returned (.int .i64 0) ∧ TabG w' col q B n r (setSt st i 0) ∧ Upd (fun b => (col b).1 = q) w w' := by
 obtain ⟨t, Z, h, rfl, rfl, hs⟩ := h
 obtain ⟨a0, a1, a2, a3, a4⟩ := hs.bits hi
 rw [h2] at a0 a1 a2 a3 a4
 refine (tab_Drop2 h.cells hS i hi a0 a1 a2 a3 a4 (h.zb (by omega))).mono ?_
 rintro e w' ⟨rfl, O⟩
 exact ⟨rfl, TabG.moved h hs (by omega) (by omega) (by omega) hi h2 O⟩
theorem TabG.tsl (h : TabG w col q B n r st) : TSl w (.pointer (some ⟨B, 0, none⟩)) n := by
 obtain ⟨t, Z, h, rfl, -, -⟩ := h
 have c := h.cells
 exact .inr ⟨B, _, rfl, c.b0, c.b1⟩
end
end Go.M
namespace Go.M
open Go.Proofs Go.RowKit
set_option linter.unusedSimpArgs false
theorem run_append_room_k {P : Program} (w : World) (t ty e : TypeId) (i : TypeInfo) (ht : P.underlying t = some (.slice e)) (hi : P.info? e = some i) (g off sLen sCap : Nat) (a : Addr) (m c : Nat) (cs : List Value) (cur : Array Value) (tg : TypeId)
 (hg : w.heap[g]? = some (.cells cur tg (0, 0))) (hl : cs.length = m * i.size) (hsrc : ∀ j v, cs[j]? = some v → w.cell? (a.add j) = some v) (hfit : off + sLen * i.size + cs.length ≤ cur.size) (h1 : ∀ v ∈ cs, v.oneCell' = true) (hroom : sLen + m ≤ sCap) :
 (Builtin.append_ #[t, t] ty #[.slice (some ⟨g, off, none⟩) sLen sCap, .slice (some a) m c]).run P w =
   .ok (.slice (some ⟨g, off, none⟩) (sLen + m) sCap) (w.setRow g (cur.toList.take (off + sLen * i.size) ++ cs ++ cur.toList.drop (off + sLen * i.size + cs.length)).toArray) := by
 have hfc := run_firstCells_some (P := P) w i.size m a m c cs hl hsrc
 have hst := run_storeCells_at P g (off + sLen * i.size) tg cs 0 cur w hg (by simpa using hfit) h1
 simp only [Nat.add_zero] at hst
 simp [Builtin.append_, run_underlying ht, sizeOf, typeInfo, hi, Builtin.lenOf, hroom, hfc, Addr.add_lit, hst]
theorem set_row_upd {w : World} {g off : Nat} {cur : List Value} {t : TypeId} {cs : List Value} (hg : Has w g t cur.toArray) :
 Has (w.setRow g (cur.toArray.toList.take off ++ cs ++ cur.toArray.toList.drop (off + cs.length)).toArray) g t (splice cur off cs).toArray ∧ Upd (fun b => b = g) w (w.setRow g (cur.toArray.toList.take off ++ cs ++ cur.toArray.toList.drop (off + cs.length)).toArray) := by
 constructor
 ·have := setRow_heap w g cur.toArray (cur.toArray.toList.take off ++ cs ++ cur.toArray.toList.drop (off + cs.length)).toArray t (0, 0) hg
  unfold Has
  rw [this]
  simp [splice]
 ·exact ⟨by simp, fun k _ hk => setRow_other w g k _ (fun e => hk e), rfl, rfl, rfl⟩
theorem wpList_append_room_k {P : Program} {w : World} {ops : Array Oper} {rest : List Oper} {o : Oper} {a : Act} {Q : Exit → Act → World → Prop} (hgd : o.guard = none) (s x : Operand) (t : TypeId)
 (ho : o.op = .call { callee := .builtin .append, args := #[s, x], argTypes := #[t, t] }) (e : TypeId) (i : TypeInfo) (size : Nat) (ht : P.underlying t = some (.slice e)) (hi : P.info? e = some i) (hsz : i.size = size)
 (g off sLen sCap : Nat) (ad : Addr) (m c : Nat) (hs : a.eval s = .slice (some ⟨g, off, none⟩) sLen sCap) (hx : a.eval x = .slice (some ad) m c)
 (cur : List Value) (tg : TypeId) (hg : Has w g tg cur.toArray) (cs : List Value) (hl : cs.length = m * size)
 (hsrc : ∀ j v, cs[j]? = some v → w.cell? (ad.add j) = some v) (hfit : off + sLen * size + cs.length ≤ cur.length) (h1 : ∀ v ∈ cs, v.oneCell' = true) (hroom : sLen + m ≤ sCap)
 (h : ∀ w', Hid (Has w' g tg (splice cur (off + sLen * size) cs).toArray) → Hid (Upd (fun b => b = g) w w') → wpList P ops Q rest (a.put o.dst (.slice (some ⟨g, off, none⟩) (sLen + m) sCap)) w') : wpList P ops Q (o :: rest) a w := by
 subst hsz
 refine wpList_plain hgd fun K hK => ?_
 have hrun := run_append_room_k (P := P) w t o.type e i ht hi g off sLen sCap ad m c cs cur.toArray tg hg hl hsrc (by simpa using hfit) h1 hroom
 obtain ⟨k1, k2⟩ := set_row_upd (off := off + sLen * i.size) (cs := cs) hg
 have h2 := h _ k1 k2
 unfold Oper.wp
 simp only [execOp, ho, resolve, invoke, builtin, Sem.run_bind, Sem.run_pure, Result.andThen_ok, List.map_toArray, List.map_cons, List.map_nil, hs, hx, hrun]
 exact hK _ _ h2
theorem run_clear_k {P : Program} (w : World) (t ty e : TypeId) (z : Value) (ht : P.underlying t = some (.slice e)) (hv : ∀ w, (zeroValue e).run P w = .ok z w) (g off n c : Nat) (hn : 0 < n) (cs : List Value) (hcs : (Builtin.zeroCells z.cells n).toList = cs) (cur : Array Value) (tg : TypeId)
 (hg : w.heap[g]? = some (.cells cur tg (0, 0))) (hfit : off + cs.length ≤ cur.size) (h1 : ∀ v ∈ cs, v.oneCell' = true) :
 (Builtin.clear_ #[t] ty #[.slice (some ⟨g, off, none⟩) n c]).run P w = .ok (.tuple #[]) (w.setRow g (cur.toList.take off ++ cs ++ cur.toList.drop (off + cs.length)).toArray) := by
 have hst := run_storeCells_at P g off tg cs 0 cur w hg (by simpa using hfit) h1
 simp only [Nat.add_zero] at hst
 obtain ⟨k, rfl⟩ : ∃ k, n = k + 1 := ⟨n - 1, by omega⟩
 simp [Builtin.clear_, run_underlying ht, hv, hcs, hst]
theorem zero_item : ∀ w, (zeroValue 233).run Tryz.prog w = .ok (.agg #[.string ⟨#[]⟩, .slice none 0 0]) w := Tryz.zeroValue233
theorem zero_item1 : (Builtin.zeroCells (Value.agg #[.string ⟨#[]⟩, .slice none 0 0]).cells 1).toList = [.string ⟨#[]⟩, .slice none 0 0] := by kernel_rfl
set_option maxHeartbeats 1000000 in
theorem delI {w : World} {g m i cap : Nat} {xs : List Value} (own : w.ownsRow 0 233 2 (.slice (some ⟨g, 0, none⟩) (m + 1) cap) (m + 1) xs) (hx1 : ∀ u ∈ xs, u.oneCell' = true) (hn : m ≤ 1000) (hi : i ≤ m) :
 Calls Tryz.prog 172 #[.slice (some ⟨g, 0, none⟩) (m + 1) cap, .int .i64 ((i : Nat) : Int), .int .i64 ((i : Int) + 1)] w fun e w' =>
  e = .returned (.slice (some ⟨g, 0, none⟩) m cap) ∧ w'.ownsRow 0 233 2 (.slice (some ⟨g, 0, none⟩) m cap) m (xs.take (i * 2) ++ xs.drop ((i + 1) * 2)) ∧ Upd (fun b => b = g) w w' := by
 have hxl := own.1
 obtain ⟨cur, HG, hnc, hcm, HCS, HX⟩ : ∃ cur : Array Value, Hid (Has w g 233 cur) ∧ m + 1 ≤ cap ∧ cap ≤ maxLen ∧ Hid (cur.size = cap * 2) ∧ Hid (cur.toList.take ((m + 1) * 2) = xs) := by
  rcases own.2 with ⟨h1, h2⟩ | ⟨g', cap', cur, h1, hb, hg, hnc, hcm, hcs, htk⟩
  ·cases h1
  ·injection h1 with h1 _ h3
   injection h1 with h1
   injection h1 with h1
   subst h1 h3
   exact ⟨cur, hg, hnc, hcm, hcs, htk⟩
 clear own
 unfold maxLen at hcm
 obtain ⟨i0, hi0, hz0, hz1, hz2⟩ := info_parts info_item
 have e1 : ¬ i = i + 1 := by omega
 have e2 : ((i : Int) == (i : Int) + 1) = false := by rw [beq_eq_false_iff_ne]; omega
 have g2 : (0 : Int) ≤ (i : Int) + 1 := by omega
 have g3 : ((i : Int) + 1).toNat = i + 1 := by omega
 have g4 : (i : Int) + 1 ≤ (m : Int) + 1 := by omega
 have g5 : (i : Int) ≤ (i : Int) + 1 := by omega
 have g6 : i + 1 ≤ m + 1 := by omega
 have g7 : i ≤ cap := by omega
 have g8 : i + 1 ≤ cap := by omega
 have g9 : (m : Int) ≤ (m : Int) + 1 := by omega
 have g10 : ((m : Int) + 1).toNat = m + 1 := by omega
 have g11 : ¬ cap = m := by omega
 have g12 : ¬ m = cap := by omega
 have g13 : ¬ cap ≤ m := by omega
 have hcell : ∀ j u, xs[j]? = some u → w.cell? ⟨g, j, none⟩ = some u := by
  intro j u hj
  rw [HG.out.cell j]
  have hlt : j < (m + 1) * 2 := by rw [← hxl]; exact (List.getElem?_eq_some_iff.1 hj).1
  rw [← HX.out, List.getElem?_take_of_lt hlt] at hj
  simpa using hj
 obtain ⟨AD, hAD, hsrc⟩ : ∃ AD : Addr, (if cap = i + 1 then some (⟨g, 0, none⟩ : Addr) else some ⟨g, (i + 1) * 2, none⟩) = some AD ∧ Hid (∀ j u, (xs.drop ((i + 1) * 2))[j]? = some u → w.drew.cell? (AD.add j) = some u) := by
  by_cases h : cap = i + 1
  ·refine ⟨_, if_pos h, fun j u hj => ?_⟩
   rw [List.getElem?_drop] at hj
   have := (List.getElem?_eq_some_iff.1 hj).1
   omega
  ·refine ⟨_, if_neg h, fun j u hj => ?_⟩
   rw [List.getElem?_drop] at hj
   have h0 := hcell _ _ hj
   rw [show (⟨g, (i + 1) * 2, none⟩ : Addr).add j = ⟨g, (i + 1) * 2 + j, none⟩ from by unfold Addr.add; split <;> simp_all]
   exact h0
 clear hcell
 go_enter Tryz.func172, Tryz.ntmps172
 go_wp2_with fail
 go_still_tail 6, (by kernel_rfl)
 change wpList _ _ _ _ _ w.drew
 refine wpList_append_room_k rfl (.tmp 22) (.tmp 25) 225 rfl 233 i0 2 Tryz.underlying225 hi0 hz1 g 0 i cap AD (m - i) (cap - (i + 1)) rfl (by simp [Act.eval, hAD]) cur.toList 233 (by simpa using HG.out.drew) (xs.drop ((i + 1) * 2)) (by simp [hxl]; omega) hsrc.out (by simp [hxl, HCS.out]; omega) (fun v hv => hx1 v (List.mem_of_mem_drop hv)) (by omega) ?_
 rw [show i + (m - i) = m by omega]
 intro w2 hg2 hU2
 have hl1 : (splice cur.toList (0 + i * 2) (xs.drop ((i + 1) * 2))).length = cap * 2 := by rw [length_splice _ _ _ (by simp [hxl, HCS.out]; omega)]; simp [HCS.out]
 have HL := Lib.hid hl1
 clear hl1
 have hcl := fun ty => run_clear_k (P := Tryz.prog) w2 225 ty 233 (.agg #[.string ⟨#[]⟩, .slice none 0 0]) Tryz.underlying225 zero_item g (m * 2) 1 (cap - m) (by decide) [.string ⟨#[]⟩, .slice none 0 0] zero_item1 _ 233 hg2.out (by rw [List.size_toArray, HL.out]; simp; omega) (by simp [Value.oneCell'])
 obtain ⟨k1, k2⟩ := set_row_upd (off := m * 2) (cs := [.string ⟨#[]⟩, .slice none 0 0]) hg2.out
 generalize w2.setRow g _ = w3 at hcl k1 k2
 have hg3 := Lib.hid k1
 have hU3 := Lib.hid k2
 clear k1 k2
 go_wp2
 go_ret
 have hUd : Upd (fun b => b = g) w w3 := (((Upd.refl _ w).drew).trans hU2.out).trans hU3.out
 have hdl : (xs.drop ((i + 1) * 2)).length = (m - i) * 2 := by rw [List.length_drop, hxl]; omega
 refine ⟨rfl, ⟨?_, .inr ⟨g, cap, _, rfl, Nat.zero_le _, hg3.out, by omega, hcm, ?_, ?_⟩⟩, hUd⟩
 ·rw [List.length_append, hdl, List.length_take, hxl]
  omega
 ·rw [List.size_toArray, length_splice _ _ _ (by rw [HL.out]; simp; omega), HL.out]
 ·have hA : cur.toList.take (i * 2) = xs.take (i * 2) := by rw [← HX.out, List.take_take, Nat.min_eq_left (by omega)]
  have h2 : (splice cur.toList (0 + i * 2) (xs.drop ((i + 1) * 2))).take (m * 2) = xs.take (i * 2) ++ xs.drop ((i + 1) * 2) := by
   unfold splice
   rw [Nat.zero_add, hA]
   have hl : (xs.take (i * 2) ++ xs.drop ((i + 1) * 2)).length = m * 2 := by rw [List.length_append, hdl, List.length_take, hxl]; omega
   rw [← List.append_assoc, List.take_append_of_le_length (by rw [hl]; exact Nat.le_refl _), List.take_of_length_le (by rw [hl]; exact Nat.le_refl _)]
  rw [← h2]
  generalize splice cur.toList (0 + i * 2) (xs.drop ((i + 1) * 2)) = L at HL ⊢
  have hL : m * 2 ≤ L.length := by rw [HL.out]; omega
  unfold splice
  rw [List.take_append_of_le_length (by rw [List.length_take]; omega), List.take_take, Nat.min_self]
def delAt {α : Type} (r : Nat) (f : Nat → α) : Nat → α := fun i => if i < r then f i else f (i + 1)
theorem itemsOf_del {n r : Nat} {key : Nat → ByteArray} {val : Nat → Value} (hr : r ≤ n) : (itemsOf (n + 1) key val).take (r * 2) ++ (itemsOf (n + 1) key val).drop ((r + 1) * 2) = itemsOf n (delAt r key) (delAt r val) := by
 have hl := itemsOf_length (n + 1) key val
 have hl2 := itemsOf_length n (delAt r key) (delAt r val)
 apply List.ext_getElem?
 intro j
 by_cases hj : j < n * 2
 ·obtain ⟨i, hi⟩ : ∃ i, j = i * 2 ∨ j = i * 2 + 1 := ⟨j / 2, by omega⟩
  have hin : i < n := by omega
  obtain ⟨a1, a2⟩ := itemsOf_cell (key := delAt r key) (val := delAt r val) hin
  by_cases hir : i < r
  ·obtain ⟨b1, b2⟩ := itemsOf_cell (key := key) (val := val) (n := n + 1) (i := i) (by omega)
   rw [List.getElem?_append_left (by rw [List.length_take]; omega), List.getElem?_take_of_lt (by omega)]
   rcases hi with rfl | rfl
   ·rw [a1, b1, delAt, if_pos hir]
   ·rw [a2, b2, delAt, if_pos hir]
  ·obtain ⟨b1, b2⟩ := itemsOf_cell (key := key) (val := val) (n := n + 1) (i := i + 1) (by omega)
   rw [List.getElem?_append_right (by rw [List.length_take]; omega), List.length_take, Nat.min_eq_left (by omega), List.getElem?_drop]
   rcases hi with rfl | rfl
   ·rw [a1, show (r + 1) * 2 + (i * 2 - r * 2) = (i + 1) * 2 by omega, b1, delAt, if_neg hir]
   ·rw [a2, show (r + 1) * 2 + (i * 2 + 1 - r * 2) = (i + 1) * 2 + 1 by omega, b2, delAt, if_neg hir]
 ·rw [List.getElem?_eq_none (by rw [List.length_append, List.length_take, List.length_drop]; omega), List.getElem?_eq_none (by omega)]
theorem odel {w : World} {O m r : Nat} {mv : Value} {key : Nat → ByteArray} {val : Nat → Value} (h : OMap w O mv (m + 1) key val) (hag : mv.ownBlock ≠ some O) (hr : r ≤ m) (hlt : ∀ i, i < r → keyLt (key i) (key r) = true) (hv : ∀ i, i < m + 1 → (val i).oneCell' = true) :
 Calls Tryz.prog 93 #[.pointer (some ⟨O, 0, none⟩), .string (key r)] w fun e w' => (∃ v, e = .returned v) ∧ ∃ mv', OMap w' O mv' m (delAt r key) (delAt r val) ∧ Upd (fun b => b = O ∨ mv.ownBlock = some b) w w' ∧ ∀ b, mv'.ownBlock = some b → mv.ownBlock = some b := by
 have hb : ∀ i, r ≤ i → i < m + 1 → keyLt (key i) (key r) = false := fun i hi hi2 => by
  cases hq : keyLt (key i) (key r) with
  | false => rfl
  | true =>
   have := h.sorted (key r) r i hi hi2 hq
   rw [keyLt_irrefl] at this
   cases this
 have uniq : ∀ r', r' ≤ m + 1 → (∀ i, i < r' → keyLt (key i) (key r) = true) → (∀ i, r' ≤ i → i < m + 1 → keyLt (key i) (key r) = false) → r' = r := fun r' h1 h2 h3 => by
  rcases Nat.lt_trichotomy r' r with h4 | h4 | h4
  ·have := hlt r' h4
   rw [h3 r' (Nat.le_refl _) (by omega)] at this
   cases this
  ·exact h4
  ·have := h2 r h4
   rw [hb r (Nat.le_refl _) (by omega)] at this
   cases this
 obtain ⟨t, hO⟩ := h.made
 rcases h.at with ⟨_, h2, _⟩ | ⟨B, c, rfl, hM⟩
 ·omega
 have hBO : B ≠ O := fun e => hag (by rw [e]; rfl)
 have HG : Hid (∀ W, Old w W → Calls Tryz.prog 90 #[.pointer (some ⟨O, 0, none⟩), .string (key r)] W fun e w' => e = .returned (.tuple #[val r, .bool true]) ∧ Old W w') := fun W U => by
  refine (oget (k := key r) (hM.old U)).mono ?_
  rintro e w' ⟨r', h1, h2, h3, hU, ⟨h4, h5, rfl⟩ | ⟨h4, rfl⟩⟩
  ·rw [uniq r' h1 h2 h3]; exact ⟨rfl, hU⟩
  ·have := uniq r' h1 h2 h3
   subst this
   exact absurd ⟨by omega, rfl⟩ h4
 have HR : Hid (∀ W, Old w W → Calls Tryz.prog 171 #[.pointer (some ⟨O, 0, none⟩), .string (key r)] W fun e w' => e = .returned (.int .i64 ((r : Nat) : Int)) ∧ Old W w') := fun W U => by
  refine (orank (k := key r) (hM.old U)).mono ?_
  rintro e w' ⟨r', h1, rfl, h2, h3, hU⟩
  rw [uniq r' h1 h2 h3]; exact ⟨rfl, hU⟩
 have HD : Hid (∀ W, Old w W → Calls Tryz.prog 172 #[.slice (some ⟨B, 0, none⟩) (m + 1) c, .int .i64 ((r : Nat) : Int), .int .i64 ((r : Int) + 1)] W fun e w' =>
  e = .returned (.slice (some ⟨B, 0, none⟩) m c) ∧ w'.ownsRow 0 233 2 (.slice (some ⟨B, 0, none⟩) m c) m (itemsOf m (delAt r key) (delAt r val)) ∧ Upd (fun b => b = B) W w') := fun W U => by
  have := delI (i := r) (Upd.own U h.own (fun _ _ x => x)) (items_one hv) (by have := h.few; omega) hr
  rwa [itemsOf_del hr] at this
 have HH := Lib.hid h
 have o1 : w.cell? ⟨O, 1, none⟩ = some (.slice (some ⟨B, 0, none⟩) (m + 1) c) := hO.cell 1
 have HO := Lib.hid hO
 have hfew := h.few
 have hOl := hO.lt
 clear h hO hM uniq hb hlt
 go_enter Tryz.func93, Tryz.ntmps93
 go_wp2_with (first | (go_at_call 90; refine (HG.out _ (Upd.refl _ _)).mono ?_; rintro e w1 ⟨rfl, hU⟩; have H1 := Lib.hid hU; clear hU) | (go_at_call 171; refine (HR.out _ H1.out).mono ?_; rintro e w2 ⟨rfl, hU⟩; have H2 := Lib.hid (show Old w w2 from Upd.trans H1.out hU); have p1 := Old.cellOf' H2.out o1; have f1 : w2.frozen? ⟨O, 1, none⟩ = false := (Old.has H2.out HO.out).frozen 1; clear hU) | (go_at_call 172; refine (HD.out _ H2.out).mono ?_; rintro e w3 ⟨rfl, hown, hU⟩; have hO3 := Upd.has hU (Old.has H2.out HO.out) (fun e => hBO e.symm); have f3 := hO3.frozen 1; have c3 : w3.cell? ⟨O, 1, none⟩ = some (.slice (some ⟨B, 0, none⟩) (m + 1) c) := hO3.cell 1; have H3 := Lib.hid (And.intro hown (And.intro hU hO3)); clear hown hU hO3))
 go_ret2
 obtain ⟨hown, hU, hO3⟩ := H3.out
 refine ⟨⟨_, rfl⟩, .slice (some ⟨B, 0, none⟩) m c, ⟨⟨t, ?_⟩, ?_, ?_, by omega⟩, ?_, fun b hb => hb⟩
 ·have := hO3.set 1 (.slice (some ⟨B, 0, none⟩) m c)
  simpa using this
 ·have U3 : Upd (fun b => b = O) w3 (w3.setCell ⟨O, 1, none⟩ (.slice (some ⟨B, 0, none⟩) m c)) := (Upd.refl _ _).setCell _ _ (.inl rfl)
  exact Upd.own U3 hown (fun b hb e => hBO (by simp [Value.ownBlock] at hb; rw [hb, e]))
 ·intro k' i j hij hj h
  have hs := HH.out.sorted k'
  unfold delAt at h ⊢
  by_cases h1 : i < r
  ·rw [if_pos h1]
   by_cases h2 : j < r
   ·rw [if_pos h2] at h; exact hs i j hij (by omega) h
   ·rw [if_neg h2] at h; exact hs i (j + 1) (by omega) (by omega) h
  ·rw [if_neg h1]
   rw [if_neg (by omega)] at h
   exact hs (i + 1) (j + 1) (by omega) (by omega) h
 ·exact ((Upd.mono H2.out (fun _ _ x => x.elim)).trans (hU.mono (fun b _ e => .inr (by rw [e]; rfl)))).setCell _ _ (.inl (.inl rfl))
end Go.M
namespace Go.M
open Go.Proofs Go.RowKit
set_option linter.unusedSimpArgs false
set_option maxHeartbeats 1000000 in
theorem iread_part {w : World} {Mi g vc sz off n : Nat} {bs : List UInt8} (m0 : w.cell? ⟨Mi, 0, none⟩ = some (.slice (some ⟨g, 0, none⟩) bs.length vc)) (m1 : w.cell? ⟨Mi, 1, none⟩ = some (.int .i64 ((sz : Nat) : Int)))
 (p2 : 0 < sz) (h2 : bs.length ≤ vc) (h3 : bs.length ≤ 8192) (hb : ∀ j u, (bs.map bcell)[j]? = some u → w.cell? ((⟨g, 0, none⟩ : Addr).add j) = some u) (hon : off + n ≤ bs.length) (hn : 0 < n) :
 Calls Tryz.prog 129 #[.pointer (some ⟨Mi, 0, none⟩), .int .i64 ((off : Nat) : Int), .int .i64 ((n : Nat) : Int)] w (ReadPost w ((bs.drop off).take n)) := by
 have hl : ((bs.drop off).take n).length = n := by rw [List.length_take, List.length_drop]; omega
 have HB := Lib.hid (clone_walk (w := w) (v := .slice (some ⟨g, off, none⟩) n n) (bs := (bs.drop off).take n) (.inr ⟨⟨g, off, none⟩, n, by rw [hl], fun j u hj => by
  have hj' : (bs.map bcell)[off + j]? = some u := by
   rw [List.getElem?_map] at hj ⊢
   obtain ⟨y, hy, rfl⟩ := Option.map_eq_some_iff.1 hj
   rw [List.getElem?_take] at hy
   split at hy
   ·rw [List.getElem?_drop] at hy
    rw [hy]; rfl
   ·cases hy
  have := hb _ _ hj'
  rw [show (⟨g, 0, none⟩ : Addr).add (off + j) = (⟨g, off, none⟩ : Addr).add j from by unfold Addr.add; by_cases h : j = 0 <;> by_cases h2 : off = 0 <;> simp [h, h2]] at this
  exact this⟩) (by omega : ((bs.drop off).take n).length ≤ 100000))
 clear hb
 generalize (bs.drop off).take n = rs at HB hl ⊢
 rw [hl] at HB
 obtain ⟨m, hm⟩ : ∃ m, bs.length = m := ⟨_, rfl⟩
 rw [hm] at m0 h2 h3 hon
 have g1 : ((decide ((off : Int) < 0) || decide ((n : Int) < 0)) || decide ((m : Int) < (n : Int))) = false := by simp; omega
 have g2 : IntKind.i64.wrap ((m : Int) - (n : Int)) = ((m - n : Nat) : Int) := by rw [show (m : Int) - (n : Int) = ((m - n : Nat) : Int) by omega]; exact IntWalk.i64_in _ (by omega)
 have g3 : IntKind.i64.wrap ((off : Int) + (n : Int)) = ((off + n : Nat) : Int) := IntWalk.i64_in _ (by omega)
 have g4 : decide (((m - n : Nat) : Int) < (off : Int)) = false := by simp; omega
 have g5 : n ≠ 0 := by omega
 have g6 : (n : Int) ≠ 0 := by omega
 have hM := block_lt_of_cell m0
 simp only at hM
 clear hm
 go_enter Tryz.func129, Tryz.ntmps129
 go_wp2_with (first | (go_at_call 210; refine (HB.out).mono ?_; rintro e1 w1 ⟨v, rfl, hown, hO, hfr⟩; obtain ⟨va1, vc1, rfl⟩ := own_slice hown; have HR := Lib.hid (And.intro hown (And.intro hO (own_fresh hown hfr))); clear hown hO hfr) | go_in)
 go_ret2
 exact ⟨_, _, _, rfl, own_bytes HR.out.1, HR.out.2.1, HR.out.2.2⟩
theorem dread_part {w : World} {col : Col} {q D : Nat} {s : DevS} {K S cap T : Nat} {M : Nat → Nat} {V : Nat → Value} (h : DevAt w col q D s K S cap T M V) (hup : s.down = false) {i : Nat} (hi : i < s.n + 2) {off n : Nat} (hon : off + n ≤ (s.img i).bs.length) (hn : 0 < n) :
 Calls Tryz.prog 95 #[.pointer (some ⟨D, 0, none⟩), .int .i64 ((i : Nat) : Int), .int .i64 ((off : Nat) : Int), .int .i64 ((n : Nat) : Int)] w (ReadPost w (((s.img i).bs.drop off).take n)) := by
 obtain ⟨va, vc, hv, c⟩ := h.cells i hi
 have hm := h.fm i hi
 refine dread_at h hup hi fun w' O => ?_
 have c' := c.old O
 have own := O.own hm.own (fun _ _ x => x)
 rcases own_bytes own with ⟨h1, h2⟩ | ⟨ad, cc, h1, h2⟩
 ·rw [h2] at hon
  simp at hon
  omega
 ·rw [hv] at h1
  injection h1 with h1 _ h3
  subst h1 h3
  rw [hv] at own
  obtain ⟨g, rfl⟩ := own_ad own
  exact iread_part c'.m0 c'.m1 c'.p2 (own_cap own).1 (by have := c'.p5; have := c'.p6; omega) h2 hon hn
end Go.M
namespace Go.M
open Go.Proofs Go.RowKit
set_option linter.unusedSimpArgs false
def NewS (w : World) (n x : Nat) (e : Ending) (w' : World) : Prop := ∃ C, e = .returned (.pointer (some ⟨C, 0, none⟩)) ∧ w.heap.size ≤ C ∧ Has w' C 224 #[.int .i64 ((n : Nat) : Int), .int .u64 ((x : Nat) : Int)] ∧ Old w w'
theorem set_copy {w : World} {z n x : Nat} (n0 : w.cell? ⟨z, 0, none⟩ = some (.int .i64 ((n : Nat) : Int))) (y0 : w.cell? ⟨z, 1, none⟩ = some (.int .u64 ((x : Nat) : Int))) (p0 : 0 < n) :
 Calls Tryz.prog 85 #[.pointer (some ⟨z, 0, none⟩)] w (NewS w n x) := by
 go_enter Tryz.func85, Tryz.ntmps85
 go_wp2_with go_in
 go_ret
 exact ⟨_, rfl, Nat.le_refl _, Has.new w _ _, (Upd.refl _ w).alloc _⟩
def tabC (n r : Nat) (z : Nat → Nat) : Array Value := #[.int .i64 ((n : Nat) : Int), .int .i64 ((r : Nat) : Int), .pointer (some ⟨z 0, 0, none⟩), .pointer (some ⟨z 1, 0, none⟩), .pointer (some ⟨z 2, 0, none⟩), .pointer (some ⟨z 3, 0, none⟩), .pointer (some ⟨z 4, 0, none⟩)]
structure TcI (w : World) (C n r : Nat) (z x : Nat → Nat) (k : Nat) (c : Nat → Nat) (W : World) : Prop where
 tb : Has W C 106 (tabC n r (fun i => if i < k then c i else z i))
 s : ∀ i, i < k → Has W (c i) 224 #[.int .i64 ((n : Nat) : Int), .int .u64 ((x i : Nat) : Int)]
 lt : ∀ i, i < k → C < c i
 inj : ∀ i j, i < k → j < k → c i = c j → i = j
 old : Old w W
theorem TcI.put {w W W' : World} {C n r k D j : Nat} {z x c : Nat → Nat} (h : TcI w C n r z x k c W) (hC : w.heap.size ≤ C) (hk : k < 5) (hD : W.heap.size ≤ D) (hs : Has W' D 224 #[.int .i64 ((n : Nat) : Int), .int .u64 ((x k : Nat) : Int)]) (U : Old W W') (hj : j = 2 + k) :
 TcI w C n r z x (k + 1) (fun i => if i = k then D else c i) (W'.setCell ⟨C, j, none⟩ (.pointer (some ⟨D, 0, none⟩))) := by
 subst hj
 have hl := h.tb.lt
 refine ⟨?_, fun i hi => ?_, fun i hi => ?_, fun i j hi hj => ?_, (h.old.trans U).setCell _ _ (.inr hC)⟩
 ·have := (U.has h.tb).set (2 + k) (.pointer (some ⟨D, 0, none⟩))
  refine cast ?_ this
  congr 1
  unfold tabC
  match k, hk with
  | 0, _ => simp
  | 1, _ => simp
  | 2, _ => simp
  | 3, _ => simp
  | 4, _ => simp
 ·show Has _ (if i = k then D else c i) _ _
  by_cases e : i = k
  ·subst e
   rw [if_pos rfl]
   exact hs.setOther (by show C ≠ D; omega) _
  ·rw [if_neg e]
   have := h.lt i (by omega)
   exact (U.has (h.s i (by omega))).setOther (by show C ≠ c i; omega) _
 ·show C < (if i = k then D else c i)
  split
  ·omega
  ·exact h.lt i (by omega)
 ·show (if i = k then D else c i) = (if j = k then D else c j) → i = j
  have lt : ∀ i, i < k → c i < W.heap.size := fun i hi => (h.s i hi).lt
  split <;> split
  ·omega
  ·intro e; have := lt j (by omega); omega
  ·intro e; have := lt i (by omega); omega
  ·exact h.inj i j (by omega) (by omega)
theorem ix5 (z : Nat → Nat) (W : World) : (Instr.index 104 (.agg #[.pointer (some ⟨z 0, 0, none⟩), .pointer (some ⟨z 1, 0, none⟩), .pointer (some ⟨z 2, 0, none⟩), .pointer (some ⟨z 3, 0, none⟩), .pointer (some ⟨z 4, 0, none⟩)]) (.int .i64 0)).run Tryz.prog W = .ok (.pointer (some ⟨z 0, 0, none⟩)) W ∧ (Instr.index 104 (.agg #[.pointer (some ⟨z 0, 0, none⟩), .pointer (some ⟨z 1, 0, none⟩), .pointer (some ⟨z 2, 0, none⟩), .pointer (some ⟨z 3, 0, none⟩), .pointer (some ⟨z 4, 0, none⟩)]) (.int .i64 1)).run Tryz.prog W = .ok (.pointer (some ⟨z 1, 0, none⟩)) W ∧ (Instr.index 104 (.agg #[.pointer (some ⟨z 0, 0, none⟩), .pointer (some ⟨z 1, 0, none⟩), .pointer (some ⟨z 2, 0, none⟩), .pointer (some ⟨z 3, 0, none⟩), .pointer (some ⟨z 4, 0, none⟩)]) (.int .i64 2)).run Tryz.prog W = .ok (.pointer (some ⟨z 2, 0, none⟩)) W ∧ (Instr.index 104 (.agg #[.pointer (some ⟨z 0, 0, none⟩), .pointer (some ⟨z 1, 0, none⟩), .pointer (some ⟨z 2, 0, none⟩), .pointer (some ⟨z 3, 0, none⟩), .pointer (some ⟨z 4, 0, none⟩)]) (.int .i64 3)).run Tryz.prog W = .ok (.pointer (some ⟨z 3, 0, none⟩)) W ∧ (Instr.index 104 (.agg #[.pointer (some ⟨z 0, 0, none⟩), .pointer (some ⟨z 1, 0, none⟩), .pointer (some ⟨z 2, 0, none⟩), .pointer (some ⟨z 3, 0, none⟩), .pointer (some ⟨z 4, 0, none⟩)]) (.int .i64 4)).run Tryz.prog W = .ok (.pointer (some ⟨z 4, 0, none⟩)) W := ⟨by kernel_rfl, by kernel_rfl, by kernel_rfl, by kernel_rfl, by kernel_rfl⟩
theorem tab_copy {w : World} {B n r : Nat} {z x : Nat → Nat} (h : TabCells w B n r (z 0) (z 1) (z 2) (z 3) (z 4) (x 0) (x 1) (x 2) (x 3) (x 4)) :
 Calls Tryz.prog 44 #[.pointer (some ⟨B, 0, none⟩)] w fun e w' => e = .returned (.pointer (some ⟨w.heap.size, 0, none⟩)) ∧ ∃ c, TcI w w.heap.size n r z x 5 c w' := by
 obtain ⟨b0, b1, b2, b3, b4, b5, b6, n0, n1, n2, n3, n4, y0, y1, y2, y3, y4, f0, f1, f2, f3, f4, hB, p0, p1, p2, l0, l1, l2, l3, l4, e01, e02, e03, e04, e12, e13, e14, e23, e24, e34⟩ := h
 have HS := Lib.hid (fun (W : World) (U : Old w W) => And.intro (set_copy (Old.cellOf' U n0) (Old.cellOf' U y0) p0) (And.intro (set_copy (Old.cellOf' U n1) (Old.cellOf' U y1) p0) (And.intro (set_copy (Old.cellOf' U n2) (Old.cellOf' U y2) p0) (And.intro (set_copy (Old.cellOf' U n3) (Old.cellOf' U y3) p0) (set_copy (Old.cellOf' U n4) (Old.cellOf' U y4) p0)))))
 have k0 := fun W => (ix5 z W).1
 have k1 := fun W => (ix5 z W).2.1
 have k2 := fun W => (ix5 z W).2.2.1
 have k3 := fun W => (ix5 z W).2.2.2.1
 have k4 := fun W => (ix5 z W).2.2.2.2
 go_enter Tryz.func44, Tryz.ntmps44
 go_wp2_with go_in
 have I0 : TcI w w.heap.size n r z x 0 z (w.alloc (.cells (tabC n r z) 106)) := ⟨by simpa using Has.new w _ _, fun _ h => (by omega), fun _ h => (by omega), fun _ _ h => (by omega), (Upd.refl _ w).alloc _⟩
 unfold tabC at I0
 generalize World.alloc w _ = W0 at I0 ⊢
 refine wp_loop_rounds 6 ?_
 rw [rounds_succ]
 go_wp2_with (first | (go_at_call 85; refine ((HS.out W0 I0.old).1).mono ?_; rintro e V0 ⟨D0, rfl, q1, q2, q3⟩; have J := q3.has I0.tb; have u0 : V0.cell? ⟨w.heap.size, 2, none⟩ = some (.pointer (some ⟨z 0, 0, none⟩)) := (J.cell 2).trans (by simp [tabC]); have v0 := J.frozen 2; have P0 := I0.put (j := 2) (Nat.le_refl _) (by omega) q1 q2 q3 rfl; clear q2 q3 J; have HP0 := Lib.hid P0; clear P0))
 have I1 := HP0.out
 clear HP0 u0 v0 I0
 generalize World.setCell V0 _ _ = W1 at I1 ⊢
 rw [rounds_succ]
 go_wp2_with (first | (go_at_call 85; refine ((HS.out W1 I1.old).2.1).mono ?_; rintro e V1 ⟨D1, rfl, q1, q2, q3⟩; have J := q3.has I1.tb; have u1 : V1.cell? ⟨w.heap.size, 3, none⟩ = some (.pointer (some ⟨z 1, 0, none⟩)) := (J.cell 3).trans (by simp [tabC]); have v1 := J.frozen 3; have P1 := I1.put (j := 3) (Nat.le_refl _) (by omega) q1 q2 q3 rfl; clear q2 q3 J; have HP1 := Lib.hid P1; clear P1))
 have I2 := HP1.out
 clear HP1 u1 v1 I1
 generalize World.setCell V1 _ _ = W2 at I2 ⊢
 rw [rounds_succ]
 go_wp2_with (first | (go_at_call 85; refine ((HS.out W2 I2.old).2.2.1).mono ?_; rintro e V2 ⟨D2, rfl, q1, q2, q3⟩; have J := q3.has I2.tb; have u2 : V2.cell? ⟨w.heap.size, 4, none⟩ = some (.pointer (some ⟨z 2, 0, none⟩)) := (J.cell 4).trans (by simp [tabC]); have v2 := J.frozen 4; have P2 := I2.put (j := 4) (Nat.le_refl _) (by omega) q1 q2 q3 rfl; clear q2 q3 J; have HP2 := Lib.hid P2; clear P2))
 have I3 := HP2.out
 clear HP2 u2 v2 I2
 generalize World.setCell V2 _ _ = W3 at I3 ⊢
 rw [rounds_succ]
 go_wp2_with (first | (go_at_call 85; refine ((HS.out W3 I3.old).2.2.2.1).mono ?_; rintro e V3 ⟨D3, rfl, q1, q2, q3⟩; have J := q3.has I3.tb; have u3 : V3.cell? ⟨w.heap.size, 5, none⟩ = some (.pointer (some ⟨z 3, 0, none⟩)) := (J.cell 5).trans (by simp [tabC]); have v3 := J.frozen 5; have P3 := I3.put (j := 5) (Nat.le_refl _) (by omega) q1 q2 q3 rfl; clear q2 q3 J; have HP3 := Lib.hid P3; clear P3))
 have I4 := HP3.out
 clear HP3 u3 v3 I3
 generalize World.setCell V3 _ _ = W4 at I4 ⊢
 rw [rounds_succ]
 go_wp2_with (first | (go_at_call 85; refine ((HS.out W4 I4.old).2.2.2.2).mono ?_; rintro e V4 ⟨D4, rfl, q1, q2, q3⟩; have J := q3.has I4.tb; have u4 : V4.cell? ⟨w.heap.size, 6, none⟩ = some (.pointer (some ⟨z 4, 0, none⟩)) := (J.cell 6).trans (by simp [tabC]); have v4 := J.frozen 6; have P4 := I4.put (j := 6) (Nat.le_refl _) (by omega) q1 q2 q3 rfl; clear q2 q3 J; have HP4 := Lib.hid P4; clear P4))
 have I5 := HP4.out
 clear HP4 u4 v4 I4
 generalize World.setCell V4 _ _ = W5 at I5 ⊢
 rw [rounds_succ]
 go_wp2
 go_ret
 exact ⟨rfl, _, I5⟩
def Newly (w w' : World) (c col : Col) : Prop := ∀ b, w.heap.size ≤ b → b < w'.heap.size → col b = c b
theorem TabG.copy {w : World} {col : Col} {q B n r : Nat} {st : Nat → Nat} (h : TabG w col q B n r st) (q' : Nat) :
 Calls Tryz.prog 44 #[.pointer (some ⟨B, 0, none⟩)] w fun e w' => ∃ C c, e = .returned (.pointer (some ⟨C, 0, none⟩)) ∧ Old w w' ∧ ∀ col', Newly w w' c col' → TabG w' col' q' C n r st := by
 obtain ⟨t, Z, h, rfl, rfl, hs⟩ := h
 refine (tab_copy h.cells).mono ?_
 rintro e w' ⟨rfl, c, hc⟩
 have hl := hc.tb.lt
 refine ⟨w.heap.size, fun b => if b = w.heap.size then (q', 0) else if b = c 0 then (q', 1) else if b = c 1 then (q', 2) else if b = c 2 then (q', 3) else if b = c 3 then (q', 4) else (q', 5), rfl, hc.old, fun col' hn => ?_⟩
 have hz : ∀ k, k < 5 → col' (c k) = (q', 1 + k) := fun k hk => by
  have h1 := hc.lt k hk
  have inj := fun j (hj : j < 5) (hne : k ≠ j) => fun e => hne (hc.inj k j hk hj e)
  rw [hn _ (by omega) (hc.s k hk).lt]
  show (if c k = w.heap.size then (q', 0) else _) = _
  rw [if_neg (by omega)]
  match k, hk with
  | 0, _ => rw [if_pos rfl]
  | 1, _ => rw [if_neg (inj 0 (by omega) (by omega)), if_pos rfl]
  | 2, _ => rw [if_neg (inj 0 (by omega) (by omega)), if_neg (inj 1 (by omega) (by omega)), if_pos rfl]
  | 3, _ => rw [if_neg (inj 0 (by omega) (by omega)), if_neg (inj 1 (by omega) (by omega)), if_neg (inj 2 (by omega) (by omega)), if_pos rfl]
  | 4, _ => rw [if_neg (inj 0 (by omega) (by omega)), if_neg (inj 1 (by omega) (by omega)), if_neg (inj 2 (by omega) (by omega)), if_neg (inj 3 (by omega) (by omega))]
 exact ⟨t, c, ⟨⟨_, by simpa [tabC] using hc.tb⟩, fun k hk => ⟨_, hc.s k hk⟩, by rw [hn _ (Nat.le_refl _) hl]; exact if_pos rfl, hz, h.lo, h.hi, h.rn, h.bd⟩, rfl, rfl, hs⟩
end Go.M
namespace Go.M
open Go.Proofs Go.RowKit
def LoadAt (w : World) : Prop := w.cell? ⟨2, 0, none⟩ = some (.bool true) ∧ w.cell? ⟨2, 1, none⟩ = some (.bool false) ∧ w.cell? ⟨2, 2, none⟩ = some (.bool false) ∧ w.cell? ⟨2, 3, none⟩ = some (.bool false) ∧ w.cell? ⟨2, 4, none⟩ = some (.bool false) ∧ w.cell? ⟨2, 5, none⟩ = some (.int .i64 2)
section
variable {w : World} {B n r z0 z1 z2 z3 z4 x0 x1 x2 x3 x4 : Nat}
theorem tab_chg0 (h : TabCells w B n r z0 z1 z2 z3 z4 x0 x1 x2 x3 x4) (i : Nat) (hi : i < n) (g0 : x0.testBit i = (0 == 0)) (g1 : x1.testBit i = (0 == 1)) (g2 : x2.testBit i = (0 == 2)) (g3 : x3.testBit i = (0 == 3)) (g4 : x4.testBit i = (0 == 4)) (nb : z0 ≠ B) :
 Calls Tryz.prog 126 #[.pointer (some ⟨B, 0, none⟩), .int .i64 ((i : Nat) : Int), .agg #[.bool true, .bool false, .bool false, .bool false, .bool false, .int .i64 2]] w fun e w' => e = .returned (.int .i64 0) ∧
  Old ((w.setCell ⟨z0, 1, none⟩ (.int .u64 ((clr x0 i : Nat) : Int))).setCell ⟨z2, 1, none⟩ (.int .u64 ((x2 ||| 2 ^ i : Nat) : Int))) w' := by
 have HS := Lib.hid (fun (W : World) (U : Old w W) => tab_stateE (h.old U) i 0 hi (by omega) g0 g1 g2 g3 g4)
 clear g0 g1 g2 g3 g4
 obtain ⟨b0, b1, b2, b3, b4, b5, b6, n0, n1, n2, n3, n4, y0, y1, y2, y3, y4, f0, f1, f2, f3, f4, hB, p0, p1, p2, l0, l1, l2, l3, l4, e01, e02, e03, e04, e12, e13, e14, e23, e24, e34⟩ := h
 have hz1 := block_lt_of_cell n0
 have hz2 := block_lt_of_cell n2
 simp only at hz1 hz2
 have nb' := Ne.symm nb
 go_enter Tryz.func126, Tryz.ntmps126
 go_wp2_with (first | (go_at_call 32; refine (HS.out _ ((Upd.refl _ w).alloc _)).mono ?_; rintro e w1 ⟨rfl, rfl⟩) | (go_at_call 209; refine (tab_move (B := B) (f := 0) (g := 2) (zf := z0) (zt := z2) (n := n) (xf := x0) (xt := x2) (i := i) (by go_simp) (by go_simp) (by go_simp) (by go_simp) (by go_simp) (by go_simp) (by intro j; go_simp) (by intro j; go_simp) e02 nb (by omega) (by omega) p0 p1 hi l0 l2).mono ?_; rintro e w1 ⟨rfl, rfl⟩) | go_in)
 go_ret
 exact ⟨rfl, (((Upd.refl _ _).alloc _).drew).drew⟩
theorem tab_Load0 (h : TabCells w B n r z0 z1 z2 z3 z4 x0 x1 x2 x3 x4) (hS : LoadAt w) (i : Nat) (hi : i < n) (g0 : x0.testBit i = (0 == 0)) (g1 : x1.testBit i = (0 == 1)) (g2 : x2.testBit i = (0 == 2)) (g3 : x3.testBit i = (0 == 3)) (g4 : x4.testBit i = (0 == 4)) (nb : z0 ≠ B) :
 Calls Tryz.prog 142 #[.pointer (some ⟨B, 0, none⟩), .int .i64 ((i : Nat) : Int)] w fun e w' => e = .returned (.int .i64 0) ∧
  Old ((w.setCell ⟨z0, 1, none⟩ (.int .u64 ((clr x0 i : Nat) : Int))).setCell ⟨z2, 1, none⟩ (.int .u64 ((x2 ||| 2 ^ i : Nat) : Int))) w' := by
 have HC := Lib.hid (tab_chg0 h i hi g0 g1 g2 g3 g4 nb)
 obtain ⟨s0, s1, s2, s3, s4, s5⟩ := hS
 clear h g0 g1 g2 g3 g4
 go_enter Tryz.func142, Tryz.ntmps142
 go_wp2_with (first | (refine wpList_load_part rfl 192 (.global 2) rfl ⟨2, 0, none⟩ rfl [.bool true, .bool false, .bool false, .bool false, .bool false, .int .i64 2] ?c1 _ Tryz.underlying192 rfl (by kernel_rfl) ?_) | (go_at_call 126; refine HC.out.mono ?_; rintro e w1 ⟨rfl, hO⟩))
 case c1 =>
  intro j v hj
  match j with
  | 0 => cases hj; exact s0
  | 1 => cases hj; exact s1
  | 2 => cases hj; exact s2
  | 3 => cases hj; exact s3
  | 4 => cases hj; exact s4
  | 5 => cases hj; exact s5
  | j + 6 => simp at hj
 go_ret
 exact ⟨rfl, hO⟩
end
theorem TabG.load {w : World} {col : Col} {q B n r : Nat} {st : Nat → Nat} (h : TabG w col q B n r st) (hS : LoadAt w) {i : Nat} (hi : i < n) (h0 : st i = 0) :
 Calls Tryz.prog 142 #[.pointer (some ⟨B, 0, none⟩), .int .i64 ((i : Nat) : Int)] w fun e w' => e = .returned (.int .i64 0) ∧ TabG w' col q B n r (setSt st i 2) ∧ Upd (fun b => (col b).1 = q) w w' := by
 obtain ⟨t, Z, h, rfl, rfl, hs⟩ := h
 obtain ⟨a0, a1, a2, a3, a4⟩ := hs.bits hi
 rw [h0] at a0 a1 a2 a3 a4
 refine (tab_Load0 h.cells hS i hi a0 a1 a2 a3 a4 (h.zb (by omega))).mono ?_
 rintro e w' ⟨rfl, O⟩
 exact ⟨rfl, TabG.moved h hs (by omega) (by omega) (by omega) hi h0 O⟩
end Go.M
