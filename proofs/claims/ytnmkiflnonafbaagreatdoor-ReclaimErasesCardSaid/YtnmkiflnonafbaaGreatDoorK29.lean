/- Walks 29. -/
import Derived.Test.YtnmkiflnonafbaaGreatDoorProg
import Derived.Test.YtnmkiflnonafbaaGreatDoorK20
import Derived.Test.YtnmkiflnonafbaaGreatDoorK24
import Derived.Test.YtnmkiflnonafbaaGreatDoorK28
import Derived.Test.YtnmkiflnonafbaaGreatDoorK25
import Derived.Test.YtnmkiflnonafbaaGreatDoorK22
import Derived.Test.YtnmkiflnonafbaaGreatDoorK1
set_option linter.unusedVariables false
set_option linter.unusedSimpArgs false
set_option maxRecDepth 100000
namespace Go.M
open Go.Proofs Go.RowKit
structure EIn (w : World) (col : Col) (PP D B X n : Nat) (s : DevS) (fr : Nat) (st : Nat → Nat) (M : ByteArray → List Ent) (x : IdxS) : Prop where
 c0 : w.cell? ⟨PP, 0, none⟩ = some (.int .i64 ((n : Nat) : Int))
 c7 : w.cell? ⟨PP, 7, none⟩ = some (.pointer (some ⟨D, 0, none⟩))
 c8 : w.cell? ⟨PP, 8, none⟩ = some (.pointer (some ⟨B, 0, none⟩))
 c9 : w.cell? ⟨PP, 9, none⟩ = some (.pointer (some ⟨X, 0, none⟩))
 cP : (col PP).1 = 4
 dev : ∃ K S cap T M V, DevAt w col 1 D s K S cap T M V
 sn : s.n = n
 up : s.down = false
 tab : ZhA w col 2 B n fr st
 idx : IdxC w col 3 X n M x
 dp : DropAt w
 cdp : (col 0).1 = 0
 n4 : 4 ≤ n
 n9 : n ≤ 9
 new : ∀ b, w.heap.size ≤ b → (col b).1 = 0
def EF (col : Col) (b : Nat) : Prop := 1 ≤ (col b).1 ∧ (col b).1 ≤ 3
theorem DropAt.upd {F : Nat → Prop} {w w' : World} (h : DropAt w) (U : Upd F w w') (hg : ¬ F 0) : DropAt w' := by
 obtain ⟨h0, h1, h2, h3, h4, h5⟩ := h;exact ⟨U.cellOf h0 hg, U.cellOf h1 hg, U.cellOf h2 hg, U.cellOf h3 hg, U.cellOf h4 hg, U.cellOf h5 hg⟩
structure EOk (n : Nat) (s : DevS) (st : Nat → Nat) (x : IdxS) (o : Int) : Prop where
 ne : ∀ i, i < n → st i = 2 → x.es i ≠ []
 du : ∀ i, i < n → st i = 2 → Zas s i = false
 o0 : 0 ≤ s.ops
 o1 : s.ops ≤ o
variable {w : World} {col : Col} {PP D B X n : Nat} {s : DevS} {fr : Nat} {st : Nat → Nat} {M : ByteArray → List Ent} {x : IdxS}
theorem EIn.old {w' : World} (h : EIn w col PP D B X n s fr st M x) (U : Old w w') : EIn w' col PP D B X n s fr st M x := by
 have sz := U.size;obtain ⟨c0, c7, c8, c9, cP, ⟨K, S, cap, T, Mi, V, hd⟩, sn, up, tab, idx, dp, cdp, n4, n9, new⟩ := h;exact ⟨Old.cellOf' U c0, Old.cellOf' U c7, Old.cellOf' U c8, Old.cellOf' U c9, cP, ⟨K, S, cap, T, Mi, V, hd.other U (fun _ x => x.elim) (Kept.refl _ _)⟩, sn, up, tab.other U (fun _ x => x.elim) (Kept.refl _ _), idx.other U (fun _ x => x.elim) (Kept.refl _ _), dp.upd U (fun x => x), cdp, n4, n9, fun b hb => new b (by omega)⟩
theorem EIn.uns (h : EIn w col PP D B X n s fr st M x) {i : Nat} (hi : i < n) :
 Calls Tryz.prog 7 #[.pointer (some ⟨D, 0, none⟩), .int .i64 ((i : Nat) : Int)] w fun e w' => e = .returned (.tuple #[.int .i64 (((s.img i).bs.length : Int) - ((s.img i).dur : Int)), .int .i64 0]) ∧ Old w w' := by
 obtain ⟨K, S, cap, T, Mi, V, hd⟩ := h.dev;obtain ⟨va, vc, hv, c⟩ := hd.cells i (by have := h.sn; omega)
 rw [h.up] at c;exact ZeY c
theorem EIn.ops (h : EIn w col PP D B X n s fr st M x) :
 Calls Tryz.prog 6 #[.pointer (some ⟨D, 0, none⟩)] w fun e w' => e = .returned (.int .i64 s.ops) ∧ w = w' := by
 obtain ⟨K, S, cap, T, Mi, V, hd⟩ := h.dev;obtain ⟨t, f⟩ := hd.fd;exact Zou (down := s.down) ⟨f.cell 2, f.cell 3, f.cell 4⟩ (by have := h.sn; have := h.n4; omega)
theorem EIn.bytes (h : EIn w col PP D B X n s fr st M x) {i : Nat} (hi : i < n) :
 Calls Tryz.prog 8 #[.pointer (some ⟨PP, 0, none⟩), .int .i64 ((i : Nat) : Int)] w fun e w' => (∃ a n c, e = .returned (.slice a n c) ∧ BytesAt w' (.slice a n c) (s.img i).bs) ∧ Old w w' := by
 obtain ⟨K, S, cap, T, Mi, V, hd⟩ := h.dev;exact Zow hd h.up h.c7 (by have := h.sn; omega)
theorem EIn.dsl (h : EIn w col PP D B X n s fr st M x) : DSl w (.pointer (some ⟨D, 0, none⟩)) n := by
 obtain ⟨K, S, cap, T, Mi, V, hd⟩ := h.dev;obtain ⟨t, f⟩ := hd.fd;have h4 := f.cell 4;rw [h.up] at h4;exact .inr ⟨D, rfl, by rw [← h.sn]; exact f.cell 2, h4⟩
theorem EIn.rstate (h : EIn w col PP D B X n s fr st M x) {i : Nat} (hi : i < n) :
 Calls Tryz.prog 33 #[.pointer (some ⟨D, 0, none⟩), .pointer (some ⟨B, 0, none⟩), .pointer (some ⟨X, 0, none⟩), .int .i64 ((i : Nat) : Int)] w fun e w' => e = .returned (.tuple #[.int .i64 ((st i : Nat) : Int), .int .i64 0]) ∧ Old w w' :=
 ZdR h.dsl h.tab.tsl h.idx.xsl (by have := h.n9; omega) (by have := h.n4; omega) (fun W U => (h.old U).tab.state hi)
theorem EIn.erase_no (h : EIn w col PP D B X n s fr st M x) {i : Nat} (hi : i < n) (hbad : ¬ (Zku M x.es i = true ∧ st i = 2)) :
 Calls Tryz.prog 15 #[.pointer (some ⟨D, 0, none⟩), .pointer (some ⟨B, 0, none⟩), .pointer (some ⟨X, 0, none⟩), .int .i64 ((i : Nat) : Int)] w fun e w' => e = .returned (.int .i64 7) ∧ Old w w' := by
 have h3 := h.tab.few.2.2.2.1 i hi;refine Zgt (st := st i) (r := Zku M x.es i) ?_ (by omega) (fun W U => (h.old U).rstate hi) (fun W U => (h.old U).idx.red hi)
 cases hr : Zku M x.es i with
 | false => exact .inl rfl
 | true => exact .inr ⟨fun h2 => hbad ⟨hr, h2⟩, by omega⟩
theorem EIn.victim (h : EIn w col PP D B X n s fr st M x) {f : Nat} (hf : f < 256) :
 Calls Tryz.prog 16 #[.pointer (some ⟨PP, 0, none⟩), .int .u8 ((f : Nat) : Int)] w (Zmb n st (Zku M x.es) w) :=
 ZiC (by have := h.n4; omega) (by have := h.n9; omega) hf h.c0 h.c8 h.c9 (fun W U j hj => (h.old U).tab.state hj) (fun W U j hj => (h.old U).idx.red hj)
theorem EIn.live (h : EIn w col PP D B X n s fr st M x) :
 Calls Tryz.prog 17 #[.pointer (some ⟨X, 0, none⟩)] w (Zcf w 113 2 (ZfK (Zb3 x.key x.kz x.mn)).length (Zcq (ZfK (Zb3 x.key x.kz x.mn)))) := by
 obtain ⟨t, fX⟩ := h.idx.fX;exact Zmf (by have := h.n4; omega) (fX.cell 0) (fX.cell 1) h.idx.kv
theorem ZhD {s : DevS} {n : Nat} : Zhx s n = 0 ↔ ∀ k, k < n → Zas s k = false := by
 unfold Zhx;rw [List.length_eq_zero_iff, List.filter_eq_nil_iff];exact ⟨fun h k hk => by simpa using h k (List.mem_range.2 hk), fun h k hk => by rw [h k (List.mem_range.1 hk)]; decide⟩
theorem EIn.safe (h : EIn w col PP D B X n s fr st M x) {i : Nat} (hi : i < n) (hr : Zku M x.es i = true) (hu : Zas s i = false) :
 Calls Tryz.prog 10 #[.pointer (some ⟨D, 0, none⟩), .pointer (some ⟨B, 0, none⟩), .pointer (some ⟨X, 0, none⟩), .int .i64 ((i : Nat) : Int)] w fun e w' => e = .returned (.tuple #[.bool (Zhx s n == 0), .int .i64 0]) ∧ Old w w' := by
 obtain ⟨K, S, cap, T, Mi, V, hd⟩ := h.dev;have hn := h.sn;have hT : TSl w (.pointer (some ⟨B, 0, none⟩)) s.n := by rw [hn]; exact h.tab.tsl
 have hX : XSl w (.pointer (some ⟨X, 0, none⟩)) s.n := by rw [hn]; exact h.idx.xsl
 by_cases hc : ∀ k, k < n → Zas s k = false
 ·rw [ZhD.2 hc];refine ZfI (st := st i) hd h.up hT hX h.new (by rw [hn]; exact hc) (fun W U => (h.old U).tab.state hi) (fun W U => ?_)
  have := (h.old U).idx.red hi;rwa [hr] at this
 ·have hc0 : (Zhx s n == 0) = false := by
   rw [beq_eq_false_iff_ne];exact fun e => hc (ZhD.1 e)
  rw [hc0];refine Zl4 (st := st i) hd h.up hT hX h.new hu ?_ (fun W U => (h.old U).tab.state hi)
  rw [hn];refine Classical.byContradiction fun hne => hc fun k hk => ?_
  cases hq : Zas s k with
  | false => rfl
  | true => exact absurd ⟨k, hk, hq⟩ hne
structure ErD (n i : Nat) (s s' : DevS) : Prop where
 ops : s'.ops = s.ops + (Zhx s n : Int) + 1
 dur : ∀ k, k < n → (s'.img k).dur = (s'.img k).bs.length
 img : ∀ k, k < n → (s'.img k).bs = if k = i then [] else (s.img k).bs
theorem EIn.dev' {w' : World} {s' : DevS} (h : EIn w col PP D B X n s fr st M x) (U : Upd (fun b => (col b).1 = 1) w w') (hd : ∃ K S cap T M V, DevAt w' col 1 D s' K S cap T M V) (hn : s'.n = n) (hu : s'.down = false) : EIn w' col PP D B X n s' fr st M x := by
 have nP : ¬ (col PP).1 = 1 := by rw [h.cP]; decide
 exact ⟨U.cellOf h.c0 nP, U.cellOf h.c7 nP, U.cellOf h.c8 nP, U.cellOf h.c9 nP, h.cP, hd, hn, hu, h.tab.other U (fun b hb => by rw [hb]; decide) (Kept.refl _ _), h.idx.other U (fun b hb => by rw [hb]; decide) (Kept.refl _ _), h.dp.upd U (by rw [h.cdp]; decide), h.cdp, h.n4, h.n9, fun b hb => h.new b (Nat.le_trans U.size hb)⟩
theorem EIn.tab' {w' : World} {fr' : Nat} {st' : Nat → Nat} (h : EIn w col PP D B X n s fr st M x) (U : Upd (fun b => (col b).1 = 2) w w') (ht : ZhA w' col 2 B n fr' st') : EIn w' col PP D B X n s fr' st' M x := by
 have nP : ¬ (col PP).1 = 2 := by rw [h.cP]; decide
 obtain ⟨K, S, cap, T, Mi, V, hd⟩ := h.dev;exact ⟨U.cellOf h.c0 nP, U.cellOf h.c7 nP, U.cellOf h.c8 nP, U.cellOf h.c9 nP, h.cP, ⟨K, S, cap, T, Mi, V, hd.other U (fun b hb => by rw [hb]; decide) (Kept.refl _ _)⟩, h.sn, h.up, ht, h.idx.other U (fun b hb => by rw [hb]; decide) (Kept.refl _ _), h.dp.upd U (by rw [h.cdp]; decide), h.cdp, h.n4, h.n9, fun b hb => h.new b (Nat.le_trans U.size hb)⟩
theorem EIn.idx' {w' : World} {col' : Col} {M' : ByteArray → List Ent} {x' : IdxS} (h : EIn w col PP D B X n s fr st M x) (U : Upd (fun b => (col b).1 = 3) w w') (hk : Kept w col col') (hi : IdxC w' col' 3 X n M' x') (hn : ∀ b, w'.heap.size ≤ b → (col' b).1 = 0) : EIn w' col' PP D B X n s fr st M' x' := by
 have nP : ¬ (col PP).1 = 3 := by rw [h.cP]; decide
 obtain ⟨K, S, cap, T, Mi, V, hd⟩ := h.dev;have lP := World.block_lt_of_cell? w _ h.c0;have lD := World.block_lt_of_cell? w _ h.dp.1;exact ⟨U.cellOf h.c0 nP, U.cellOf h.c7 nP, U.cellOf h.c8 nP, U.cellOf h.c9 nP, by rw [hk _ lP, h.cP], ⟨K, S, cap, T, Mi, V, hd.other U (fun b hb => by rw [hb]; decide) hk⟩, h.sn, h.up, h.tab.other U (fun b hb => by rw [hb]; decide) hk, hi, h.dp.upd U (by rw [h.cdp]; decide), by rw [hk _ lD, h.cdp], h.n4, h.n9, hn⟩
theorem EIn.erase (h : EIn w col PP D B X n s fr st M x) {i : Nat} (hi : i < n) (hr : Zku M x.es i = true) (h2 : st i = 2) (ok : EOk n s st x 800) :
 Calls Tryz.prog 15 #[.pointer (some ⟨D, 0, none⟩), .pointer (some ⟨B, 0, none⟩), .pointer (some ⟨X, 0, none⟩), .int .i64 ((i : Nat) : Int)] w fun e w' => e = .returned (.int .i64 0) ∧ Upd (EF col) w w' ∧
  ∃ col' s' x', EIn w' col' PP D B X n s' (fr + 1) (fun k => if k = i then 0 else st k) (leftOf M (x.es i)) x' ∧ ErD n i s s' ∧ (x'.es = Zcp x.es i ∧ x'.sv i = .slice none 0 0) ∧ Kept w col col' := by
 have hn := h.sn;have o0 := ok.o0;have o1 := ok.o1;have hcu := Ze2 s n;have h9 := h.n9;obtain ⟨s2, q1, q2, q3, q4, -⟩ := Zjv s n (fun k hk => by obtain ⟨K, S, cap, T, Mi, V, hd⟩ := h.dev; exact (hd.fm k (by omega)).durs)
 have hs2 : s2.n = n ∧ s2.down = false := by
  obtain ⟨h1, h2, -⟩ := ZfF ((List.range n).filter (Zas s)) s;rw [q1] at h1 h2;exact ⟨h1.trans hn, h2.trans h.up⟩
 have ef : ∀ {W W' : World} {q : Nat}, 1 ≤ q → q ≤ 3 → Upd (fun b => (col b).1 = q) W W' → Upd (EF col) W W' := fun h1 h3 U => U.mono fun b _ hb => by
  unfold EF;rw [hb];exact ⟨h1, h3⟩
 refine (Zkv (F := EF col)
  (P0 := fun W => EIn W col PP D B X n s fr st M x ∧ w.heap.size ≤ W.heap.size)
  (P1 := fun W => EIn W col PP D B X n s2 fr st M x ∧ w.heap.size ≤ W.heap.size)
  (P2 := fun W => EIn W col PP D B X n (s2.put i { s2.img i with bs := [], dur := 0 }) fr st M x ∧ w.heap.size ≤ W.heap.size)
  (P3 := fun W => ∃ col' x', EIn W col' PP D B X n (s2.put i { s2.img i with bs := [], dur := 0 }) fr st (leftOf M (x.es i)) x' ∧ (x'.es = Zcp x.es i ∧ x'.sv i = .slice none 0 0) ∧ Kept w col col' ∧ ∀ b, w.heap.size ≤ b → ¬ (col' b).1 = 2)
  (P4 := fun W => ∃ col' x', EIn W col' PP D B X n (s2.put i { s2.img i with bs := [], dur := 0 }) (fr + 1) (fun k => if k = i then 0 else st k) (leftOf M (x.es i)) x' ∧ (x'.es = Zcp x.es i ∧ x'.sv i = .slice none 0 0) ∧ Kept w col col')
  (fun b hb => ?hF) (fun W W' hp U => ⟨hp.1.old U, Nat.le_trans hp.2 U.size⟩) (fun W W' hp U => ⟨hp.1.old U, Nat.le_trans hp.2 U.size⟩) ⟨h, Nat.le_refl _⟩ (fun W hp => ?hst) (fun W hp => ?hre) (fun W hp => ?h1) (fun W hp => ?h2) (fun W hp => ?h3) (fun W hp => ?h4)).mono ?hend
 case hF =>
  refine Nat.lt_of_not_le fun hl => ?_
  have := h.new b hl;unfold EF at hb;omega
 case hst =>
  have := hp.1.rstate hi;rwa [h2] at this
 case hre =>
  have := hp.1.idx.red hi;rwa [hr] at this
 case h1 =>
  obtain ⟨hp, hs⟩ := hp;obtain ⟨K, S, cap, T, Mi, V, hd⟩ := hp.dev;refine (ZfG hd hp.up (by rw [hn]; exact hp.tab.tsl) hp.new (by omega)).mono ?_
  rintro e w' ⟨rfl, hd', U⟩;rw [hn, q1] at hd';exact ⟨rfl, ef (by omega) (by omega) U, hp.dev' U hd' hs2.1 hs2.2, Nat.le_trans hs U.size⟩
 case h2 =>
  obtain ⟨hp, hs⟩ := hp;obtain ⟨K, S, cap, T, Mi, V, hd⟩ := hp.dev;refine (Zma hd hs2.2 i (by rw [hs2.1]; omega) (by omega)).mono ?_
  rintro e w' ⟨rfl, hd', U⟩;have U' : Upd (fun b => (col b).1 = 1) W w' := U.mono fun b _ hb => by
   rcases hb with rfl | rfl
   ·rw [hd.cD]
   ·rw [hd.cM i (by rw [hs2.1]; omega)]
  exact ⟨rfl, ef (by omega) (by omega) U', hp.dev' U' ⟨_, _, _, _, _, _, hd'⟩ hs2.1 hs2.2, Nat.le_trans hs U'.size⟩
 case h3 =>
  obtain ⟨hp, hs⟩ := hp;refine (hp.idx.drop hi (ok.ne i hi h2) hp.new (by decide)).mono ?_
  rintro e w' ⟨hk, U, col', x', hi', hx, hkc, hn', hq⟩;refine ⟨hk, ef (by omega) (by omega) U, col', x', hp.idx' U hkc hi' hn', hx, fun b hb => hkc b (by omega), fun b hb e => ?_⟩
  rcases Nat.lt_or_ge b W.heap.size with hl | hl
  ·rw [hkc b hl, h.new b hb] at e; cases e
  ·rcases hq b hl with h5 | h5 <;> omega
 case h4 =>
  obtain ⟨col', x', hp, hx, hkc, hq⟩ := hp;refine (hp.tab.drop hp.dp hi h2).mono ?_;rintro e w' ⟨rfl, ht, U⟩;refine ⟨rfl, U.mono fun b _ hb => ?_, col', x', hp.tab' U ht, hx, hkc⟩
  have hl : b < w.heap.size := Nat.lt_of_not_le fun hl => hq b hl hb
  unfold EF;rw [← hkc b hl, hb];omega
 case hend =>
  rintro e w' ⟨rfl, ⟨col', x', hE, hx, hk⟩, hU⟩;refine ⟨rfl, hU, col', _, x', hE, ⟨?_, fun k hk => ?_, fun k hk => ?_⟩, hx, hk⟩
  ·simp only [DevS.put]; rw [q2]
  ·obtain ⟨a1, a2⟩ := q4 k hk
   by_cases e : k = i
   ·simp [DevS.put, e]
   ·simp [DevS.put, e, a1]
  ·obtain ⟨a1, a2⟩ := q4 k hk
   by_cases e : k = i
   ·simp [DevS.put, e]
   ·simp [DevS.put, e, a2]
end Go.M
namespace Go.M
open Go.Proofs Go.RowKit
theorem ZqP {w wr : World} {k : Cf} {PP D B X it : Nat} (h : ZbV w k PP D B X it wr) (hit : it ≤ 60) (hd : DropAt w) : ∃ col s fr st M x, EIn wr col PP D B X k.n s fr st M x ∧ EOk k.n s st x 600 ∧ Old w wr ∧ ∀ b, b < w.heap.size → (col b).1 = 0 := by
 obtain ⟨col, next, used, act, lens, ops, hp, h1, h2, h3, h4⟩ := h;obtain ⟨t, p⟩ := hp.p;have hk := Zaf wr col;have U := Upd.refl (fun _ => False) wr
 obtain ⟨s, K, S, cap, T, Mi, V, hdv, e1, e2, e3, e4⟩ := hp.dev;obtain ⟨si, hi⟩ := hp.idx;have ht := (hp.tab.other U (fun b h => h.elim) hk).gen (fun ha => (hp.actv ha).1)
 have hx := (hi.other U (fun b h => h.elim) hk).toC (by have := hp.n4; omega)
 have hdl := World.block_lt_of_cell? w _ hd.1;have s4 := h4.size;have lt2 : ∀ i, (if used ≤ i then 0 else if act = true ∧ i = used - 1 then 1 else 2) = 2 → i < used ∧ (act = true → i ≠ used - 1) := fun i h => by
  split at h
  ·omega
  ·split at h
   ·omega
   ·rename_i h5 h6;exact ⟨by omega, fun ha he => h6 ⟨ha, he⟩⟩
 refine ⟨trim wr col, s, _, _, _, si, ⟨p.cell 0, p.cell 7, p.cell 8, p.cell 9, by rw [hk _ p.lt, hp.cP], ⟨K, S, cap, T, Mi, V, hdv.other U (fun b h => h.elim) hk⟩, e1, e2, ht, hx, hd.upd h4 (fun x => x), ?_, hp.n4, hp.n9, fun b hb => by rw [Za4 hb]⟩, ⟨fun i hi' h => hi.ne i hi' (lt2 i h).1, fun i hi' h => ?_, by rw [e3]; omega, by rw [e3]; omega⟩, h4, fun b hb => ?_⟩
 ·rw [hk _ (by simp only at hdl; omega), h3 _ hdl]
 ·have := (e4 i hi').2.2 (lt2 i h).2;simp [Zas, this]
 ·rw [hk _ (by omega), h3 b hb]
end Go.M
namespace Go.M
open Go.Proofs Go.RowKit Go.Shelf
attribute [local go_sem] Oper.semAt_some
theorem Zd9 {F : Fence} {n : Nat} {P : Program} {fn : Func} {tmps : Array Value} {R : Ending → World → Prop} : ∀ (ds : List Nat) (W : World), (∀ D ∈ ds, W.heap[D]? = some (.deferred (some []))) → ds.Nodup →
 (∀ W', Upd (fun b => b ∈ ds) W W' → LeavesInM F n P fn tmps R [] .returning W') → LeavesInM F n P fn tmps R (ds.map fun D => { target := .collected D, args := #[] }) .returning W
 | [], W, _, _, h => h W (Upd.refl _ _)
 | D :: ds, W, hD, hn, h => by
  have hk := hD D (List.mem_cons_self ..);obtain ⟨n1, n2⟩ := List.nodup_cons.1 hn;refine ⟨by simp, .inl ⟨D, _, rfl, run_takeDeferred hk, ?_⟩⟩
  have U : Upd (fun b => b ∈ D :: ds) W (W.putObj D (.deferred none)) := (Upd.refl _ W).grown (grownBy_putObj' _ D _) (fun k e => by cases e; exact .inl (List.mem_cons_self ..))
  refine Zd9 ds _ (fun D' hD' => ?_) n2 (fun W' U' => h W' (U.trans (U'.mono (fun b _ hb => List.mem_cons_of_mem _ hb))))
  rw [World.putObj_heap_other (fun e => n1 (by rw [← e]; exact hD'))]
  exact hD D' (List.mem_cons_of_mem _ hD')
theorem ZnJ (l Bs : Nat) (W : World) (hBs : W.cell? ⟨Bs, 0, none⟩ = some (.slice none 0 0)) :
 Calls Tryz.prog 108 #[.func (.yield l) #[] #[], .pointer (some ⟨Bs, 0, none⟩)] W fun e W' => (∃ v, e = .returned v) ∧ Old W W' := by
 go_enter Tryz.func108, Tryz.ntmps108
 go_wp2
 go_loopw [7] (fun i wr => i = .int .i64 0 ∧ Old W wr) (fun i _ => 0)
 case atStart => exact ⟨rfl, (by first | exact Upd.refl _ _ | exact (Upd.refl _ _).alloc _)⟩
 case round =>
  obtain ⟨rfl, hU⟩ := hrel;go_wp2
  go_end0
  exact ⟨⟨_, rfl⟩, hU⟩
theorem ZnK {w : World} {X S i m c l PX PS : Nat} (him : i < m) (hPX : w.cell? ⟨PX, 0, none⟩ = some (.pointer (some ⟨X, 0, none⟩))) (hPS : w.cell? ⟨PS, 0, none⟩ = some (.int .i64 ((i : Nat) : Int)))
 (hX1 : w.cell? ⟨X, 1, none⟩ = some (.slice (some ⟨S, 0, none⟩) m c)) (hS : w.cell? ⟨S, i, none⟩ = some (.slice none 0 0)) :
 Calls Tryz.prog 52 #[.func (.yield l) #[] #[], .pointer (some ⟨PX, 0, none⟩), .pointer (some ⟨PS, 0, none⟩)] w fun e W' => (∃ v, e = .returned v) ∧ Old w W' := by
 have g1 : ¬ ((i : Int) < 0) := by omega
 have g2 : (i : Int) < (m : Int) := by omega
 have g3 : ¬ ((m : Int) ≤ (i : Int)) := by omega
 have g4 : 0 < m := by omega
 have HV : Hid (∀ W1 : World, W1.cell? ⟨w.heap.size, 0, none⟩ = some (.slice none 0 0) → Calls Tryz.prog 108 #[.func (.yield l) #[] #[], .pointer (some ⟨w.heap.size, 0, none⟩)] W1 fun e V => (∃ v, e = .returned v) ∧ Old W1 V) := fun W1 hb => ZnJ l w.heap.size W1 hb
 have HVI := Lib.hid (fun w : World => values_in (w := w) (v := .slice none 0 0) ⟨_, _, _, rfl⟩)
 go_enter Tryz.func52, Tryz.ntmps52
 go_wp2_with (first | go_in)
 ·have HB : ((w.alloc (.cells #[.slice none 0 0] 105)).drew).cell? ⟨w.heap.size, 0, none⟩ = some (.slice none 0 0) := by simp
  go_region_with (first | (go_at_call 54; refine (HVI.out _).mono ?_; rintro e w1 ⟨rfl, rfl⟩) | (go_at_call 108; refine (HV.out ((w.alloc (.cells #[.slice none 0 0] 105)).drew) HB).mono ?_; rintro e w2 ⟨⟨v, rfl⟩, hC⟩))
  all_goals
   go_end0
   exact ⟨⟨_, rfl⟩, Upd.trans (((Upd.refl _ _).alloc _).drew) hC⟩
def SnG (PX PS X S i m c : Nat) (V : World) : Prop := V.cell? ⟨PX, 0, none⟩ = some (.pointer (some ⟨X, 0, none⟩)) ∧ V.cell? ⟨PS, 0, none⟩ = some (.int .i64 ((i : Nat) : Int)) ∧ V.cell? ⟨X, 1, none⟩ = some (.slice (some ⟨S, 0, none⟩) m c) ∧ V.cell? ⟨S, i, none⟩ = some (.slice none 0 0)
theorem Zmj {w : World} (nf : Nat) {PX PS X S i m c : Nat} (him : i < m) :
 ZpY Fence.wide nf Tryz.prog 52 #[.pointer (some ⟨PX, 0, none⟩), .pointer (some ⟨PS, 0, none⟩)] (fun x : Ent => #[x.val]) (fun _ V => SnG PX PS X S i m c V) (fun _ _ => False) (fun xs => xs = []) w := by
 intro l J Jx W hW hJ hJx hG hY h0;obtain ⟨h1, h2, h3, h4⟩ := hG [] W h0;refine callsIn_wide.2 ((ZnK (l := l) him h1 h2 h3 h4).mono ?_);rintro e V ⟨hv, hU⟩;exact ⟨hv, .inl ⟨[], rfl, hJ [] W V none h0 (ZbP hU) (fun r e => by cases e)⟩⟩
theorem Zky {α : Type} {F : Fence} {n : Nat} {P : Program} {g : Operand} {ps : Array Tmp} {body : Code} {Q : Exit → Act → World → Prop} {a : Act} {w : World} (hro : F.round = none) (h1 : 1 ≤ n) {gf : Nat} {lb : Array Value}
 (hg : a.eval g = .func (.func gf) #[] lb) (hF : F.fn gf) (eg : ∀ args w, (callFunc gf args).run P w = .ok (.enter gf args) w) {encs : α → Array Value} (hps : ∀ x, (encs x).size = ps.size)
 {G : List α → World → Prop} (hseq : ZpY F (n - 1) P gf lb encs G (fun _ _ => False) (fun xs => xs = []) w) (hG : ∀ V, Old w V → G [] V)
 (hdone : ∀ (D : Nat) (V : World), w.heap.size ≤ D → Old w V → V.heap[D]? = some (.deferred (some [])) → Q .normal { a with defers := { target := .collected D, args := #[] } :: a.defers } V) :
 (Code.rangeFunc g ps .skip body).wpIn F n P Q a w :=
 ZcD hro h1 hg hF eg hps hseq (fun pre V => pre = [] ∧ Old w V) (fun _ _ => False) (fun pre A B row hs hg hr => ⟨hs.1, hs.2.grown hg (fun k e => .inr (hr k e).1)⟩) (fun _ _ _ _ _ h _ _ => h) ⟨rfl, Upd.refl _ _⟩ (fun pre V h => by rw [h.1]; exact hG V h.2)
  (fun x => { tmps := (ps.zip (encs x)).foldl (fun t (p, v) => t.setIfInBounds p v) a.tmps, defers := [] }) (fun l x V K hK => wpIn_skip hK) (fun _ _ _ _ _ _ h => h.elim) (fun D xs V hD _ hI hk => hdone D V hD hI.2 hk) (fun _ _ _ _ h _ => h.elim)
end Go.M
namespace Go.M
open Go.Proofs Go.RowKit
structure Kpt (w w' : World) : Prop where
 heap : ∀ b, b < w.heap.size → w'.heap[b]? = w.heap[b]?
 os : w'.os = w.os
 out : w'.output = w.output
theorem Kpt.cell {w w' : World} (h : Kpt w w') {a : Addr} {v : Value} (hc : w.cell? a = some v) : w'.cell? a = some v := by
 have hl := World.block_lt_of_cell? w a hc;unfold World.cell? at *
 rw [h.heap a.block hl];exact hc
theorem Upd.kpt {w w1 w2 : World} (h : Old w w1) (k : Kpt w1 w2) : Kpt w w2 :=
 ⟨fun b hb => (k.heap b (Nat.lt_of_lt_of_le hb h.size)).trans (h.keep b hb (fun x => x)), k.os.trans h.os, k.out.trans h.out⟩
theorem Kpt.kept {w w' : World} (h : Kpt w w') (may : MemPlace → Prop) : w.keptBut w' may := by
 refine ⟨h.os, h.out, fun i hi => ?_⟩
 rw [h.heap i hi];cases w.heap[i]? with
 | none => rfl
 | some o => cases o <;> simp
theorem Kpt.of {w w' : World} (h : ∀ B, B < w.heap.size → w'.heap[B]? = w.heap[B]?) (k : ∀ may, w.keptBut w' may) : Kpt w w' := ⟨h, (k fun _ => False).1, (k fun _ => False).2.1⟩
set_option linter.unusedSimpArgs false
theorem Zjy : ∀ (bs : List UInt8) (r : ByteArray), (bs.map fun b => ((b.toNat : Nat) : Int)).foldl (fun r n => r.push (UInt8.ofNat n.toNat)) r = ⟨r.data ++ bs.toArray⟩
 | [], r => by simp
 | b :: bs, r => by
  simp only [List.map_cons, List.foldl_cons];rw [Zjy bs];simp [ByteArray.push]
theorem Zmk {w : World} {a : Option Addr} {n c : Nat} {bs : List UInt8} (h : BytesAt w (.slice a n c) bs) : (convert 41 9 (.slice a n c)).run Tryz.prog w = .ok (.string ⟨bs.toArray⟩) w := by
 rw [run_convert_bytes_string _ _ _ 5 _ _ _ Tryz.underlying41 Tryz.underlying5 Tryz.underlying9];rcases h with ⟨h, rfl⟩ | ⟨ad, c', h, hc⟩
 ·cases h;rfl
 ·cases h;have hl := run_loadCells_list (P := Tryz.prog) w ad (bs.map Zav) hc;rw [List.length_map] at hl;have e : bs.map Zav = (bs.map fun b => ((b.toNat : Nat) : Int)).map (Value.int .u8) := by simp [Zav, Function.comp_def]
  rw [e] at hl;rw [run_bytesToString _ _ _ _ _ hl, Zjy];simp
theorem Zml : (Tryz.prog.info? 9).map (fun i => (i.zero, i.size, i.bytes)) = some (some (.string ⟨#[]⟩), 1, 16) := by kernel_rfl
def ZhE (s : DevS) (k : Nat) : List Value := (List.range k).map fun j => .string ⟨(s.img j).bs.toArray⟩
theorem Zmm (s : DevS) (k : Nat) : Zhx s (k + 1) = Zhx s k + (if Zas s k then 1 else 0) := by
 unfold Zhx;rw [List.range_succ, List.filter_append, List.length_append];simp [List.filter];cases Zas s k <;> rfl
theorem Zkz (s : DevS) (k : Nat) : ZhE s (k + 1) = ZhE s k ++ [.string ⟨(s.img k).bs.toArray⟩] := by
 simp [ZhE, List.range_succ]
end Go.M
namespace Go.M
open Go.Proofs Go.RowKit Go.Shelf
set_option linter.unusedSimpArgs false
def erA (ff mm H PP k : Nat) (f : Nat → Value) (ds : List Nat) : Act := { tmps := #[f 0, .int .u8 ((ff : Nat) : Int), .int .u8 ((mm : Nat) : Int), f 3, f 4, f 5, .pointer (some ⟨H, 0, none⟩), .pointer (some ⟨PP, 0, none⟩), f 8, f 9, f 10, f 11, f 12, f 13, f 14, f 15, .int .i64 ((k : Nat) : Int), f 17, f 18, f 19, f 20, f 21, f 22, f 23, f 24, f 25, f 26, f 27, f 28, f 29, f 30, f 31, f 32, f 33, f 34, f 35, f 36, f 37, f 38, f 39, f 40, f 41, f 42, f 43, f 44, f 45, f 46, f 47, f 48, f 49, f 50, f 51, f 52, f 53, f 54, f 55, f 56, f 57, f 58, f 59, f 60, f 61, f 62, f 63, f 64, f 65, f 66, f 67, f 68, f 69, f 70, f 71, f 72, f 73, f 74, f 75, f 76, f 77, f 78, f 79, f 80, f 81, f 82, f 83, f 84, f 85, f 86, f 87, f 88, f 89, f 90, f 91, f 92, f 93, f 94, f 95, f 96, f 97, f 98, f 99, f 100, f 101, f 102, f 103, f 104, f 105, f 106, f 107, f 108, f 109, f 110, f 111, f 112, f 113, f 114, f 115, f 116, f 117, f 118, f 119, f 120, f 121, f 122, f 123, f 124, f 125, f 126, f 127, f 128, f 129, f 130, f 131, f 132, f 133, f 134, f 135, f 136, f 137, f 138, f 139, f 140, f 141, f 142, f 143, f 144, f 145, f 146, f 147, f 148, f 149, f 150, f 151, f 152, f 153, f 154, f 155, f 156, f 157, f 158, f 159, f 160, f 161, f 162, f 163, f 164, f 165, f 166, f 167, f 168, f 169, f 170, f 171, f 172, f 173, f 174, f 175, f 176, f 177, f 178, f 179, f 180, f 181, f 182, f 183, f 184, f 185, f 186, f 187, f 188, f 189, f 190, f 191, f 192, f 193, f 194, f 195, f 196, f 197, f 198, f 199, f 200, f 201, f 202, f 203, f 204, f 205, f 206, f 207, f 208, f 209, f 210, f 211, f 212, f 213, f 214, f 215, f 216, f 217, f 218, f 219, f 220, f 221, f 222, f 223, f 224, f 225, f 226, f 227, f 228, f 229, f 230, f 231, f 232, f 233, f 234, f 235, f 236, f 237, f 238, f 239, f 240, f 241, f 242, f 243, f 244, f 245, f 246, f 247, f 248, f 249, f 250, f 251, f 252, f 253, f 254, f 255, f 256, f 257, f 258, f 259, f 260, f 261, f 262, f 263, f 264, f 265, f 266, f 267, f 268, f 269, f 270, f 271, f 272, f 273, f 274, f 275, f 276, f 277, f 278, f 279, f 280, f 281, f 282, f 283, f 284, f 285, f 286, f 287, f 288, f 289, f 290, f 291, f 292, f 293, f 294, f 295, f 296, f 297, f 298, f 299, f 300, f 301, f 302, f 303, f 304, f 305, f 306, f 307, f 308, f 309, f 310, f 311, f 312, f 313, f 314, f 315], defers := ds.map fun D => { target := .collected D, args := #[] } }
theorem Zoy {a : Act} {ff mm H PP k : Nat} {ds : List Nat} (h : a = erA ff mm H PP k (fun i => a.tmps.getD i undef) ds) : ∃ f, a = erA ff mm H PP k f ds := ⟨_, h⟩
structure ErK (w : World) (col : Col) (ds : List Nat) (wr : World) : Prop where
 u : Old w wr
 h6 : Has wr (w.heap.size + 1) 4 #[.bool false]
 nd : ds.Nodup
 dm : ∀ D' ∈ ds, w.heap.size + 2 ≤ D' ∧ wr.heap[D']? = some (.deferred (some []))
 cw : ∀ b, b < w.heap.size + 2 → (col b).1 = 0
 cd : ∀ D' ∈ ds, (col D').1 = 0
theorem ErK.ef {w wr wr' : World} {col col' : Col} {ds : List Nat} (h : ErK w col ds wr) (U : Upd (EF col) wr wr') (hk : Kept wr col col') : ErK w col' ds wr' := by
 have n0 : ∀ b, (col b).1 = 0 → ¬ EF col b := fun b hb h => by unfold EF at h; omega
 have l6 := h.h6.lt;refine ⟨h.u.after U (fun b hb hf => (n0 b (h.cw b (by omega)) hf).elim), U.has h.h6 (n0 _ (h.cw _ (by omega))), h.nd, fun D' hD => ⟨(h.dm D' hD).1, ?_⟩, fun b hb => by rw [hk b (by omega), h.cw b hb], fun D' hD => ?_⟩
 ·have e := (h.dm D' hD).2;exact (U.keep D' (Array.getElem?_eq_some_iff.1 e).1 (n0 _ (h.cd D' hD))).trans e
 ·rw [hk D' (Array.getElem?_eq_some_iff.1 (h.dm D' hD).2).1, h.cd D' hD]
theorem ErK.old {w wr wr' : World} {col : Col} {ds : List Nat} (h : ErK w col ds wr) (U : Old wr wr') : ErK w col ds wr' := h.ef (U.mono (fun _ _ x => x.elim)) (Kept.refl _ _)
def ErR (w : World) (PP D B X n k : Nat) (ds : List Nat) (wr : World) : Prop := k ≤ 4 ∧ ∃ col s fr st M x, EIn wr col PP D B X n s fr st M x ∧ EOk n s st x (600 + 10 * k) ∧ ErK w col ds wr
theorem Kpt.has {w w' : World} {b : Nat} {t : TypeId} {c : Array Value} (k : Kpt w w') (h : Has w b t c) : Has w' b t c := (k.heap b h.lt).trans h
theorem Kpt.same {w w' : World} {b : Nat} {o : Obj} (k : Kpt w w') (h : w.heap[b]? = some o) : w'.heap[b]? = some o := (k.heap b (Array.getElem?_eq_some_iff.1 h).1).trans h
theorem Zpv {w wr w2 W' : World} {ds : List Nat} {v : Value} (h : Old w wr) (k : Kpt wr w2) (hd : ∀ D ∈ ds, w.heap.size + 2 ≤ D) (U : Upd (fun b => b ∈ ds) (w2.setCell ⟨w.heap.size + 1, 0, none⟩ v) W') : Kpt w W' := by
 have k2 := Upd.kpt h k;refine ⟨fun b hb => ?_, ?_, ?_⟩
 ·have e1 := k2.heap b hb;have l1 : b < w2.heap.size := by
   rw [Array.getElem?_eq_getElem hb] at e1;exact (Array.getElem?_eq_some_iff.1 e1).1
  rw [U.keep b (by simpa using l1) (fun hm => by have := hd b hm; omega), ← e1]
  have : w.heap.size + 1 ≠ b := by omega
  simp [World.setCell, Array.getElem?_modify, this]
 ·exact U.os.trans k2.os
 ·exact U.out.trans k2.out
theorem ZnL {wr w5 : World} {col col' : Col} {PP D B X n sl fr u : Nat} {s s' : DevS} {st st' : Nat → Nat} {M : ByteArray → List Ent} {x x' : IdxS} {L : List (ByteArray × Nat)} (hE : EIn wr col PP D B X n s fr st M x) (hsn : sl < n) (hrd : Zku M x.es sl = true) (hE' : EIn w5 col' PP D B X n s' (fr + 1) st' (leftOf M (x.es sl)) x') (hD : ErD n sl s s') (hL : ZfK (Zb3 x.key x.kz x.mn) = L) (hu : Zhx s n = u) :
 (∀ W, Old w5 W → Calls Tryz.prog 6 #[.pointer (some ⟨D, 0, none⟩)] W fun e w' => e = .returned (.int .i64 (s.ops + (u : Int) + 1)) ∧ W = w') ∧
 (∀ W, Old w5 W → Calls Tryz.prog 18 #[.pointer (some ⟨B, 0, none⟩)] W fun e w' => e = .returned (.int .i64 ((fr : Int) + 1)) ∧ W = w') ∧
 (∀ W, Old w5 W → Calls Tryz.prog 17 #[.pointer (some ⟨X, 0, none⟩)] W (Zcf W 113 2 L.length (Zcq L))) ∧
 ∀ W, Old w5 W → W.cell? ⟨PP, 7, none⟩ = some (.pointer (some ⟨D, 0, none⟩)) ∧ W.cell? ⟨PP, 8, none⟩ = some (.pointer (some ⟨B, 0, none⟩)) ∧ W.cell? ⟨PP, 9, none⟩ = some (.pointer (some ⟨X, 0, none⟩)) := by
 refine ⟨fun W U => ?_, fun W U => ?_, fun W U => ?_, fun W U => ?_⟩
 ·have := (hE'.old U).ops;rwa [hD.ops, hu] at this
 ·have := (hE'.old U).tab.free;rwa [show ((fr + 1 : Nat) : Int) = (fr : Int) + 1 by simp] at this
 ·have := (hE'.old U).live;rwa [Zmi hE.idx.kv hE'.idx.kv (Zmh hE.idx.con hsn hrd), hL] at this
 ·have h := hE'.old U;exact ⟨h.c7, h.c8, h.c9⟩
theorem Zpw {w w8 V : World} {col : Col} {PP D B X n k sl fr Dm : Nat} {s s' : DevS} {st : Nat → Nat} {M' : ByteArray → List Ent} {x x' : IdxS} {ds : List Nat} (hK : ErK w col ds w8) (hE : EIn w8 col PP D B X n s' (fr + 1) (fun k => if k = sl then 0 else st k) M' x') (hD : ErD n sl s s') (hx : x'.es = Zcp x.es sl)
 (ok : EOk n s st x (600 + 10 * k)) (hk : k < 4) (U : Old w8 V) (hDm : w8.heap.size ≤ Dm) (hKD : V.heap[Dm]? = some (.deferred (some []))) : ErR w PP D B X n (k + 1) (Dm :: ds) V := by
 have hcl := Ze2 s n;have h9 := hE.n9;have o0 := ok.o0;have o1 := ok.o1;have l6 := hK.h6.lt;have k' := hK.old U;refine ⟨by omega, col, s', fr + 1, _, M', x', hE.old U, ⟨fun i hi h => ?_, fun i hi h => ?_, by rw [hD.ops]; omega, by rw [hD.ops]; omega⟩, ⟨k'.u, k'.h6, List.nodup_cons.2 ⟨fun hm => ?_, k'.nd⟩, fun D' hD' => ?_, k'.cw, fun D' hD' => ?_⟩⟩
 ·by_cases e : i = sl
  ·simp [e] at h
  ·simp only [if_neg e] at h;rw [hx];simp only [Zcp, if_neg e];exact ok.ne i hi h
 ·simp [Zas, hD.dur i hi]
 ·have := (Array.getElem?_eq_some_iff.1 (hK.dm Dm hm).2).1;omega
 ·rcases List.mem_cons.1 hD' with rfl | h
  ·exact ⟨by omega, hKD⟩
  ·exact k'.dm D' h
 ·rcases List.mem_cons.1 hD' with rfl | h
  ·exact hE.new _ hDm
  ·exact k'.cd D' h
theorem Zjz {w wr w2 : World} {col : Col} {ds : List Nat} {tmps : Array Value} (h : ErK w col ds wr) (hk : Kpt wr w2) (ht : tmps[6]? = some (.pointer (some ⟨w.heap.size + 1, 0, none⟩))) :
 LeavesInM Fence.wide 8 Tryz.prog Tryz.f4 tmps (fun e w' => e = .returned (.bool true) ∧ Kpt w w') (ds.map fun D => { target := .collected D, args := #[] }) .returning (w2.setCell ⟨w.heap.size + 1, 0, none⟩ (.bool true)) := by
 have c6 := (hk.has h.h6).set 0 (.bool true);refine Zd9 ds _ (fun D' hD => ?_) h.nd (fun W' U => ?_)
 ·have e := hk.same (h.dm D' hD).2;have hne := (h.dm D' hD).1;have l := (Array.getElem?_eq_some_iff.1 e).1;rw [← e];have : w.heap.size + 1 ≠ D' := by omega
  simp [World.setCell, Array.getElem?_modify, this]
 ·have c7 : Has W' (w.heap.size + 1) _ _ := U.has c6 (fun hm => by have := (h.dm _ hm).1; omega)
  have c8 : W'.cell? ⟨w.heap.size + 1, 0, none⟩ = some (.bool true) := by rw [c7.cell]; rfl
  have ht' : tmps[6]?.getD undef = .pointer (some ⟨w.heap.size + 1, 0, none⟩) := by rw [ht]; rfl
  exact ⟨.bool true, by simp [results, Tryz.f4, ht', go_sem, c8], rfl, Zpv h.u hk (fun D hD => (h.dm D hD).1) U⟩
end Go.M
