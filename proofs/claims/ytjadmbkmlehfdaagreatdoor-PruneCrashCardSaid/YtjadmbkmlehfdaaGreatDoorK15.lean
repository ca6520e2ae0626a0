/- Walks 15. -/
import Derived.Test.YtjadmbkmlehfdaaGreatDoorProg
import Derived.Test.YtjadmbkmlehfdaaGreatDoorK12
import Derived.Test.YtjadmbkmlehfdaaGreatDoorK13
import Derived.Test.YtjadmbkmlehfdaaGreatDoorK14
import Derived.RegionCalls
set_option linter.unusedVariables false
set_option linter.unusedSimpArgs false
set_option maxRecDepth 100000
namespace Go.M
open Go.Proofs Go.RowKit Go.Shelf
structure Cf where
 n : Nat
 size : Nat
 reserve : Nat
 value : Nat
 c3 : Int
 c4 : Int
 c6 : Int
def Cf.cells (k : Cf) : List Value := [.int .i64 ((k.n : Nat) : Int), .int .i64 ((k.size : Nat) : Int), .int .i64 ((k.reserve : Nat) : Int), .int .i64 k.c3, .int .i64 k.c4, .int .i64 ((k.value : Nat) : Int), .int .i64 k.c6]
structure PIn (w : World) (col : Col) (PP D B X : Nat) (k : Cf) (next used iu : Nat) (act : Bool) (lens : Nat → Nat) (ops : Nat) : Prop where
 p : ∃ t, Has w PP t #[.int .i64 ((k.n : Nat) : Int), .int .i64 ((k.size : Nat) : Int), .int .i64 ((k.reserve : Nat) : Int), .int .i64 k.c3, .int .i64 k.c4, .int .i64 ((k.value : Nat) : Int), .int .i64 k.c6, .pointer (some ⟨D, 0, none⟩), .pointer (some ⟨B, 0, none⟩), .pointer (some ⟨X, 0, none⟩), .int .i64 ((next : Nat) : Int)]
 cP : col PP = (4, 0)
 dev : DevU w col 1 D k.n k.size lens (fun i => act = true → i ≠ used - 1) ops
 tab : TabU w col 2 B k.n k.reserve used act
 idx : IdxAt w col 3 X k.n next iu lens (18 + k.value)
 db : DbAt w
 se : SealAt w
 cd : (col 3).1 = 0
 cs : (col 1).1 = 0
 n4 : 4 ≤ k.n
 n9 : k.n ≤ 9
 z1 : 34 + k.value ≤ k.size
 z2 : k.size ≤ 8192
 vv : k.value ≤ 512
 zero : ∀ i, used ≤ i → i < k.n → lens i = 0
 fits : ∀ i, i < k.n → lens i ≤ k.size
 actv : act = true → 0 < used ∧ lens (used - 1) + 16 ≤ k.size
 un : used ≤ k.n
 nx : 1 ≤ next
def FootRel (k last N next : Nat) : Prop := k ≤ N ∧ last < next ∧ (k = 0 ↔ last = 0)
theorem pslot_at {w : World} {col : Col} {PP D B X i : Nat} {k : Cf} {next used iu : Nat} {act : Bool} {lens : Nat → Nat} {ops : Nat} (h : PIn w col PP D B X k next used iu act lens ops) (hi : i < k.n) :
 ∃ es : List Ent, es.length < next ∧ (i < iu → es ≠ []) ∧ (∀ x ∈ es, 1 ≤ x.seq ∧ x.seq < next) ∧ ∀ w', Old w w' → Calls Tryz.prog 49 #[.pointer (some ⟨PP, 0, none⟩), .int .i64 ((i : Nat) : Int)] w' (NewRow w' 47 6 es.length (rowOf es)) := by
 obtain ⟨s, hs⟩ := h.idx
 obtain ⟨tX, fX⟩ := hs.fX
 obtain ⟨tP, fP⟩ := h.p
 refine ⟨s.es i, hs.len i hi, hs.ne i hi, fun x hx => ⟨(hs.ent i hi x hx).1, (hs.ent i hi x hx).2.1⟩, fun w' U => ?_⟩
 refine pslot (X := X) (S := s.S) (m := k.n) (c := s.c) (O := .int .i64 0) (Old.cellOf' U (by have := fP.cell 9; simpa using this)) (Old.cellOf' U (by have := fX.cell 1; simpa using this)) (Old.cellOf' U (by rw [hs.fS.cell]; exact hs.fs i hi)) hi (by have := h.n9; omega) (Upd.own U (hs.own i hi) (fun _ _ x => x)) (by have := hs.len i hi; have := hs.few; omega)
theorem PIn.old {w w' : World} {col col' : Col} {PP D B X : Nat} {k : Cf} {next used iu : Nat} {act : Bool} {lens : Nat → Nat} {ops : Nat} (h : PIn w col PP D B X k next used iu act lens ops) (U : Old w w') (hc : Kept w col col')
 (h1 : 3 < w.heap.size) (h2 : 1 < w.heap.size) : PIn w' col' PP D B X k next used iu act lens ops := by
 obtain ⟨⟨t, p⟩, cP, dev, tab, idx, db, se, cd, cs, n4, n9, z1, z2, vv, zero, fits, actv, un, nx⟩ := h
 exact ⟨⟨t, U.has p⟩, by rw [hc _ p.lt, cP], dev.other U (fun b h => h.elim) hc, tab.other U (fun b h => h.elim) hc, idx.other U (fun b h => h.elim) hc, db.upd U (fun x => x), se.upd U (fun x => x), by rw [hc _ h1, cd], by rw [hc _ h2, cs], n4, n9, z1, z2, vv, zero, fits, actv, un, nx⟩
theorem PIn.lts {w : World} {col : Col} {PP D B X : Nat} {k : Cf} {next used iu : Nat} {act : Bool} {lens : Nat → Nat} {ops : Nat} (h : PIn w col PP D B X k next used iu act lens ops) : 3 < w.heap.size ∧ 1 < w.heap.size :=
 ⟨World.block_lt_of_cell? w _ (h.db 0 (by omega)), World.block_lt_of_cell? w _ h.se.1⟩
def trim (w : World) (col : Col) : Col := fun b => if b < w.heap.size then col b else (0, 0)
theorem trim_kept (w : World) (col : Col) : Kept w col (trim w col) := fun b hb => by unfold trim; rw [if_pos hb]
theorem trim_new {w : World} {col : Col} {b : Nat} (h : w.heap.size ≤ b) : trim w col b = (0, 0) := by unfold trim; rw [if_neg (by omega)]
def Cl1 (w : World) (col : Col) (D n size : Nat) (lens : Nat → Nat) (i ops : Nat) (e : Ending) (w' : World) : Prop := e = .returned (.int .i64 0) ∧ ∃ col', DevU w' col' 1 D n size (fun k => if k = i then lens i + 16 else lens k) (fun k => k ≠ i) (ops + 1) ∧ Upd (fun b => (col b).1 = 1) w w' ∧ Kept w col col'
theorem pclose {w : World} {col : Col} {PP D B X : Nat} {k : Cf} {next used : Nat} {lens : Nat → Nat} {ops : Nat} (h : PIn w col PP D B X k next used used true lens ops) (ho : ops < 900000) :
 Calls Tryz.prog 101 #[.pointer (some ⟨PP, 0, none⟩), .int .i64 ((used - 1 : Nat) : Int)] w fun e w' => e = .returned (.bool true) ∧ ∃ col' lens', PIn w' col' PP D B X k next used used false lens' (ops + 2) ∧ Upd (fun b => 1 ≤ (col b).1 ∧ (col b).1 ≤ 3) w w' ∧ Kept w col col' := by
 obtain ⟨hu, hlen⟩ := h.actv rfl
 have hun := h.un
 obtain ⟨es, e1, e2, e3, e4⟩ := pslot_at h (i := used - 1) (by omega)
 have HS := Lib.hid e4
 have HQ := Lib.hid e3
 have hes : 0 < es.length := List.length_pos_iff.2 (e2 (by omega))
 obtain ⟨tP, fP⟩ := h.p
 have p7 : w.cell? ⟨PP, 7, none⟩ = some (.pointer (some ⟨D, 0, none⟩)) := fP.cell 7
 have p8 : w.cell? ⟨PP, 8, none⟩ = some (.pointer (some ⟨B, 0, none⟩)) := fP.cell 8
 have HH := Lib.hid h
 have hne : next ≤ 100 := by obtain ⟨s, hs⟩ := h.idx; exact hs.few
 clear h e2 e3 e4 fP
 have hPl := World.block_lt_of_cell? w _ p7
 simp only at hPl
 go_enter Tryz.func101, Tryz.ntmps101
 go_wp2_with (first | (go_at_call 49; refine (HS.out _ ((Upd.refl _ w).alloc _)).mono ?_; rintro e5 w1 ⟨v1, rfl, hown, hO, hfr⟩; have hF1 := Lib.hid (Old.has hO (Has.new w _ _)); have hP1 := Lib.hid (((Upd.refl _ w).alloc _).trans hO); obtain ⟨g, gc, rfl⟩ := own_block hown hes; have hg : w.heap.size < g := (by have := hfr g rfl; simp at this; omega); have HW1 := Lib.hid hown; clear hown hO hfr HS))
 go_loopw [14] (fun i wr => ∃ kk last : Nat, FootRel kk last es.length next ∧ i = .int .i64 kk ∧ Has wr w.heap.size 248 #[.int .i64 ((kk : Nat) : Int), .int .i64 ((last : Nat) : Int)] ∧ Upd (fun b => b = w.heap.size) w1 wr) (fun i _ => es.length - (intOf i).toNat)
 case atStart => exact ⟨0, 0, ⟨Nat.zero_le _, by omega, by simp⟩, rfl, hF1.out, Upd.refl _ _⟩
 case round =>
  obtain ⟨kk, last, ⟨r1, r2, r3⟩, rfl, hF, hU⟩ := hrel
  by_cases hlt : kk < es.length
  ·obtain ⟨x, hx⟩ : ∃ x, es[kk]? = some x := ⟨es[kk]'(by omega), List.getElem?_eq_getElem _⟩
   have hE : ∀ j u, x.cells[j]? = some u → wr.cell? ⟨g, kk * 6 + j, none⟩ = some u := fun j u hj => by
    have := HW1.out.cells (g := g) rfl _ _ (rowOf_cell hx hj)
    rw [show (⟨g, 0, none⟩ : Addr).add (kk * 6 + j) = ⟨g, kk * 6 + j, none⟩ from by unfold Addr.add; split <;> simp_all] at this
    exact hU.cellOf this (by omega)
   have c0 : wr.cell? ⟨g, kk * 6, none⟩ = some (.int .i64 ((x.seq : Nat) : Int)) := hE 0 _ rfl
   have c1 := hE 1 _ rfl
   have c2 := hE 2 _ rfl
   have c3 := hE 3 _ rfl
   have c4 := hE 4 _ rfl
   have c5 := hE 5 _ rfl
   obtain ⟨s1, s2⟩ := HQ.out x (List.mem_of_getElem? hx)
   have f0 : wr.cell? ⟨w.heap.size, 0, none⟩ = some (.int .i64 ((kk : Nat) : Int)) := hF.cell 0
   have f1 : wr.cell? ⟨w.heap.size, 1, none⟩ = some (.int .i64 ((last : Nat) : Int)) := hF.cell 1
   have f2 := hF.frozen 0
   have f3 := hF.frozen 1
   have hfl := hF.lt
   have HF := Lib.hid hF
   have HU := Lib.hid hU
   clear hE hF hU
   go_wp2
   go_region
   go_wp2
   go_roundw
   case rel =>
    refine ⟨kk + 1, if last < x.seq then x.seq else last, ⟨by omega, by split <;> omega, by split <;> omega⟩, by go_num, ?_, ?_⟩
    ·have h1 := ((HF.out.set 0 (.int .i64 ((kk + 1 : Nat) : Int))).set 1 (.int .i64 ((if last < x.seq then x.seq else last : Nat) : Int))).alloc (.cells #[.int .i64 ((x.seq : Nat) : Int), .string x.key, .bool x.del, .int .i64 ((x.slot : Nat) : Int), .int .i64 ((x.off : Nat) : Int), .int .i64 ((x.size : Nat) : Int)] 47)
     have h2 := h1.drew
     have e : ((if last < x.seq then x.seq else last : Nat) : Int) = if last < x.seq then (x.seq : Int) else (last : Int) := by split <;> rfl
     rw [e] at h2 ⊢
     exact h2
    ·exact (((HU.out.setCell _ _ (.inl rfl)).setCell _ _ (.inl rfl)).alloc _).drew
   case measure => simp [intOf]; omega
  ·obtain rfl : kk = es.length := by omega
   have f0 : wr.cell? ⟨w.heap.size, 0, none⟩ = some (.int .i64 ((es.length : Nat) : Int)) := hF.cell 0
   have f1 : wr.cell? ⟨w.heap.size, 1, none⟩ = some (.int .i64 ((last : Nat) : Int)) := hF.cell 1
   have O0r : Old w wr := hP1.out.after hU (fun b hb h => by omega)
   have HFE := Lib.hid (fencode (w := wr) (count := es.length) (last := last) (by omega) (by omega) r3)
   have hq0 := HH.out.lts
   have HKT := Lib.hid (trim_kept w col)
   have HA : Hid (∀ (w4 : World) (v : Value) (bs : List UInt8), Old w w4 → BytesAt w4 v bs → bs.length = 16 → (∀ ad n c, v = .slice (some ad) n c → w.heap.size ≤ ad.block) → Calls Tryz.prog 107 #[.pointer (some ⟨D, 0, none⟩), .int .i64 ((used - 1 : Nat) : Int), v] w4 (Cl1 w4 (trim w col) D k.n k.size lens (used - 1) ops)) := fun w4 v bs U hb hl hf => by
    have h4 := HH.out.old U HKT.out hq0.1 hq0.2
    have := h4.dev.append (i := used - 1) (by omega) (by omega) hb (by omega) (by omega) (fun ad n c e => by rw [trim_new (hf ad n c e)]; decide)
    rw [hl] at this
    exact this.mono fun e w' ⟨h1, c, h2, h3⟩ => ⟨h1, c, h2.mono (fun j _ hj => ⟨fun _ => hj, hj⟩), h3⟩
   have HKS : Hid (∀ (w5 : World) (col5 : Col), DevU w5 col5 1 D k.n k.size (fun j => if j = used - 1 then lens (used - 1) + 16 else lens j) (fun j => j ≠ used - 1) (ops + 1) → Calls Tryz.prog 108 #[.pointer (some ⟨D, 0, none⟩), .int .i64 ((used - 1 : Nat) : Int)] w5 fun e w' => e = .returned (.int .i64 0) ∧ DevU w' col5 1 D k.n k.size (fun j => if j = used - 1 then lens (used - 1) + 16 else lens j) (fun _ => True) (ops + 1 + 1) ∧ Upd (fun b => (col5 b).1 = 1) w5 w') := fun w5 col5 h => (h.sync (by omega) (by omega)).mono fun e w' ⟨h1, h2, h3⟩ => ⟨h1, h2.mono (fun j _ _ => (Classical.em (j = used - 1)).symm), h3⟩
   have HSE : Hid (∀ (w6 : World) (col6 : Col), SealAt w6 → TabU w6 col6 2 B k.n k.reserve used true → Calls Tryz.prog 109 #[.pointer (some ⟨B, 0, none⟩), .int .i64 ((used - 1 : Nat) : Int)] w6 fun e w' => e = .returned (.int .i64 0) ∧ TabU w' col6 2 B k.n k.reserve used false ∧ Upd (fun b => (col6 b).1 = 2) w6 w') := fun w6 col6 h1 h2 => h2.sealed h1 hu
   have HO0 := Lib.hid O0r
   have hPPt : trim w col PP = (4, 0) := by rw [HKT.out _ hPl, HH.out.cP]
   have hPP1 : ¬ (trim w col PP).1 = 1 := by rw [hPPt]; decide
   have hsg : (trim w col 1).1 = 0 := by rw [HKT.out _ hq0.2, HH.out.cs]
   have hdg : (trim w col 3).1 = 0 := by rw [HKT.out _ hq0.1, HH.out.cd]
   have cl8 : ∀ {w4 w5 w6 : World} {col5 : Col}, Old w w4 → Upd (fun b => (trim w col b).1 = 1) w4 w5 → Kept w4 (trim w col) col5 → Upd (fun b => (col5 b).1 = 1) w5 w6 → w6.cell? ⟨PP, 8, none⟩ = some (.pointer (some ⟨B, 0, none⟩)) := fun {w4 w5 w6 col5} o u5 k5 u6 => by
    refine u6.cellOf (u5.cellOf (Old.cellOf' o p8) hPP1) ?_
    have hl := o.size
    rw [k5 _ (by omega), hPPt]; decide
   have cl9 : ∀ {w4 w5 w6 : World} {col5 : Col}, Old w w4 → Upd (fun b => (trim w col b).1 = 1) w4 w5 → Kept w4 (trim w col) col5 → Upd (fun b => (col5 b).1 = 1) w5 w6 → SealAt w6 := fun {w4 w5 w6 col5} o u5 k5 u6 => by
    have hl := o.size
    refine ((HH.out.se.upd o (fun x => x)).upd u5 (by rw [hsg]; decide)).upd u6 ?_
    rw [k5 _ (by omega), hsg]; decide
   have cl10 : ∀ {w4 w5 w6 : World} {col5 : Col}, Old w w4 → Upd (fun b => (trim w col b).1 = 1) w4 w5 → Kept w4 (trim w col) col5 → Upd (fun b => (col5 b).1 = 1) w5 w6 → TabU w6 col5 2 B k.n k.reserve used true := fun {w4 w5 w6 col5} o u5 k5 u6 =>
    ((HH.out.tab.other o (fun b h => h.elim) HKT.out).other u5 (fun b h => by rw [h]; decide) k5).other u6 (fun b h => by rw [h]; decide) (Kept.refl _ _)
   have r7 : wr.cell? ⟨PP, 7, none⟩ = some (.pointer (some ⟨D, 0, none⟩)) := Old.cellOf' O0r p7
   clear O0r hF hU
   go_wp2_with (first | (go_at_call 176; refine HFE.out.mono ?_; rintro e4 w4 ⟨v4, bs, rfl, hb4, hl4, hU4, hfr4⟩; have O4 := HO0.out.trans hU4; have t7 : w4.cell? ⟨PP, 7, none⟩ = some (.pointer (some ⟨D, 0, none⟩)) := Old.cellOf' O4 p7; have HA4 := HA.out w4 v4 bs O4 hb4 hl4 (fun ad n c e => Nat.le_trans HO0.out.size (hfr4 ad n c e)); have HO4 := Lib.hid O4; clear O4 hU4 hfr4 hb4 r7) | (go_at_call 107; refine HA4.mono ?_; rintro e5 w5 ⟨rfl, col5, hd5, hU5, hk5⟩; have t7' : w5.cell? ⟨PP, 7, none⟩ = some (.pointer (some ⟨D, 0, none⟩)) := hU5.cellOf t7 hPP1; have HK5 := HKS.out w5 col5 hd5; have HU5 := Lib.hid hU5; have HK5' := Lib.hid hk5; clear hd5 hU5 hk5 HA4 HKS) | (go_at_call 108; refine HK5.mono ?_; rintro e6 w6 ⟨rfl, hd6, hU6⟩; have t8 : w6.cell? ⟨PP, 8, none⟩ = some (.pointer (some ⟨B, 0, none⟩)) := cl8 HO4.out HU5.out HK5'.out hU6; have HS6 := HSE.out w6 col5 (cl9 HO4.out HU5.out HK5'.out hU6) (cl10 HO4.out HU5.out HK5'.out hU6); have HD6 := Lib.hid hd6; have HU6 := Lib.hid hU6; clear hd6 hU6 HK5 HSE) | (go_at_call 109; refine HS6.mono ?_; rintro e7 w7 ⟨rfl, ht7, hU7⟩))
   go_ret
   have h4 := HH.out.old HO4.out HKT.out hq0.1 hq0.2
   have hl4 := HO4.out.size
   have hc5 : ∀ b, b < w.heap.size → col5 b = col b := fun b hb => by rw [HK5'.out b (by omega), HKT.out b hb]
   have u5 := HU5.out
   have u6 := HU6.out
   have hP5 : col5 PP = (4, 0) := by rw [hc5 _ hPl, HH.out.cP]
   have hs5 : (col5 1).1 = 0 := by rw [hc5 _ hq0.2, HH.out.cs]
   have hd5 : (col5 3).1 = 0 := by rw [hc5 _ hq0.1, HH.out.cd]
   refine ⟨rfl, col5, fun j => if j = used - 1 then lens (used - 1) + 16 else lens j, ⟨?_, hP5, (HD6.out.other hU7 (fun b h => by rw [h]; decide) (Kept.refl _ _)).mono (fun _ _ _ => trivial), ht7, ?_, ?_, ?_, hd5, hs5, h4.n4, h4.n9, h4.z1, h4.z2, h4.vv, fun i h1 h2 => ?_, fun i hi => ?_, fun h => (by cases h), h4.un, h4.nx⟩, ?_, fun b hb => hc5 b hb⟩
   ·obtain ⟨t, hp⟩ := h4.p
    exact ⟨t, hU7.has (u6.has (u5.has hp hPP1) (by rw [hP5]; decide)) (by rw [hP5]; decide)⟩
   ·exact (((h4.idx.other u5 (fun b h => by rw [h]; decide) HK5'.out).other u6 (fun b h => by rw [h]; decide) (Kept.refl _ _)).other hU7 (fun b h => by rw [h]; decide) (Kept.refl _ _)).mono (fun i hi => by split <;> (try subst_vars) <;> omega)
   ·exact ((h4.db.upd u5 (by rw [hdg]; decide)).upd u6 (by rw [hd5]; decide)).upd hU7 (by rw [hd5]; decide)
   ·exact ((h4.se.upd u5 (by rw [hsg]; decide)).upd u6 (by rw [hs5]; decide)).upd hU7 (by rw [hs5]; decide)
   ·rw [if_neg (by omega)]
    exact h4.zero i h1 h2
   ·split
    ·exact hlen
    ·exact h4.fits i hi
   ·refine ((((Upd.mono HO4.out (fun _ _ x => x.elim)).after u5 (fun b hb h => ?_)).after u6 (fun b hb h => ?_)).after hU7 (fun b hb h => ?_))
    ·rw [HKT.out b hb] at h; omega
    ·rw [hc5 b hb] at h; omega
    ·rw [hc5 b hb] at h; omega
end Go.M
