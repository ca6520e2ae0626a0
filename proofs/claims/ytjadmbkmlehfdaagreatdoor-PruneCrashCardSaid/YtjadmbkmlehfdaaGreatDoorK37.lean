/- Walks 37. -/
import Derived.Test.YtjadmbkmlehfdaaGreatDoorProg
import Derived.Test.YtjadmbkmlehfdaaGreatDoorK28
import Derived.Test.YtjadmbkmlehfdaaGreatDoorK29
import Derived.Test.YtjadmbkmlehfdaaGreatDoorK27
import Derived.Test.YtjadmbkmlehfdaaGreatDoorK36
import Derived.Test.YtjadmbkmlehfdaaGreatDoorK22
import Derived.Test.YtjadmbkmlehfdaaGreatDoorK31
set_option linter.unusedVariables false
set_option linter.unusedSimpArgs false
set_option maxRecDepth 100000
namespace Go.M
open Go.Proofs Go.RowKit
theorem DropAt.upd {F : Nat → Prop} {w w' : World} (h : DropAt w) (U : Upd F w w') (hg : ¬ F 0) : DropAt w' := by
 obtain ⟨h0, h1, h2, h3, h4, h5⟩ := h
 exact ⟨U.cellOf h0 hg, U.cellOf h1 hg, U.cellOf h2 hg, U.cellOf h3 hg, U.cellOf h4 hg, U.cellOf h5 hg⟩
structure GlAt (w : World) (col : Col) : Prop where
 dp : DropAt w
 db : DbAt w
 se : SealAt w
 c1 : (col 0).1 = 0
 c2 : (col 3).1 = 0
 c3 : (col 1).1 = 0
theorem GlAt.upd {F : Nat → Prop} {w w' : World} {col col' : Col} (h : GlAt w col) (U : Upd F w w') (hF : ∀ b, F b → 1 ≤ (col b).1) (hk : Kept w col col') : GlAt w' col' := by
 have n : ∀ b, (col b).1 = 0 → ¬ F b := fun b hb hf => by have := hF b hf; omega
 have l1 := World.block_lt_of_cell? w _ h.dp.1
 have l2 := World.block_lt_of_cell? w _ (h.db 0 (by omega))
 have l3 := World.block_lt_of_cell? w _ h.se.1
 exact ⟨h.dp.upd U (n _ h.c1), h.db.upd U (n _ h.c2), h.se.upd U (n _ h.c3), by rw [hk _ l1, h.c1], by rw [hk _ l2, h.c2], by rw [hk _ l3, h.c3]⟩
def PpK (w : World) (col : Col) (PP D B X n : Nat) : Prop := PP = 0 ∨ (w.cell? ⟨PP, 0, none⟩ = some (.int .i64 ((n : Nat) : Int)) ∧ w.cell? ⟨PP, 7, none⟩ = some (.pointer (some ⟨D, 0, none⟩)) ∧ w.cell? ⟨PP, 8, none⟩ = some (.pointer (some ⟨B, 0, none⟩)) ∧ w.cell? ⟨PP, 9, none⟩ = some (.pointer (some ⟨X, 0, none⟩)) ∧ (col PP).1 = 4)
theorem PpK.upd {w w' : World} {col col' : Col} {PP D B X n : Nat} {F : Nat → Prop} (h : PpK w col PP D B X n) (U : Upd F w w') (hF : ∀ b, F b → (col b).1 ≠ 4) (hk : Kept w col col') : PpK w' col' PP D B X n := by
 rcases h with h | ⟨c0, c7, c8, c9, cP⟩
 ·exact .inl h
 ·have nP : ¬ F PP := fun hb => hF _ hb cP
  exact .inr ⟨U.cellOf c0 nP, U.cellOf c7 nP, U.cellOf c8 nP, U.cellOf c9 nP, by rw [hk _ (World.block_lt_of_cell? w _ c0), cP]⟩
structure EIn (w : World) (col : Col) (PP D B X n : Nat) (s : DevS) (r : Nat) (st : Nat → Nat) (M : ByteArray → List Ent) (x : IdxS) : Prop where
 pp : PpK w col PP D B X n
 dev : ∃ K S cap T M V, DevAt w col 1 D s K S cap T M V
 sn : s.n = n
 up : s.down = false
 tab : TabG w col 2 B n r st
 idx : IdxC w col 3 X n M x
 gl : GlAt w col
 n4 : 4 ≤ n
 n9 : n ≤ 9
 new : ∀ b, w.heap.size ≤ b → (col b).1 = 0
def EF (col : Col) (b : Nat) : Prop := 1 ≤ (col b).1 ∧ (col b).1 ≤ 3
structure EOk (n : Nat) (s : DevS) (st : Nat → Nat) (x : IdxS) (o : Int) : Prop where
 ne : ∀ i, i < n → st i = 2 → x.es i ≠ []
 du : ∀ i, i < n → st i = 2 → unsOf s i = false
 o0 : 0 ≤ s.ops
 o1 : s.ops ≤ o
variable {w : World} {col : Col} {PP D B X n : Nat} {s : DevS} {r : Nat} {st : Nat → Nat} {M : ByteArray → List Ent} {x : IdxS}
structure EIr (w : World) (col : Col) (PP D B X n r : Nat) (st : Nat → Nat) (M : ByteArray → List Ent) (x : IdxS) : Prop where
 pp : PpK w col PP D B X n
 tab : TabG w col 2 B n r st
 idx : IdxC w col 3 X n M x
 gl : GlAt w col
 n4 : 4 ≤ n
 n9 : n ≤ 9
 new : ∀ b, w.heap.size ≤ b → (col b).1 = 0
theorem EIn.rest (h : EIn w col PP D B X n s r st M x) : EIr w col PP D B X n r st M x := ⟨h.pp, h.tab, h.idx, h.gl, h.n4, h.n9, h.new⟩
theorem EIr.upd {w' : World} {F : Nat → Prop} (h : EIr w col PP D B X n r st M x) (U : Upd F w w') (hF : ∀ b, F b → (col b).1 = 1 ∨ (col b).1 = 5) : EIr w' col PP D B X n r st M x := by
 have sz := U.size
 have nf : ∀ b q, F b → (q ≠ 1 ∧ q ≠ 5) → (col b).1 ≠ q := fun b q hb hq e => by rcases hF b hb with h | h <;> omega
 exact ⟨h.pp.upd U (fun b hb => nf b 4 hb (by decide)) (Kept.refl _ _), h.tab.other U (fun b hb => nf b 2 hb (by decide)) (Kept.refl _ _), h.idx.other U (fun b hb => nf b 3 hb (by decide)) (Kept.refl _ _), h.gl.upd U (fun b hb => by rcases hF b hb with h | h <;> omega) (Kept.refl _ _), h.n4, h.n9, fun b hb => h.new b (by omega)⟩
theorem EIr.old {w' : World} (h : EIr w col PP D B X n r st M x) (U : Old w w') : EIr w' col PP D B X n r st M x := h.upd U (fun _ f => f.elim)
theorem EIn.old {w' : World} (h : EIn w col PP D B X n s r st M x) (U : Old w w') : EIn w' col PP D B X n s r st M x := by
 have sz := U.size
 obtain ⟨pp, ⟨K, S, cap, T, Mi, V, hd⟩, sn, up, tab, idx, gl, n4, n9, new⟩ := h
 exact ⟨pp.upd U (fun _ x => x.elim) (Kept.refl _ _), ⟨K, S, cap, T, Mi, V, hd.other U (fun _ x => x.elim) (Kept.refl _ _)⟩, sn, up, tab.other U (fun _ x => x.elim) (Kept.refl _ _), idx.other U (fun _ x => x.elim) (Kept.refl _ _), gl.upd U (fun _ x => x.elim) (Kept.refl _ _), n4, n9, fun b hb => new b (by omega)⟩
theorem EIn.cells (h : EIn w col PP D B X n s r st M x) (hP : PP ≠ 0) : w.cell? ⟨PP, 0, none⟩ = some (.int .i64 ((n : Nat) : Int)) ∧ w.cell? ⟨PP, 7, none⟩ = some (.pointer (some ⟨D, 0, none⟩)) ∧ w.cell? ⟨PP, 8, none⟩ = some (.pointer (some ⟨B, 0, none⟩)) ∧ w.cell? ⟨PP, 9, none⟩ = some (.pointer (some ⟨X, 0, none⟩)) ∧ (col PP).1 = 4 := h.pp.resolve_left hP
theorem EIn.uns (h : EIn w col PP D B X n s r st M x) {i : Nat} (hi : i < n) :
 Calls Tryz.prog 11 #[.pointer (some ⟨D, 0, none⟩), .int .i64 ((i : Nat) : Int)] w fun e w' => e = .returned (.tuple #[.int .i64 (((s.img i).bs.length : Int) - ((s.img i).dur : Int)), .int .i64 0]) ∧ Old w w' := by
 obtain ⟨K, S, cap, T, Mi, V, hd⟩ := h.dev
 obtain ⟨va, vc, hv, c⟩ := hd.cells i (by have := h.sn; omega)
 rw [h.up] at c
 exact uns_cells c
theorem EIn.ops (h : EIn w col PP D B X n s r st M x) :
 Calls Tryz.prog 34 #[.pointer (some ⟨D, 0, none⟩)] w fun e w' => e = .returned (.int .i64 s.ops) ∧ w = w' := by
 obtain ⟨K, S, cap, T, Mi, V, hd⟩ := h.dev
 obtain ⟨t, f⟩ := hd.fd
 exact d_ops2 (down := s.down) ⟨f.cell 2, f.cell 3, f.cell 4⟩ (by have := h.sn; have := h.n4; omega)
theorem EIn.bytes (h : EIn w col PP D B X n s r st M x) (hP : PP ≠ 0) {i : Nat} (hi : i < n) :
 Calls Tryz.prog 33 #[.pointer (some ⟨PP, 0, none⟩), .int .i64 ((i : Nat) : Int)] w fun e w' => (∃ a n c, e = .returned (.slice a n c) ∧ BytesAt w' (.slice a n c) (s.img i).bs) ∧ Old w w' := by
 obtain ⟨K, S, cap, T, Mi, V, hd⟩ := h.dev
 exact pbytes hd h.up (h.cells hP).2.1 (by have := h.sn; omega)
theorem EIn.dsl (h : EIn w col PP D B X n s r st M x) : DSl w (.pointer (some ⟨D, 0, none⟩)) n := by
 obtain ⟨K, S, cap, T, Mi, V, hd⟩ := h.dev
 obtain ⟨t, f⟩ := hd.fd
 have h4 := f.cell 4
 rw [h.up] at h4
 exact .inr ⟨D, rfl, by rw [← h.sn]; exact f.cell 2, h4⟩
theorem EIn.rstate (h : EIn w col PP D B X n s r st M x) {i : Nat} (hi : i < n) :
 Calls Tryz.prog 57 #[.pointer (some ⟨D, 0, none⟩), .pointer (some ⟨B, 0, none⟩), .pointer (some ⟨X, 0, none⟩), .int .i64 ((i : Nat) : Int)] w fun e w' => e = .returned (.tuple #[.int .i64 ((st i : Nat) : Int), .int .i64 0]) ∧ Old w w' :=
 r_state_ok h.dsl h.tab.tsl h.idx.xsl (by have := h.n9; omega) (by have := h.n4; omega) (fun W U => (h.old U).tab.state hi)
structure ErD (n i : Nat) (s s' : DevS) : Prop where
 ops : s'.ops = s.ops + (cntU s n : Int) + 1
 dur : ∀ k, k < n → (s'.img k).dur = (s'.img k).bs.length
 img : ∀ k, k < n → (s'.img k).bs = if k = i then [] else (s.img k).bs
theorem EIn.dev' {w' : World} {s' : DevS} (h : EIn w col PP D B X n s r st M x) (U : Upd (fun b => (col b).1 = 1) w w') (hd : ∃ K S cap T M V, DevAt w' col 1 D s' K S cap T M V) (hn : s'.n = n) (hu : s'.down = false) : EIn w' col PP D B X n s' r st M x := by
 exact ⟨h.pp.upd U (fun b hb => by rw [hb]; decide) (Kept.refl _ _), hd, hn, hu, h.tab.other U (fun b hb => by rw [hb]; decide) (Kept.refl _ _), h.idx.other U (fun b hb => by rw [hb]; decide) (Kept.refl _ _), h.gl.upd U (fun b hb => by rw [hb]; decide) (Kept.refl _ _), h.n4, h.n9, fun b hb => h.new b (Nat.le_trans U.size hb)⟩
theorem EIn.tab' {w' : World} {r' : Nat} {st' : Nat → Nat} (h : EIn w col PP D B X n s r st M x) (U : Upd (fun b => (col b).1 = 2) w w') (ht : TabG w' col 2 B n r' st') : EIn w' col PP D B X n s r' st' M x := by
 obtain ⟨K, S, cap, T, Mi, V, hd⟩ := h.dev
 exact ⟨h.pp.upd U (fun b hb => by rw [hb]; decide) (Kept.refl _ _), ⟨K, S, cap, T, Mi, V, hd.other U (fun b hb => by rw [hb]; decide) (Kept.refl _ _)⟩, h.sn, h.up, ht, h.idx.other U (fun b hb => by rw [hb]; decide) (Kept.refl _ _), h.gl.upd U (fun b hb => by rw [hb]; decide) (Kept.refl _ _), h.n4, h.n9, fun b hb => h.new b (Nat.le_trans U.size hb)⟩
theorem EIn.idx' {w' : World} {col' : Col} {M' : ByteArray → List Ent} {x' : IdxS} (h : EIn w col PP D B X n s r st M x) (U : Upd (fun b => (col b).1 = 3) w w') (hk : Kept w col col') (hi : IdxC w' col' 3 X n M' x') (hn : ∀ b, w'.heap.size ≤ b → (col' b).1 = 0) : EIn w' col' PP D B X n s r st M' x' := by
 obtain ⟨K, S, cap, T, Mi, V, hd⟩ := h.dev
 exact ⟨h.pp.upd U (fun b hb => by rw [hb]; decide) hk, ⟨K, S, cap, T, Mi, V, hd.other U (fun b hb => by rw [hb]; decide) hk⟩, h.sn, h.up, h.tab.other U (fun b hb => by rw [hb]; decide) hk, hi, h.gl.upd U (fun b hb => by rw [hb]; decide) hk, h.n4, h.n9, hn⟩
theorem EIn.erase (h : EIn w col PP D B X n s r st M x) {i : Nat} (hi : i < n) (hr : redM M x.es i = true) (h2 : st i = 2) (ok : EOk n s st x 800) :
 Calls Tryz.prog 14 #[.pointer (some ⟨D, 0, none⟩), .pointer (some ⟨B, 0, none⟩), .pointer (some ⟨X, 0, none⟩), .int .i64 ((i : Nat) : Int)] w fun e w' => e = .returned (.int .i64 0) ∧ Upd (EF col) w w' ∧
  ∃ col' s' x', EIn w' col' PP D B X n s' r (setSt st i 0) (leftOf M (x.es i)) x' ∧ ErD n i s s' ∧ (x'.es = dropE x.es i ∧ x'.sv i = .slice none 0 0) ∧ Kept w col col' := by
 have hn := h.sn
 have o0 := ok.o0
 have o1 := ok.o1
 have hcu := cntU_le s n
 have h9 := h.n9
 obtain ⟨s2, q1, q2, q3, q4, -⟩ := syns_all s n (fun k hk => by obtain ⟨K, S, cap, T, Mi, V, hd⟩ := h.dev; exact (hd.fm k (by omega)).durs)
 have hs2 : s2.n = n ∧ s2.down = false := by
  obtain ⟨h1, h2, -⟩ := syns_n ((List.range n).filter (unsOf s)) s
  rw [q1] at h1 h2
  exact ⟨h1.trans hn, h2.trans h.up⟩
 have ef : ∀ {W W' : World} {q : Nat}, 1 ≤ q → q ≤ 3 → Upd (fun b => (col b).1 = q) W W' → Upd (EF col) W W' := fun h1 h3 U => U.mono fun b _ hb => by
  unfold EF
  rw [hb]
  exact ⟨h1, h3⟩
 refine (r_erase_ok (F := EF col)
  (P0 := fun W => EIn W col PP D B X n s r st M x ∧ w.heap.size ≤ W.heap.size)
  (P1 := fun W => EIn W col PP D B X n s2 r st M x ∧ w.heap.size ≤ W.heap.size)
  (P2 := fun W => EIn W col PP D B X n (s2.put i { s2.img i with bs := [], dur := 0 }) r st M x ∧ w.heap.size ≤ W.heap.size)
  (P3 := fun W => ∃ col' x', EIn W col' PP D B X n (s2.put i { s2.img i with bs := [], dur := 0 }) r st (leftOf M (x.es i)) x' ∧ (x'.es = dropE x.es i ∧ x'.sv i = .slice none 0 0) ∧ Kept w col col' ∧ ∀ b, w.heap.size ≤ b → ¬ (col' b).1 = 2)
  (P4 := fun W => ∃ col' x', EIn W col' PP D B X n (s2.put i { s2.img i with bs := [], dur := 0 }) r (setSt st i 0) (leftOf M (x.es i)) x' ∧ (x'.es = dropE x.es i ∧ x'.sv i = .slice none 0 0) ∧ Kept w col col')
  (fun b hb => ?hF) (fun W W' hp U => ⟨hp.1.old U, Nat.le_trans hp.2 U.size⟩) (fun W W' hp U => ⟨hp.1.old U, Nat.le_trans hp.2 U.size⟩) ⟨h, Nat.le_refl _⟩ (fun W hp => ?hst) (fun W hp => ?hre) (fun W hp => ?h1) (fun W hp => ?h2) (fun W hp => ?h3) (fun W hp => ?h4)).mono ?hend
 case hF =>
  refine Nat.lt_of_not_le fun hl => ?_
  have := h.new b hl
  unfold EF at hb
  omega
 case hst =>
  have := hp.1.rstate hi
  rwa [h2] at this
 case hre =>
  have := hp.1.idx.red hi
  rwa [hr] at this
 case h1 =>
  obtain ⟨hp, hs⟩ := hp
  obtain ⟨K, S, cap, T, Mi, V, hd⟩ := hp.dev
  refine (r_sync_all hd hp.up (by rw [hn]; exact hp.tab.tsl) hp.new (by omega)).mono ?_
  rintro e w' ⟨rfl, hd', U⟩
  rw [hn, q1] at hd'
  exact ⟨rfl, ef (by omega) (by omega) U, hp.dev' U hd' hs2.1 hs2.2, Nat.le_trans hs U.size⟩
 case h2 =>
  obtain ⟨hp, hs⟩ := hp
  obtain ⟨K, S, cap, T, Mi, V, hd⟩ := hp.dev
  refine (dev_erase hd hs2.2 i (by rw [hs2.1]; omega) (by omega)).mono ?_
  rintro e w' ⟨rfl, hd', U⟩
  have U' : Upd (fun b => (col b).1 = 1) W w' := U.mono fun b _ hb => by
   rcases hb with rfl | rfl
   ·rw [hd.cD]
   ·rw [hd.cM i (by rw [hs2.1]; omega)]
  exact ⟨rfl, ef (by omega) (by omega) U', hp.dev' U' ⟨_, _, _, _, _, _, hd'⟩ hs2.1 hs2.2, Nat.le_trans hs U'.size⟩
 case h3 =>
  obtain ⟨hp, hs⟩ := hp
  refine (hp.idx.drop hi (ok.ne i hi h2) hp.new (by decide)).mono ?_
  rintro e w' ⟨hk, U, col', x', hi', hx, hkc, hn', hq⟩
  refine ⟨hk, ef (by omega) (by omega) U, col', x', hp.idx' U hkc hi' hn', hx, fun b hb => hkc b (by omega), fun b hb e => ?_⟩
  rcases Nat.lt_or_ge b W.heap.size with hl | hl
  ·rw [hkc b hl, h.new b hb] at e; cases e
  ·rcases hq b hl with h5 | h5 <;> omega
 case h4 =>
  obtain ⟨col', x', hp, hx, hkc, hq⟩ := hp
  refine (hp.tab.drop hp.gl.dp hi h2).mono ?_
  rintro e w' ⟨rfl, ht, U⟩
  refine ⟨rfl, U.mono fun b _ hb => ?_, col', x', hp.tab' U ht, hx, hkc⟩
  have hl : b < w.heap.size := Nat.lt_of_not_le fun hl => hq b hl hb
  unfold EF
  rw [← hkc b hl, hb]
  omega
 case hend =>
  rintro e w' ⟨rfl, ⟨col', x', hE, hx, hk⟩, hU⟩
  refine ⟨rfl, hU, col', _, x', hE, ⟨?_, fun k hk => ?_, fun k hk => ?_⟩, hx, hk⟩
  ·simp only [DevS.put]; rw [q2]
  ·obtain ⟨a1, a2⟩ := q4 k hk
   by_cases e : k = i
   ·simp [DevS.put, e]
   ·simp [DevS.put, e, a1]
  ·obtain ⟨a1, a2⟩ := q4 k hk
   by_cases e : k = i
   ·simp [DevS.put, e]
   ·simp [DevS.put, e, a2]
end Go.M
namespace Go.M
open Go.Proofs Go.RowKit
structure POk (n size zm : Nat) (s : DevS) (st : Nat → Nat) (es : Nat → List Ent) (o : Int) : Prop where
 st3 : ∀ i, i < n → st i ≠ 3
 one : ∀ i, i < n → ∀ j, j < n → st i = st j → st i = 1 ∨ st i = 4 → i = j
 ent : ∀ i, i < n → ∀ x ∈ es i, EntOk1 x ∧ x.off + x.size ≤ (s.img i).bs.length ∧ x.off < (s.img i).bs.length ∧ x.size ≤ zm
 cop : Copies n es
 free : ∀ i, i < n → st i = 0 → es i = [] ∧ (s.img i).bs = []
 use : ∀ i, i < n → st i ≠ 0 → es i ≠ []
 du : ∀ i, i < n → st i = 2 → unsOf s i = false
 room : ∀ i, i < n → st i = 1 ∨ st i = 4 → (s.img i).bs.length + 16 ≤ size
 sz : ∀ i, i < n → (s.img i).sz = size
 zs : zm + 16 ≤ size
 z8 : size ≤ 8192
 o0 : 0 ≤ s.ops
 o1 : s.ops ≤ o
theorem POk.eok {n size zm : Nat} {s : DevS} {st : Nat → Nat} {x : IdxS} {o : Int} (h : POk n size zm s st x.es o) : EOk n s st x o :=
 ⟨fun i hi h2 => h.use i hi (by omega), h.du, h.o0, h.o1⟩
theorem stU_two {used i : Nat} {act : Bool} (h : stU used act i = 2) : i < used ∧ (act = true → i ≠ used - 1) := by
 unfold stU at h
 split at h
 ·omega
 ·split at h
  ·omega
  ·rename_i h5 h6
   exact ⟨by omega, fun ha he => h6 ⟨ha, he⟩⟩
theorem stU_one {used i : Nat} {act : Bool} (h : stU used act i = 1) : act = true ∧ i = used - 1 := by
 unfold stU at h
 split at h
 ·omega
 ·split at h
  ·assumption
  ·omega
theorem stU_lt (used i : Nat) (act : Bool) : stU used act i < 3 := by
 unfold stU
 split
 ·omega
 ·split <;> omega
theorem stU_zero {used i : Nat} {act : Bool} : stU used act i = 0 ↔ used ≤ i := by
 unfold stU
 split
 ·simp; omega
 ·split <;> simp <;> omega
theorem e_made {w wr : World} {k : Cf} {PP D B X it : Nat} (h : MadeRel w k PP D B X it wr) (hit : it ≤ 60) (hd : DropAt w) : ∃ col s st M x, EIn wr col PP D B X k.n s k.reserve st M x ∧ POk k.n k.size (18 + k.value) s st x.es 600 ∧ IdxLe 61 k.n M x ∧ Old w wr ∧ ∀ b, b < w.heap.size → (col b).1 = 0 := by
 obtain ⟨col, next, used, act, lens, ops, hp, h1, h2, h3, h4⟩ := h
 obtain ⟨t, p⟩ := hp.p
 have hk := trim_kept wr col
 have U := Upd.refl (fun _ => False) wr
 obtain ⟨s, K, S, cap, T, Mi, V, hdv, e1, e2, e3, e4⟩ := hp.dev
 obtain ⟨si, hi⟩ := hp.idx
 have ht := hp.tab.1.other U (fun b h => h.elim) hk
 have hx := (hi.other U (fun b h => h.elim) hk).toC (by have := hp.n4; omega)
 have hdl := World.block_lt_of_cell? w _ hd.1
 have s4 := h4.size
 have hz1 := hp.z1
 refine ⟨trim wr col, s, _, _, si, ⟨.inr ⟨p.cell 0, p.cell 7, p.cell 8, p.cell 9, by rw [hk _ p.lt, hp.cP]⟩, ⟨K, S, cap, T, Mi, V, hdv.other U (fun b h => h.elim) hk⟩, e1, e2, ht, hx, ⟨hd.upd h4 (fun x => x), hp.db, hp.se, ?_, by rw [hk _ hp.lts.1, hp.cd], by rw [hk _ hp.lts.2, hp.cs]⟩, hp.n4, hp.n9, fun b hb => by rw [trim_new hb]⟩,
  ⟨fun i _ => by have := stU_lt used i act; omega, fun i hi' j hj hij hs => ?_, fun i hi' y hy => ?_, fun i hi' y hy j hj z hz hq => ?_, fun i hi' h0 => ?_, fun i hi' h0 => hi.ne i hi' (Nat.lt_of_not_le fun hl => h0 (stU_zero.2 hl)), fun i hi' h => ?_, fun i hi' hs => ?_, fun i hi' => (e4 i hi').1, by omega, hp.z2, by rw [e3]; omega, by rw [e3]; omega⟩, ⟨by have := hi.mn; omega, fun ky => ?_, fun i hi' => by have := hi.len i hi'; omega⟩, h4, fun b hb => ?_⟩
 ·rw [hk _ (by simp only at hdl; omega), h3 _ hdl]
 ·rcases hs with hs | hs
  ·have a := stU_one hs
   have b := stU_one (hij ▸ hs)
   omega
  ·have := stU_lt used i act; omega
 ·obtain ⟨a1, a2, a3, a4, a5, a6⟩ := hi.ent i hi' y hy
  have := (e4 i hi').2.1
  exact ⟨a6, by omega, by omega, a5⟩
 ·have := hi.uni i hi' y hy j hj z hz hq
  subst this
  exact ⟨rfl, rfl, rfl⟩
 ·have hl := hp.zero i (stU_zero.1 h0) hi'
  have hb := (e4 i hi').2.1
  refine ⟨List.eq_nil_iff_forall_not_mem.2 fun y hy => ?_, List.eq_nil_of_length_eq_zero (by omega)⟩
  have := (hi.ent i hi' y hy).2.2.2.1
  omega
 ·have := (e4 i hi').2.2 (stU_two h).2
  simp [unsOf, this]
 ·rcases hs with hs | hs
  ·obtain ⟨a1, a2⟩ := stU_one hs
   have := (hp.actv a1).2
   have hb := (e4 i hi').2.1
   rw [a2] at hb ⊢
   omega
  ·have := stU_lt used i act; omega
 ·rcases hM : mapOf si.mn si.key si.kz ky with _ | ⟨y, l⟩
  ·simp
  ·obtain ⟨r, r1, r2, r3⟩ := mapOf_on (k := ky) (y := y) (by rw [hM]; exact List.mem_cons_self ..)
   rw [← hM, r3]
   have := (hi.kv r r1).2.1
   omega
 ·rw [hk _ (by omega), h3 b hb]
set_option linter.unusedSimpArgs false
variable {w : World} {col : Col} {PP D B X n r : Nat} {s : DevS} {st : Nat → Nat} {M : ByteArray → List Ent} {x : IdxS}
theorem EIn.len (h : EIn w col PP D B X n s r st M x) {i : Nat} (hi : i < n) :
 Calls Tryz.prog 12 #[.pointer (some ⟨D, 0, none⟩), .int .i64 ((i : Nat) : Int)] w fun e w' => e = .returned (.tuple #[.int .i64 (((s.img i).bs.length : Nat) : Int), .int .i64 0]) ∧ Old w w' := by
 obtain ⟨K, S, cap, T, Mi, V, hd⟩ := h.dev
 obtain ⟨va, vc, hv, c⟩ := hd.cells i (by have := h.sn; omega)
 rw [h.up] at c
 exact len_cells c
theorem EIn.room (h : EIn w col PP D B X n s r st M x) {i : Nat} (hi : i < n) :
 Calls Tryz.prog 104 #[.pointer (some ⟨D, 0, none⟩), .int .i64 ((i : Nat) : Int)] w fun e w' => e = .returned (.tuple #[.int .i64 (((s.img i).sz : Int) - ((s.img i).bs.length : Int)), .int .i64 0]) ∧ Old w w' := by
 obtain ⟨K, S, cap, T, Mi, V, hd⟩ := h.dev
 obtain ⟨va, vc, hv, c⟩ := hd.cells i (by have := h.sn; omega)
 rw [h.up] at c
 exact room_cells c
theorem EIn.read (h : EIn w col PP D B X n s r st M x) {i : Nat} (hi : i < n) {off z : Nat} (hon : off + z ≤ (s.img i).bs.length) (hz : 0 < z) :
 Calls Tryz.prog 95 #[.pointer (some ⟨D, 0, none⟩), .int .i64 ((i : Nat) : Int), .int .i64 ((off : Nat) : Int), .int .i64 ((z : Nat) : Int)] w (ReadPost w (((s.img i).bs.drop off).take z)) := by
 obtain ⟨K, S, cap, T, Mi, V, hd⟩ := h.dev
 exact dread_part hd h.up (by have := h.sn; omega) hon hz
theorem EIn.ocheck (h : EIn w col PP D B X n s r st M x) :
 Calls Tryz.prog 152 #[.pointer (some ⟨D, 0, none⟩), .pointer (some ⟨B, 0, none⟩), .pointer (some ⟨X, 0, none⟩)] w fun e w' => e = .returned (.int .i64 0) ∧ Old w w' :=
 o_check h.dsl h.tab.tsl h.idx.xsl (by have := h.n9; omega) (by have := h.n4; omega)
def fitsV (n : Nat) (s : DevS) (st : Nat → Nat) (z : Nat) : Nat × Bool × Bool := match lowS st n 4 with
 | none => (0, false, false)
 | some i => (i, true, decide ((s.img i).bs.length + z + 16 ≤ (s.img i).sz))
theorem EIn.fits (h : EIn w col PP D B X n s r st M x) {z : Nat} (hz : z ≤ 8192) (hs : ∀ i, i < n → (s.img i).sz ≤ 8192 ∧ (s.img i).bs.length ≤ (s.img i).sz) :
 Calls Tryz.prog 144 #[.pointer (some ⟨D, 0, none⟩), .pointer (some ⟨B, 0, none⟩), .int .i64 ((z : Nat) : Int)] w fun e w' => e = .returned (.tuple #[.int .i64 (((fitsV n s st z).1 : Nat) : Int), .bool (fitsV n s st z).2.1, .bool (fitsV n s st z).2.2]) ∧ Old w w' := by
 unfold fitsV
 rcases hl : lowS st n 4 with _ | i
 ·have HO := Lib.hid (h.tab.noout hl)
  clear h
  go_enter Tryz.func144, Tryz.ntmps144
  go_wp2_with (first | (go_at_call 10; refine HO.out.mono ?_; rintro e w1 ⟨rfl, rfl⟩) | go_in)
  go_ret3
  exact ⟨rfl, Upd.refl _ _⟩
 ·obtain ⟨h1, h2⟩ := lowS_some hl
  obtain ⟨a1, a2⟩ := hs i h1
  have HO := Lib.hid (h.tab.output h.gl.db hl)
  have HR := Lib.hid (h.room h1)
  clear h hs
  show Calls Tryz.prog _ _ w fun e w' => e = .returned (.tuple #[.int .i64 ((i : Nat) : Int), .bool true, .bool (decide ((s.img i).bs.length + z + 16 ≤ (s.img i).sz))]) ∧ Old w w'
  generalize (s.img i).sz = sz at *
  generalize (s.img i).bs.length = bl at *
  have g1 : IntKind.i64.wrap ((sz : Int) - (bl : Int) - 16) = (sz : Int) - (bl : Int) - 16 := IntWalk.i64_in _ (by omega)
  have g2 : decide ((z : Int) ≤ (sz : Int) - (bl : Int) - 16) = decide (bl + z + 16 ≤ sz) := by rw [decide_eq_decide]; omega
  go_enter Tryz.func144, Tryz.ntmps144
  go_wp2_with (first | (go_at_call 10; refine HO.out.mono ?_; rintro e w1 ⟨rfl, rfl⟩) | (go_at_call 104; refine HR.out.mono ?_; rintro e w2 ⟨rfl, hU⟩) | go_in)
  go_ret3
  exact ⟨by rw [← g2]; rfl, hU⟩
end Go.M
namespace Go.M
open Go.Proofs Go.RowKit
set_option linter.unusedSimpArgs false
variable {w : World} {col : Col} {PP D B X n r : Nat} {s : DevS} {st : Nat → Nat} {M : ByteArray → List Ent} {x : IdxS}
theorem EIn.has (h : EIn w col PP D B X n s r st M x) {e : Ent} (he : e ∈ M e.key) :
 Calls Tryz.prog 221 #[.pointer (some ⟨X, 0, none⟩), e.val] w fun en w' => en = .returned (.bool true) ∧ Old w w' := by
 obtain ⟨sv, hk⟩ := h.idx.ixk e.key
 refine (ohas_walk (e := e) (p := fun y => entEq y e) (fun _ => rfl) hk).mono ?_
 rintro en w' ⟨rfl, hU⟩
 refine ⟨?_, hU⟩
 have : ((M e.key).any fun y => entEq y e) = true := List.any_eq_true.2 ⟨e, he, (entEq_iff e e).2 rfl⟩
 rw [this]
def costV (f : Nat × Bool × Bool) (z : Nat) : Nat := if f.2.1 = true ∧ f.2.2 = false then z + 16 else z
theorem EIn.cost (h : EIn w col PP D B X n s r st M x) {e : Ent} (he : e ∈ M e.key) (hz : e.size ≤ 8192) (hs : ∀ i, i < n → (s.img i).sz ≤ 8192 ∧ (s.img i).bs.length ≤ (s.img i).sz) :
 Calls Tryz.prog 143 #[.pointer (some ⟨D, 0, none⟩), .pointer (some ⟨B, 0, none⟩), .pointer (some ⟨X, 0, none⟩), e.val] w fun en w' => en = .returned (.tuple #[.int .i64 ((costV (fitsV n s st e.size) e.size : Nat) : Int), .int .i64 0]) ∧ Old w w' := by
 have HC := Lib.hid (fun (W : World) (U : Old w W) => (h.old U).ocheck)
 have HH := Lib.hid (fun (W : World) (U : Old w W) => (h.old U).has he)
 have HF := Lib.hid (fun (W : World) (U : Old w W) => (h.old U).fits hz hs)
 clear h he hs
 generalize fitsV n s st e.size = f at *
 obtain ⟨i, a, b⟩ := f
 simp only at HF
 unfold costV
 have g1 : IntKind.i64.wrap ((e.size : Int) + 16) = ((e.size + 16 : Nat) : Int) := by rw [show (e.size : Int) + 16 = ((e.size + 16 : Nat) : Int) by omega]; exact IntWalk.i64_in _ (by omega)
 unfold Ent.val at HH ⊢
 go_enter Tryz.func143, Tryz.ntmps143
 have HW : Hid (∀ W, Old (w.alloc (.cells #[.int .i64 ((e.seq : Nat) : Int), .string e.key, .bool e.del, .int .i64 ((e.slot : Nat) : Int), .int .i64 ((e.off : Nat) : Int), .int .i64 ((e.size : Nat) : Int)] 47)) W → Old w W) := fun W U => ((Upd.refl _ w).alloc _).trans U
 cases a
 all_goals cases b
 all_goals
  go_wp2_with (first | (go_at_call 152; refine (HC.out _ ?_).mono ?_; (exact (Upd.refl _ w).alloc _); rintro en w1 ⟨rfl, hU⟩; have c0 : w1.cell? ⟨w.heap.size, 0, none⟩ = some (.int .i64 ((e.seq : Nat) : Int)) := Old.cellOf' hU (by simp); have c1 : w1.cell? ⟨w.heap.size, 1, none⟩ = some (.string e.key) := Old.cellOf' hU (by simp); have c2 : w1.cell? ⟨w.heap.size, 2, none⟩ = some (.bool e.del) := Old.cellOf' hU (by simp); have c3 : w1.cell? ⟨w.heap.size, 3, none⟩ = some (.int .i64 ((e.slot : Nat) : Int)) := Old.cellOf' hU (by simp); have c4 : w1.cell? ⟨w.heap.size, 4, none⟩ = some (.int .i64 ((e.off : Nat) : Int)) := Old.cellOf' hU (by simp); have c5 : w1.cell? ⟨w.heap.size, 5, none⟩ = some (.int .i64 ((e.size : Nat) : Int)) := Old.cellOf' hU (by simp); have H1 := Lib.hid (HW.out _ hU); clear hU) | (go_at_call 221; refine (HH.out _ H1.out).mono ?_; rintro en w2 ⟨rfl, hU⟩; have d5 : w2.cell? ⟨w.heap.size, 5, none⟩ = some (.int .i64 ((e.size : Nat) : Int)) := Old.cellOf' hU c5; have H2 := Lib.hid (H1.out.trans hU); clear hU) | (go_at_call 144; refine (HF.out _ H2.out).mono ?_; rintro en w3 ⟨rfl, hU⟩; have e5 : w3.cell? ⟨w.heap.size, 5, none⟩ = some (.int .i64 ((e.size : Nat) : Int)) := Old.cellOf' hU d5; have H3 := Lib.hid (H2.out.trans hU); clear hU) | go_in)
  go_ret2
  exact ⟨rfl, H3.out⟩
end Go.M
namespace Go.M
open Go.Proofs Go.RowKit
set_option linter.unusedSimpArgs false
variable {w : World} {col : Col} {PP D B X n r : Nat} {s : DevS} {st : Nat → Nat} {M : ByteArray → List Ent} {x : IdxS}
theorem EIn.devc {w' : World} {col' : Col} {s' : DevS} (h : EIn w col PP D B X n s r st M x) (U : Upd (fun b => (col b).1 = 1) w w') (hk : Kept w col col') (hd : ∃ K S cap T M V, DevAt w' col' 1 D s' K S cap T M V) (hn : s'.n = n) (hu : s'.down = false) (hnew : ∀ b, w'.heap.size ≤ b → (col' b).1 = 0) : EIn w' col' PP D B X n s' r st M x := by
 exact ⟨h.pp.upd U (fun b hb => by rw [hb]; decide) hk, hd, hn, hu, h.tab.other U (fun b hb => by rw [hb]; decide) hk, h.idx.other U (fun b hb => by rw [hb]; decide) hk, h.gl.upd U (fun b hb => by rw [hb]; decide) hk, h.n4, h.n9, hnew⟩
theorem EIn.append (h : EIn w col PP D B X n s r st M x) {i : Nat} (hi : i < n) {v : Value} {bs : List UInt8} (hb : BytesAt w v bs) (hl : 0 < bs.length) (hfit : (s.img i).bs.length + bs.length ≤ (s.img i).sz) (ho : s.ops < 1000000000) (hv : ∀ ad m c, v = .slice (some ad) m c → (col ad.block).1 ≠ 1) :
 Calls Tryz.prog 107 #[.pointer (some ⟨D, 0, none⟩), .int .i64 ((i : Nat) : Int), v] w fun e w' => e = .returned (.int .i64 0) ∧
  ∃ col', EIn w' col' PP D B X n (s.put i { s.img i with bs := (s.img i).bs ++ bs }) r st M x ∧ Upd (fun b => (col b).1 = 1) w w' ∧ Kept w col col' ∧ ∀ b, w.heap.size ≤ b → (col' b).1 = 0 ∨ (col' b).1 = 1 := by
 obtain ⟨K, S, cap, T, Mi, V, hd⟩ := h.dev
 rcases hb with ⟨_, hb2⟩ | ⟨ad, c, rfl, hb2⟩
 ·rw [hb2] at hl; simp at hl
 ·refine (dev_append hd h.up i (by have := h.sn; omega) ho rfl (fun j u hj => hb2 j _ (by rw [List.getElem?_map, hj]; rfl)) hl hfit (hv _ _ _ rfl)).mono ?_
  rintro e w' ⟨rfl, v', col', hd', U, hk, hnew⟩
  have hq : ∀ b, w.heap.size ≤ b → (col' b).1 = 0 ∨ (col' b).1 = 1 := fun b hb => by
   rcases hnew b hb with h1 | h1
   ·rw [h1]; exact .inl (h.new b hb)
   ·exact .inr h1
  have hk2 : Kept w col (trim w' col') := fun b hb => by rw [trim_kept w' col' b (Nat.lt_of_lt_of_le hb U.size), hk b hb]
  refine ⟨rfl, trim w' col', h.devc U hk2 ⟨_, _, _, _, _, _, hd'.other (Upd.refl (fun _ => False) w') (fun _ x => x.elim) (trim_kept w' col')⟩ h.sn h.up (fun b hb => by rw [trim_new hb]), U, hk2, fun b hb => ?_⟩
  unfold trim
  split
  ·exact hq b hb
  ·exact .inl rfl
theorem EIn.sync (h : EIn w col PP D B X n s r st M x) {i : Nat} (hi : i < n) (ho : s.ops < 1000000000) :
 Calls Tryz.prog 108 #[.pointer (some ⟨D, 0, none⟩), .int .i64 ((i : Nat) : Int)] w fun e w' => e = .returned (.int .i64 0) ∧
  EIn w' col PP D B X n (s.put i { s.img i with dur := (s.img i).bs.length }) r st M x ∧ Upd (fun b => (col b).1 = 1) w w' := by
 obtain ⟨K, S, cap, T, Mi, V, hd⟩ := h.dev
 refine (dev_sync hd h.up i (by have := h.sn; omega) ho).mono ?_
 rintro e w' ⟨rfl, hd', U⟩
 have U' : Upd (fun b => (col b).1 = 1) w w' := U.mono fun b _ hb => by
  rcases hb with rfl | rfl
  ·rw [hd.cD]
  ·rw [hd.cM i (by have := h.sn; omega)]
 exact ⟨rfl, h.dev' U' ⟨_, _, _, _, _, _, hd'⟩ h.sn h.up, U'⟩
theorem EIn.seal (h : EIn w col PP D B X n s r st M x) {i : Nat} (hi : i < n) (hst : st i = 1 ∨ st i = 4) :
 Calls Tryz.prog 109 #[.pointer (some ⟨B, 0, none⟩), .int .i64 ((i : Nat) : Int)] w fun e w' => e = .returned (.int .i64 0) ∧ EIn w' col PP D B X n s r (setSt st i 2) M x ∧ Upd (fun b => (col b).1 = 2) w w' := by
 refine (h.tab.seal h.gl.se hi hst).mono ?_
 rintro e w' ⟨rfl, ht, U⟩
 exact ⟨rfl, h.tab' U ht, U⟩
theorem EIn.takeOut (h : EIn w col PP D B X n s r st M x) (hl : lowS st n 4 = none) {i : Nat} (h0 : lowS st n 0 = some i) :
 Calls Tryz.prog 147 #[.pointer (some ⟨B, 0, none⟩)] w fun e w' => e = .returned (.tuple #[.int .i64 ((i : Nat) : Int), .int .i64 0]) ∧ EIn w' col PP D B X n s r (setSt st i 4) M x ∧ Upd (fun b => (col b).1 = 2) w w' := by
 refine (h.tab.takeOut h.gl.db hl h0).mono ?_
 rintro e w' ⟨rfl, ht, U⟩
 exact ⟨rfl, h.tab' U ht, U⟩
theorem EIn.add (h : EIn w col PP D B X n s r st M x) {e : Ent} {c : Nat} (hs : e.slot < n) (hok : EntOk1 e) (ho : ∀ y ∈ x.es e.slot, y.off + y.size ≤ e.off ∧ y.off < e.off) (hd : ∀ y ∈ x.es e.slot, y.seq ≠ e.seq)
 (hcp : ∀ i, i < n → ∀ y ∈ x.es i, y.seq = e.seq → y.key = e.key ∧ y.del = e.del ∧ y.size = e.size) (hle : IdxLe c n M x) (hc : c < 100) :
 Calls Tryz.prog 64 #[.pointer (some ⟨X, 0, none⟩), e.val] w fun en w' => en = .returned (.int .i64 0) ∧
  ∃ col' x', EIn w' col' PP D B X n s r st (addM M e) x' ∧ x'.es = addE x.es e ∧ IdxLe (c + 1) n (addM M e) x' ∧ Upd (fun b => (col b).1 = 3) w w' ∧ Kept w col col' ∧ ∀ b, w.heap.size ≤ b → (col' b).1 = 3 ∨ (col' b).1 = 0 := by
 refine (h.idx.add hs hok ho hd hcp hle hc h.new (by decide)).mono ?_
 rintro en w' ⟨rfl, U, col', x', hi, hx, hle', hk, hn, hq⟩
 exact ⟨rfl, col', x', h.idx' U hk hi hn, hx, hle', U, hk, hq⟩
theorem close1 {W : World} {a b c D i : Nat} {v : Value} {Q : World → Prop} (ha : W.cell? ⟨a, 0, none⟩ = some (.pointer (some ⟨D, 0, none⟩))) (hb : W.cell? ⟨b, 0, none⟩ = some (.int .i64 ((i : Nat) : Int))) (hc : W.cell? ⟨c, 0, none⟩ = some v) (hv : v.oneCell' = true)
 (HA : Calls Tryz.prog 107 #[.pointer (some ⟨D, 0, none⟩), .int .i64 ((i : Nat) : Int), v] W fun e w' => e = .returned (.int .i64 0) ∧ Q w') :
 Calls Tryz.prog 223 #[.pointer (some ⟨a, 0, none⟩), .pointer (some ⟨b, 0, none⟩), .pointer (some ⟨c, 0, none⟩)] W fun e w' => e = .returned (.int .i64 0) ∧ Q w' := by
 have H := Lib.hid HA
 clear HA
 go_enter Tryz.func223, Tryz.ntmps223
 go_wp2_with (first | (go_at_call 107; refine H.out.mono ?_; rintro e w1 ⟨rfl, hQ⟩) | go_in)
 go_ret
 exact ⟨rfl, hQ⟩
theorem close2 {W : World} {a b D i : Nat} {Q : World → Prop} (ha : W.cell? ⟨a, 0, none⟩ = some (.pointer (some ⟨D, 0, none⟩))) (hb : W.cell? ⟨b, 0, none⟩ = some (.int .i64 ((i : Nat) : Int)))
 (HA : Calls Tryz.prog 108 #[.pointer (some ⟨D, 0, none⟩), .int .i64 ((i : Nat) : Int)] W fun e w' => e = .returned (.int .i64 0) ∧ Q w') :
 Calls Tryz.prog 224 #[.pointer (some ⟨a, 0, none⟩), .pointer (some ⟨b, 0, none⟩)] W fun e w' => e = .returned (.int .i64 0) ∧ Q w' := by
 have H := Lib.hid HA
 clear HA
 go_enter Tryz.func224, Tryz.ntmps224
 go_wp2_with (first | (go_at_call 108; refine H.out.mono ?_; rintro e w1 ⟨rfl, hQ⟩) | go_in)
 go_ret
 exact ⟨rfl, hQ⟩
theorem close3 {W : World} {a b B i : Nat} {Q : World → Prop} (ha : W.cell? ⟨a, 0, none⟩ = some (.pointer (some ⟨B, 0, none⟩))) (hb : W.cell? ⟨b, 0, none⟩ = some (.int .i64 ((i : Nat) : Int)))
 (HA : Calls Tryz.prog 109 #[.pointer (some ⟨B, 0, none⟩), .int .i64 ((i : Nat) : Int)] W fun e w' => e = .returned (.int .i64 0) ∧ Q w') :
 Calls Tryz.prog 225 #[.pointer (some ⟨a, 0, none⟩), .pointer (some ⟨b, 0, none⟩)] W fun e w' => e = .returned (.int .i64 0) ∧ Q w' := by
 have H := Lib.hid HA
 clear HA
 go_enter Tryz.func225, Tryz.ntmps225
 go_wp2_with (first | (go_at_call 109; refine H.out.mono ?_; rintro e w1 ⟨rfl, hQ⟩) | go_in)
 go_ret
 exact ⟨rfl, hQ⟩
end Go.M
namespace Go.M
open Go.Proofs Go.RowKit
set_option linter.unusedSimpArgs false
variable {w : World} {col : Col} {PP D B X n r : Nat} {s : DevS} {st : Nat → Nat} {M : ByteArray → List Ent} {x : IdxS}
def appD (s : DevS) (i : Nat) (bs : List UInt8) : DevS := s.put i { s.img i with bs := (s.img i).bs ++ bs }
def synD (s : DevS) (i : Nat) : DevS := s.put i { s.img i with dur := (s.img i).bs.length }
def ClP (WA : World) (col : Col) (PP D B X n r : Nat) (s : DevS) (st : Nat → Nat) (M : ByteArray → List Ent) (x : IdxS) (i : Nat) (fb : List UInt8) (k : Nat) (W : World) : Prop :=
 ∃ col', Kept WA col col' ∧ Upd (EF col) WA W ∧ EIn W col' PP D B X n (if k = 0 then s else if k = 1 then appD s i fb else synD (appD s i fb) i) r (if k ≤ 2 then st else setSt st i 2) M x
theorem EF.after {WA W W' : World} {col col' : Col} {q : Nat} (h : Upd (EF col) WA W) (hk : Kept WA col col') (q1 : 1 ≤ q) (q3 : q ≤ 3) (U : Upd (fun b => (col' b).1 = q) W W') : Upd (EF col) WA W' :=
 h.after U (fun b hb hf => by unfold EF; rw [hk b hb] at hf; omega)
theorem BytesAt.lt {W : World} {v : Value} {bs : List UInt8} (h : BytesAt W v bs) (hl : 0 < bs.length) : ∃ ad c, v = .slice (some ad) bs.length c ∧ ad.block < W.heap.size := by
 rcases h with ⟨_, h⟩ | ⟨ad, c, h1, h2⟩
 ·rw [h] at hl; simp at hl
 ·refine ⟨ad, c, h1, ?_⟩
  obtain ⟨y, hy⟩ : ∃ y, bs[0]? = some y := ⟨bs[0], List.getElem?_eq_getElem hl⟩
  have := h2 0 _ (by rw [List.getElem?_map, hy]; rfl)
  have := World.block_lt_of_cell? W _ this
  unfold Addr.add at this
  simpa using this
theorem close_steps {w WA : World} {H Bb SB : Nat} {v : Value} {fb : List UInt8} {i : Nat} (h : EIn WA col PP D B X n s r st M x) (hc : ∀ b, w.heap.size ≤ b → (col b).1 = 0) (hH : w.heap.size ≤ H) (hBb : w.heap.size ≤ Bb) (hSB : w.heap.size ≤ SB)
 (c0 : WA.cell? ⟨H, 0, none⟩ = some (.pointer (some ⟨D, 0, none⟩))) (c1 : WA.cell? ⟨H + 1, 0, none⟩ = some (.pointer (some ⟨B, 0, none⟩))) (c2 : WA.cell? ⟨H + 1 + 1, 0, none⟩ = some (.int .i64 ((i : Nat) : Int))) (c3 : WA.cell? ⟨Bb, 0, none⟩ = some v)
 (s0 : WA.cell? ⟨SB, 0, none⟩ = some (.func (.func 223) #[] #[.pointer (some ⟨H, 0, none⟩), .pointer (some ⟨H + 1 + 1, 0, none⟩), .pointer (some ⟨Bb, 0, none⟩)]))
 (s1 : WA.cell? ⟨SB, 1, none⟩ = some (.func (.func 224) #[] #[.pointer (some ⟨H, 0, none⟩), .pointer (some ⟨H + 1 + 1, 0, none⟩)]))
 (s2 : WA.cell? ⟨SB, 2, none⟩ = some (.func (.func 225) #[] #[.pointer (some ⟨H + 1, 0, none⟩), .pointer (some ⟨H + 1 + 1, 0, none⟩)]))
 (hb : BytesAt WA v fb) (hl : fb.length = 16) (hfr : ∀ ad m c, v = .slice (some ad) m c → w.heap.size ≤ ad.block) (hi : i < n) (hst : st i = 1 ∨ st i = 4) (hroom : (s.img i).bs.length + 16 ≤ (s.img i).sz) (ho : s.ops < 900000000) :
 Calls Tryz.prog 145 #[.slice (some ⟨SB, 0, none⟩) 3 3] WA fun e w' => e = .returned (.int .i64 0) ∧ ClP WA col PP D B X n r s st M x i fb 3 w' := by
 have nE : ∀ b, w.heap.size ≤ b → ¬ EF col b := fun b hb h => by have := hc b hb; unfold EF at h; omega
 obtain ⟨ad, cc, rfl, hadl⟩ := hb.lt (by omega)
 have hadw := hfr _ _ _ rfl
 refine steps3 (P := ClP WA col PP D B X n r s st M x i fb) (fun k W hk ⟨col', hK, U, hE⟩ => ⟨U.cellOf s0 (nE _ hSB), U.cellOf s1 (nE _ hSB), U.cellOf s2 (nE _ hSB)⟩) ⟨col, Kept.refl _ _, Upd.refl _ _, h⟩ ?_ ?_ ?_
 ·rintro W ⟨col', hK, U, hE⟩
  replace hE : EIn W col' PP D B X n s r st M x := hE
  refine close1 (U.cellOf c0 (nE _ hH)) (U.cellOf c2 (nE _ (by omega))) (U.cellOf c3 (nE _ hBb)) rfl ?_
  have hbW : BytesAt W (.slice (some ad) fb.length cc) fb := hb.upd U (fun ad' m c e hf => nE _ (by injection e with e _ _; injection e with e; rw [← e]; exact hadw) hf)
  refine (hE.append hi hbW (by omega) (by omega) (by omega) (fun ad' m c e => by injection e with e _ _; injection e with e; rw [← e, hK _ hadl, hc _ hadw]; decide)).mono ?_
  rintro e w' ⟨rfl, col2, hE2, U2, hK2, -⟩
  exact ⟨rfl, col2, fun b hb => by rw [hK2 b (Nat.lt_of_lt_of_le hb U.size), hK b hb], EF.after U hK (by omega) (by omega) U2, hE2⟩
 ·rintro W ⟨col', hK, U, hE⟩
  replace hE : EIn W col' PP D B X n (appD s i fb) r st M x := hE
  refine close2 (U.cellOf c0 (nE _ hH)) (U.cellOf c2 (nE _ (by omega))) ?_
  refine (hE.sync hi (by show s.ops + 1 < _; omega)).mono ?_
  rintro e w' ⟨rfl, hE2, U2⟩
  exact ⟨rfl, col', hK, EF.after U hK (by omega) (by omega) U2, hE2⟩
 ·rintro W ⟨col', hK, U, hE⟩
  replace hE : EIn W col' PP D B X n (synD (appD s i fb) i) r st M x := hE
  refine close3 (U.cellOf c1 (nE _ (by omega))) (U.cellOf c2 (nE _ (by omega))) ?_
  refine (hE.seal hi hst).mono ?_
  rintro e w' ⟨rfl, hE2, U2⟩
  exact ⟨rfl, col', hK, EF.after U hK (by omega) (by omega) U2, hE2⟩
theorem EIn.close (h : EIn w col PP D B X n s r st M x) {i : Nat} (hi : i < n) (hst : st i = 1 ∨ st i = 4) (hq : ∀ y ∈ x.es i, SeqOk y) (hroom : (s.img i).bs.length + 16 ≤ (s.img i).sz) (ho : s.ops < 900000000) :
 Calls Tryz.prog 153 #[.pointer (some ⟨D, 0, none⟩), .pointer (some ⟨B, 0, none⟩), .pointer (some ⟨X, 0, none⟩), .int .i64 ((i : Nat) : Int)] w fun e w' => e = .returned (.tuple #[.int .i64 16, .int .i64 0]) ∧
  ∃ col' fb, fb.length = 16 ∧ EIn w' col' PP D B X n (synD (appD s i fb) i) r (setSt st i 2) M x ∧ Upd (EF col) w w' ∧ Kept w col col' := by
 have hl := h.idx.len i hi
 have h9 := h.idx.hi
 obtain ⟨tX, fX⟩ := h.idx.fX
 have HC := Lib.hid (fun (W : World) (U : Old w W) => (h.old U).ocheck)
 have HS := Lib.hid (fun (W : World) (U : Old w W) => (h.old U).tab.state hi)
 have HL := Lib.hid (fun (W : World) (U : Old w W) => olast (Old.cellOf' U (fX.cell 1)) (Old.cellOf' U (by rw [h.idx.fS.cell]; exact h.idx.fs i hi)) hi h9 (Upd.own U (h.idx.own i hi) (fun _ _ x => x)) (by omega) hq)
 have HFE := Lib.hid (fun (W : World) (l : Nat) (h1 : l ≤ 1099511627776) (h2 : (x.es i).length = 0 ↔ l = 0) => fencode (w := W) (count := (x.es i).length) (last := l) (by omega) h1 h2)
 have HH := Lib.hid h
 have e1 : ((st i : Nat) : Int) = 1 ∨ ((st i : Nat) : Int) = 4 := by omega
 have HST := Lib.hid hst
 clear fX hq h
 go_enter Tryz.func153, Tryz.ntmps153
 go_wp2_with (first | (go_at_call 152; refine (HC.out _ ?_).mono ?_; (exact (((Upd.refl _ w).alloc _).alloc _).alloc _); rintro e w1 ⟨rfl, hU⟩; have a0 : w1.cell? ⟨w.heap.size, 0, none⟩ = some (.pointer (some ⟨D, 0, none⟩)) := Old.cellOf' hU (by go_simp); have a1 : w1.cell? ⟨w.heap.size + 1, 0, none⟩ = some (.pointer (some ⟨B, 0, none⟩)) := Old.cellOf' hU (by go_simp); have a2 : w1.cell? ⟨w.heap.size + 1 + 1, 0, none⟩ = some (.int .i64 ((i : Nat) : Int)) := Old.cellOf' hU (by go_simp); have H1 := Lib.hid (show Old w w1 from Upd.trans ((((Upd.refl _ w).alloc _).alloc _).alloc _) hU); clear hU) | (go_at_call 32; refine (HS.out _ H1.out).mono ?_; rintro e w2 ⟨rfl, rfl⟩; refine Hid.out ?_) | go_in)
 rcases e1 with e1 | e1
 all_goals
  refine Lib.hid ?_
  go_wp2_with (first | (go_at_call 222; refine (HL.out _ H1.out).mono ?_; rintro e w3 ⟨⟨l, rfl, hl1, hl2⟩, hU⟩; have b0 := Old.cellOf' hU a0; have b1 := Old.cellOf' hU a1; have b2 := Old.cellOf' hU a2; have H3 := Lib.hid (Upd.trans H1.out hU); clear hU) | (go_at_call 176; refine (HFE.out _ l hl1 hl2).mono ?_; rintro e w4 ⟨v, fb, rfl, hbt, hbl, hU, hfr⟩; obtain ⟨va, vn, vc, rfl⟩ : ∃ a n c, v = .slice a n c := (by rcases hbt with ⟨h, _⟩ | ⟨ad, c, h, _⟩ <;> exact ⟨_, _, _, h⟩); have c0 := Old.cellOf' hU b0; have c1 := Old.cellOf' hU b1; have c2 := Old.cellOf' hU b2; have H4 := Lib.hid (Upd.trans H3.out hU); have HB := Lib.hid (And.intro hbt (And.intro hbl hfr)); clear hU hbt hbl hfr) | (go_at_call 145; refine Hid.out ?_) | go_in)
  generalize hWA : World.alloc (World.alloc w4 _) _ = WA
  have U4 : Old w4 WA := by subst hWA; exact ((Upd.refl _ w4).alloc _).alloc _
  have d3 : WA.cell? ⟨w4.heap.size, 0, none⟩ = some (.slice va vn vc) := by subst hWA; go_simp
  have s0 : WA.cell? ⟨w4.heap.size + 1, 0, none⟩ = some (.func (.func 223) #[] #[.pointer (some ⟨w.heap.size, 0, none⟩), .pointer (some ⟨w.heap.size + 1 + 1, 0, none⟩), .pointer (some ⟨w4.heap.size, 0, none⟩)]) := by subst hWA; go_simp
  have s1 : WA.cell? ⟨w4.heap.size + 1, 1, none⟩ = some (.func (.func 224) #[] #[.pointer (some ⟨w.heap.size, 0, none⟩), .pointer (some ⟨w.heap.size + 1 + 1, 0, none⟩)]) := by subst hWA; go_simp
  have s2 : WA.cell? ⟨w4.heap.size + 1, 2, none⟩ = some (.func (.func 225) #[] #[.pointer (some ⟨w.heap.size + 1, 0, none⟩), .pointer (some ⟨w.heap.size + 1 + 1, 0, none⟩)]) := by subst hWA; go_simp
  clear hWA
  have HO := Lib.hid (Upd.trans H4.out U4)
  have hsz := H4.out.size
  refine Lib.hid ?_
  refine (close_steps (w := w) (HH.out.old HO.out) (fun b hb => HH.out.new b hb) (Nat.le_refl _) hsz (by omega) (Old.cellOf' U4 c0) (Old.cellOf' U4 c1) (Old.cellOf' U4 c2) d3 s0 s1 s2 (HB.out.1.old U4) HB.out.2.1 (fun ad m c e => Nat.le_trans H3.out.size (HB.out.2.2 ad m c e)) hi HST.out hroom ho).mono ?_
  rintro e w5 ⟨rfl, col', hK, hU, hE⟩
  have HE5 := Lib.hid (And.intro hK (And.intro hU hE))
  clear hK hU hE
  go_wp2
  go_ret2
  obtain ⟨hK, hU, hE⟩ := HE5.out
  exact ⟨rfl, col', fb, HB.out.2.1, hE, (HO.out.mono (fun _ _ x => x.elim)).trans hU, fun b hb => hK b (Nat.lt_of_lt_of_le hb HO.out.size)⟩
def ClosedD (w : World) (col : Col) (PP D B X n r : Nat) (s : DevS) (st : Nat → Nat) (M : ByteArray → List Ent) (x : IdxS) (i : Nat) (w' : World) : Prop :=
 ∃ col' fb, fb.length = 16 ∧ EIn w' col' PP D B X n (synD (appD s i fb) i) r (setSt st i 2) M x ∧ Upd (EF col) w w' ∧ Kept w col col'
theorem EIn.oseal_none (h : EIn w col PP D B X n s r st M x) (hl : lowS st n 4 = none) :
 Calls Tryz.prog 70 #[.pointer (some ⟨D, 0, none⟩), .pointer (some ⟨B, 0, none⟩), .pointer (some ⟨X, 0, none⟩)] w fun e w' => e = .returned (.tuple #[.int .i64 0, .int .i64 0]) ∧ Old w w' := by
 have HC := Lib.hid h.ocheck
 have HO := Lib.hid (fun (W : World) (U : Old w W) => (h.old U).tab.noout hl)
 clear h
 go_enter Tryz.func70, Tryz.ntmps70
 go_wp2_with (first | (go_at_call 152; refine HC.out.mono ?_; rintro e w1 ⟨rfl, hU⟩; have H1 := Lib.hid hU; clear hU) | (go_at_call 10; refine (HO.out _ H1.out).mono ?_; rintro e w2 ⟨rfl, rfl⟩) | go_in)
 go_ret2
 exact ⟨rfl, H1.out⟩
theorem EIn.oseal (h : EIn w col PP D B X n s r st M x) {i : Nat} (hl : lowS st n 4 = some i) (hq : ∀ y ∈ x.es i, SeqOk y) (hroom : (s.img i).bs.length + 16 ≤ (s.img i).sz) (ho : s.ops < 900000000) :
 Calls Tryz.prog 70 #[.pointer (some ⟨D, 0, none⟩), .pointer (some ⟨B, 0, none⟩), .pointer (some ⟨X, 0, none⟩)] w fun e w' => e = .returned (.tuple #[.int .i64 16, .int .i64 0]) ∧ ClosedD w col PP D B X n r s st M x i w' := by
 obtain ⟨hi, hst⟩ := lowS_some hl
 have HC := Lib.hid h.ocheck
 have HO := Lib.hid (fun (W : World) (U : Old w W) => (h.old U).tab.output (h.old U).gl.db hl)
 have HX := Lib.hid (fun (W : World) (U : Old w W) => (h.old U).close hi (.inr hst) hq hroom ho)
 clear h
 go_enter Tryz.func70, Tryz.ntmps70
 go_wp2_with (first | (go_at_call 152; refine HC.out.mono ?_; rintro e w1 ⟨rfl, hU⟩; have H1 := Lib.hid hU; clear hU) | (go_at_call 10; refine (HO.out _ H1.out).mono ?_; rintro e w2 ⟨rfl, rfl⟩) | (go_at_call 153; refine (HX.out _ H1.out).mono ?_; rintro e w3 ⟨rfl, hD⟩; have HD := Lib.hid hD; clear hD) | go_in)
 go_ret2
 obtain ⟨col', fb, h1, h2, h3, h4⟩ := HD.out
 exact ⟨rfl, col', fb, h1, h2, (H1.out.mono (fun _ _ x => x.elim)).trans h3, fun b hb => h4 b (Nat.lt_of_lt_of_le hb H1.out.size)⟩
end Go.M
