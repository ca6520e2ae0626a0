/- Walks 21. -/
import Derived.Test.YtjadmbkmlehfdaaGreatDoorProg
import Derived.Test.YtjadmbkmlehfdaaGreatDoorK18
import Derived.Test.YtjadmbkmlehfdaaGreatDoorK19
import Derived.Test.YtjadmbkmlehfdaaGreatDoorK15
import Derived.Test.YtjadmbkmlehfdaaGreatDoorK14
import Derived.Test.YtjadmbkmlehfdaaGreatDoorK20
set_option linter.unusedVariables false
set_option linter.unusedSimpArgs false
set_option maxRecDepth 100000
namespace Go.M
open Go.Proofs Go.RowKit
theorem do_any {w : World} {col : Col} {PP D B X : Nat} {k : Cf} {next used : Nat} {act : Bool} {lens : Nat → Nat} {ops kind key size : Nat} (h : PIn w col PP D B X k next used used act lens ops) (ho : ops < 800000) (hk : kind < 256) (hy : key < 256) (hs : size < 256) (hn : next ≤ 99) :
 Calls Tryz.prog 40 #[.pointer (some ⟨PP, 0, none⟩), .agg #[.int .u8 ((kind : Nat) : Int), .int .u8 ((key : Nat) : Int), .int .u8 ((size : Nat) : Int)]] w (DoPost w PP D B X k next ops col) := by
 cases h6 : ((kind : Int) % 8 == 6) with
 | true =>
  cases act with
  | true => exact do_close h ho hk h6
  | false => exact do_none h hk h6
 | false =>
  exact do_rec h ho hk hy hs h6 hn
def whichM (M : Nat → Nat) (k b : Nat) : Option Nat := (List.range k).find? fun i => M i == b
theorem whichM_some {M : Nat → Nat} {k i : Nat} (hm : ∀ i j, i < j → j < k → M i < M j) (hi : i < k) : whichM M k (M i) = some i := by
 unfold whichM
 rcases h : (List.range k).find? (fun j => M j == M i) with _ | j
 ·rw [List.find?_eq_none] at h
  have := h i (List.mem_range.2 hi)
  simp at this
 ·have h1 := List.find?_some h
  have h2 := List.mem_of_find?_eq_some h
  simp only [beq_iff_eq] at h1
  rw [List.mem_range] at h2
  rcases Nat.lt_trichotomy i j with h3 | h3 | h3
  ·have := hm i j h3 h2; omega
  ·rw [h3]
  ·have := hm j i h3 hi; omega
theorem whichM_none {M : Nat → Nat} {k b : Nat} (h : ∀ i, i < k → M i ≠ b) : whichM M k b = none := by
 unfold whichM
 rw [List.find?_eq_none]
 intro i hi
 rw [List.mem_range] at hi
 simpa using h i hi
def devCol (D K S T : Nat) (M : Nat → Nat) (k : Nat) : Col := fun b => if b = D then (1, 0) else if b = K then (1, 1) else if b = S then (1, 2) else if b = T then (1, 3) else match whichM M k b with | some i => (1, 4 + 2 * i) | none => (0, 0)
theorem dev_at {w w1 : World} {n size : Nat} {e : Ending} (h : NewDev w n size e w1) (h0 : 2 ≤ n) (h1 : n ≤ 10) (hs : 1 ≤ size) (hs2 : size ≤ 8192) :
 ∃ D col, e = .returned (.tuple #[.pointer (some ⟨D, 0, none⟩), .int .i64 0]) ∧ Old w w1 ∧ DevU w1 col 1 D n size (fun _ => 0) (fun _ => True) 0 ∧ ∀ b, b < w.heap.size → col b = (0, 0) := by
 obtain ⟨D, K, T, M, v, rfl, hD, hT, hA, hwK, hMT, hKT, hTD⟩ := h
 obtain ⟨g, c, hv⟩ := own_block hA.row (by omega)
 have hg := hA.rnew g (by rw [hv]; rfl)
 obtain ⟨cur, hcur⟩ := own_has hA.row (b := g) (by rw [hv]; rfl)
 have gM : ∀ i, i < n + 2 → M i ≠ g := fun i hi e => by
  have h2 := hA.img i hi
  rw [e] at h2
  unfold Has at h2 hcur
  rw [hcur] at h2
  injection h2 with h2
  injection h2 with _ h2 _
  exact absurd h2 (by decide)
 have gT : g ≠ T := fun e => by
  rw [e] at hcur
  unfold Has at hT hcur
  rw [hcur] at hT
  injection hT with h2
  injection h2 with _ h2 _
  exact absurd h2 (by decide)
 have gD : g ≠ D := fun e => by
  rw [e] at hcur
  unfold Has at hD hcur
  rw [hcur] at hD
  injection hD with h2
  injection h2 with _ h2 _
  exact absurd h2 (by decide)
 refine ⟨D, devCol D K g T M (n + 2), rfl, hA.old, ⟨⟨n, fun i => ⟨[], 0, if i < n then size else 64⟩, 0, false⟩, K, g, c, T, M, fun _ => .slice none 0 0, ⟨⟨_, hD⟩, ⟨_, by have := hA.hD; rw [hv] at this; exact this⟩, ⟨_, hT⟩, fun i hi => ?_, fun i hi => ?_, by show 2 ≤ n; omega, by show n ≤ 32; omega, ?_, ?_, ?_, ?_, fun i hi => ?_, fun i hi b hb => (by cases hb), by show (0 : Int) ≤ 0; omega, by show (0 : Int) ≤ 1000000000; omega⟩, rfl, rfl, rfl, fun i hi => ⟨by show (if i < n then size else 64) = size; rw [if_pos hi], rfl, fun _ => rfl⟩⟩, fun b hb => ?_⟩
 ·have h2 := hA.row.cells (g := g) (by rw [hv]; rfl) i (.pointer (some ⟨M i, 0, none⟩)) (by rw [List.getElem?_map, List.getElem?_range hi]; rfl)
  rwa [show (⟨g, 0, none⟩ : Addr).add i = ⟨g, i, none⟩ from by unfold Addr.add; split <;> simp_all] at h2
 ·exact ⟨⟨_, hA.img i hi⟩, World.ownsRow_nil _ _ _ _, Nat.zero_le _, Nat.le_refl _, by show 1 ≤ (if i < n then size else 64); split <;> omega, by show (if i < n then size else 64) ≤ 8192; split <;> omega⟩
 ·unfold devCol; rw [if_pos rfl]
 ·unfold devCol; rw [if_neg (by omega), if_pos rfl]
 ·unfold devCol; rw [if_neg gD, if_neg (by omega), if_pos rfl]
 ·unfold devCol; rw [if_neg (by omega), if_neg (by omega), if_neg (Ne.symm gT), if_pos rfl]
 ·have hM := hA.new i hi
  have hM2 := hMT i hi
  unfold devCol
  rw [if_neg (by omega), if_neg (by omega), if_neg (gM i hi), if_neg (by omega), whichM_some hA.inc hi]
 ·unfold devCol
  rw [if_neg (by omega), if_neg (by omega), if_neg (by omega), if_neg (by omega), whichM_none (fun i hi => by have := hA.new i hi; omega)]
theorem tab_at {w w1 : World} {n r : Nat} {col : Col} (h : NewTab w n r w1) (h0 : 0 < n) (h1 : n < 10) (hr : r ≤ n) :
 TabU w1 (fun b => if b < w.heap.size then col b else if b < w.heap.size + 6 then (2, b - w.heap.size) else (0, 0)) 2 w.heap.size n r 0 false := by
 refine ⟨⟨⟨n, r, fun k => if k = 0 then 2 ^ n - 1 else 0⟩, fun k => w.heap.size + 1 + k, ⟨⟨_, h.hB⟩, fun k hk => ?_, ?_, fun k hk => ?_, h0, by show n ≤ 10; omega, hr, fun k hk => ?_⟩, rfl, rfl, fun k hk => ⟨?_, fun i hi => ?_⟩, fun i hi => by simp [stU]⟩, h1, Nat.zero_le _⟩
 ·have : k = 0 ∨ k = 1 ∨ k = 2 ∨ k = 3 ∨ k = 4 := by omega
  rcases this with rfl | rfl | rfl | rfl | rfl
  ·exact ⟨_, h.z0⟩
  ·exact ⟨_, h.z1⟩
  ·exact ⟨_, h.z2⟩
  ·exact ⟨_, h.z3⟩
  ·exact ⟨_, h.z4⟩
 ·simp
 ·(try simp only)
  rw [if_neg (by omega), if_pos (by omega)]
  simp; omega
 ·(try simp only)
  have := Nat.two_pow_pos n
  split <;> omega
 ·(try simp only)
  have := Nat.two_pow_pos n
  split <;> omega
 ·show (if k = 0 then 2 ^ n - 1 else 0).testBit i = (stU 0 false i == k)
  have hi' : i < n := hi
  have e0 : stU 0 false i = 0 := by simp [stU]
  rw [e0]
  by_cases hk0 : k = 0
  ·subst hk0
   rw [if_pos rfl, Nat.testBit_two_pow_sub_one]
   simpa using hi'
  ·rw [if_neg hk0, Nat.zero_testBit]
   symm
   rw [beq_eq_false_iff_ne]
   exact Ne.symm hk0
def idxCol (L : Nat) (col : Col) (X O S : Nat) : Col := fun b => if b < L then col b else if b = X then (3, 0) else if b = O then (3, 1) else if b = S then (3, 2) else (0, 0)
theorem idx_at {w w1 : World} {n zm : Nat} {col : Col} {e : Ending} (h : NewIdx w n e w1) (h0 : 0 < n) (h1 : n ≤ 10) :
 ∃ X col', e = .returned (.tuple #[.pointer (some ⟨X, 0, none⟩), .int .i64 0]) ∧ Old w w1 ∧ IdxAt w1 col' 3 X n 1 0 (fun _ => 0) zm ∧ Kept w col col' := by
 obtain ⟨X, O, S, rfl, hX, hO, hS, lX, lO, lS, nXO, nXS, nOS, hU⟩ := h
 refine ⟨X, idxCol w.heap.size col X O S, rfl, hU, ⟨⟨O, S, n, _, _, .slice none 0 0, 0, fun _ => ⟨#[]⟩, fun _ => .slice none 0 0, fun _ => .slice none 0 0, fun _ => [], fun _ => []⟩, ⟨⟨_, hX⟩, hS, fun i hi => ?_, ⟨⟨_, hO⟩, World.ownsRow_nil _ _ _ _, fun k i j h1 h2 => absurd h2 (Nat.not_lt_zero _), Nat.zero_le _⟩, by show 0 < 1; omega, fun i hi => World.ownsRow_nil _ _ _ _, fun i hi => by show 0 < 1; omega, fun i hi x hx => (by cases hx), fun i hi x hx => (by cases hx), fun i hi hu => (by omega), fun r hr => (by cases hr), ?_, ?_, ?_, fun b hb => (by cases hb), fun i hi b hb => (by cases hb), h1, by omega, ⟨fun i hi x hx => (by cases hx), fun r hr => (by cases hr), fun i j hi => (by cases hi), fun r hr => (by cases hr), fun i hi => List.Pairwise.nil⟩⟩⟩, fun b hb => by unfold idxCol; rw [if_pos hb]⟩
 ·show (madeCells #[.slice none 0 0] n)[i]? = some (.slice none 0 0)
  rw [Array.getElem?_eq_getElem (by rw [size_madeCells]; exact hi)]
  simp [madeCells, Nat.mod_one]
 ·show idxCol w.heap.size col X O S X = _
  unfold idxCol; rw [if_neg (by omega), if_pos rfl]
 ·show idxCol w.heap.size col X O S O = _
  unfold idxCol; rw [if_neg (by omega), if_neg (Ne.symm nXO), if_pos rfl]
 ·show idxCol w.heap.size col X O S S = _
  unfold idxCol; rw [if_neg (by omega), if_neg (Ne.symm nXS), if_neg (Ne.symm nOS), if_pos rfl]
def MoveAt (w : World) (lb lo j : Nat) : Prop := ∃ kd ky sz : Nat, kd < 256 ∧ ky < 256 ∧ sz < 256 ∧ w.cell? ⟨lb, lo + j * 3, none⟩ = some (.int .u8 ((kd : Nat) : Int)) ∧ w.cell? ⟨lb, lo + j * 3 + 1, none⟩ = some (.int .u8 ((ky : Nat) : Int)) ∧ w.cell? ⟨lb, lo + j * 3 + 2, none⟩ = some (.int .u8 ((sz : Nat) : Int))
def MadeRel (w : World) (k : Cf) (PP D B X it : Nat) (wr : World) : Prop := ∃ col next used act lens ops, PIn wr col PP D B X k next used used act lens ops ∧ next ≤ it + 1 ∧ ops ≤ 10 * it ∧ (∀ b, b < w.heap.size → col b = (0, 0)) ∧ Old w wr
theorem MadeRel.old {w wr wr' : World} {k : Cf} {PP D B X it : Nat} (h : MadeRel w k PP D B X it wr) (U : Old wr wr') : MadeRel w k PP D B X it wr' := by
 obtain ⟨col, next, used, act, lens, ops, hp, h1, h2, h3, h4⟩ := h
 exact ⟨col, next, used, act, lens, ops, hp.old U (Kept.refl _ _) hp.lts.1 hp.lts.2, h1, h2, h3, h4.trans U⟩
theorem made_do {w wr : World} {k : Cf} {PP D B X it kd ky sz : Nat} (h : MadeRel w k PP D B X it wr) (hi : it < 60) (hk : kd < 256) (hy : ky < 256) (hs : sz < 256) :
 Calls Tryz.prog 40 #[.pointer (some ⟨PP, 0, none⟩), .agg #[.int .u8 ((kd : Nat) : Int), .int .u8 ((ky : Nat) : Int), .int .u8 ((sz : Nat) : Int)]] wr fun e w' => e = .returned (.bool true) ∧ MadeRel w k PP D B X (it + 1) w' := by
 obtain ⟨col, next, used, act, lens, ops, hp, h1, h2, h3, h4⟩ := h
 refine (do_any hp (by omega) hk hy hs (by omega)).mono ?_
 rintro e w' ⟨rfl, col', used', act', lens', next', ops', hp', a1, a2, a3, a4⟩
 have s4 := h4.size
 refine ⟨rfl, col', next', used', act', lens', ops', hp', by omega, by omega, fun b hb => by rw [a3 b (by omega), h3 b hb], h4.after a4 (fun b hb e => ?_)⟩
 rw [h3 b hb] at e
 simp at e
def kOf (n0 n1 n2 n3 n4 n5 n6 : Nat) : Cf := ⟨2 + n0 % 2 + 2 + n4 % 5, 16 + (16 + (2 + n1 % 5) + n2 % 24) + n5, 2 + n0 % 2, n2 % 24, ((2 * (16 + (2 + n1 % 5) + n2 % 24 + 16) + n6 : Nat) : Int), ((2 + n1 % 5 : Nat) : Int), ((1 + n3 % 2 : Nat) : Int)⟩
theorem made_start {w w0 w1 w2 w3 : World} {n0 n1 n2 n3 n4 n5 n6 : Nat} (h5 : n5 < 256) {e1 e3 : Ending} (O0 : Old w w0) (hdb : DbAt w) (hse : SealAt w) (hd : NewDev w0 (kOf n0 n1 n2 n3 n4 n5 n6).n (kOf n0 n1 n2 n3 n4 n5 n6).size e1 w1) (ht : NewTab w1 (kOf n0 n1 n2 n3 n4 n5 n6).n (kOf n0 n1 n2 n3 n4 n5 n6).reserve w2) (hi : NewIdx w2 (kOf n0 n1 n2 n3 n4 n5 n6).n e3 w3) :
 ∃ D X, e1 = .returned (.tuple #[.pointer (some ⟨D, 0, none⟩), .int .i64 0]) ∧ e3 = .returned (.tuple #[.pointer (some ⟨X, 0, none⟩), .int .i64 0]) ∧ ∀ w4, Old w3 w4 → ∀ PP t, w3.heap.size ≤ PP → Has w4 PP t #[.int .i64 (((kOf n0 n1 n2 n3 n4 n5 n6).n : Nat) : Int), .int .i64 (((kOf n0 n1 n2 n3 n4 n5 n6).size : Nat) : Int), .int .i64 (((kOf n0 n1 n2 n3 n4 n5 n6).reserve : Nat) : Int), .int .i64 (kOf n0 n1 n2 n3 n4 n5 n6).c3, .int .i64 (kOf n0 n1 n2 n3 n4 n5 n6).c4, .int .i64 (((kOf n0 n1 n2 n3 n4 n5 n6).value : Nat) : Int), .int .i64 (kOf n0 n1 n2 n3 n4 n5 n6).c6, .pointer (some ⟨D, 0, none⟩), .pointer (some ⟨w1.heap.size, 0, none⟩), .pointer (some ⟨X, 0, none⟩), .int .i64 1] →
  MadeRel w (kOf n0 n1 n2 n3 n4 n5 n6) PP D w1.heap.size X 0 w4 := by
 have kn : (kOf n0 n1 n2 n3 n4 n5 n6).n = 2 + n0 % 2 + 2 + n4 % 5 := rfl
 have ks : (kOf n0 n1 n2 n3 n4 n5 n6).size = 16 + (16 + (2 + n1 % 5) + n2 % 24) + n5 := rfl
 have kr : (kOf n0 n1 n2 n3 n4 n5 n6).reserve = 2 + n0 % 2 := rfl
 have kv : (kOf n0 n1 n2 n3 n4 n5 n6).value = n2 % 24 := rfl
 generalize kOf n0 n1 n2 n3 n4 n5 n6 = k at *
 obtain ⟨D, cD, rfl, O1, hD, zD⟩ := dev_at hd (by omega) (by omega) (by omega) (by omega)
 have hT := tab_at (col := cD) ht (by omega) (by omega) (by omega)
 obtain ⟨X, cX, rfl, O3, hX, kX⟩ := idx_at (col := fun b => if b < w1.heap.size then cD b else if b < w1.heap.size + 6 then (2, b - w1.heap.size) else (0, 0)) hi (by omega) (by omega)
 have O2 := ht.old
 refine ⟨D, X, rfl, rfl, fun w4 O4 PP t hPP hp => ?_⟩
 have k1 : Kept w1 cD (fun b => if b < w1.heap.size then cD b else if b < w1.heap.size + 6 then (2, b - w1.heap.size) else (0, 0)) := fun b hb => by simp only; rw [if_pos hb]
 have s1 := O1.size
 have s2 := O2.size
 have s3 := O3.size
 have s0 := O0.size
 have kP : Kept w3 cX (fun b => if b = PP then (4, 0) else cX b) := fun b hb => by simp only; rw [if_neg (by omega)]
 have z : ∀ b, b < w0.heap.size → cX b = (0, 0) := fun b hb => by rw [kX b (by omega)]; simp only; rw [if_pos (by omega), zD b hb]
 have db4 := ((((hdb.upd O0 (fun x => x)).upd O1 (fun x => x)).upd O2 (fun x => x)).upd O3 (fun x => x)).upd O4 (fun x => x)
 have se4 := ((((hse.upd O0 (fun x => x)).upd O1 (fun x => x)).upd O2 (fun x => x)).upd O3 (fun x => x)).upd O4 (fun x => x)
 have g1 := World.block_lt_of_cell? w _ (hdb 0 (by omega))
 have g2 := World.block_lt_of_cell? w _ hse.1
 simp only at g1 g2
 refine ⟨fun b => if b = PP then (4, 0) else cX b, 1, 0, false, fun _ => 0, 0, ⟨⟨t, hp⟩, by simp, ?_, ?_, hX.other O4 (fun b h => h.elim) kP, db4, se4, ?_, ?_, by omega, by omega, by omega, by omega, by omega, fun i _ _ => rfl, fun i hi => Nat.zero_le _, fun h => (by cases h), Nat.zero_le _, Nat.le_refl _⟩, Nat.le_refl _, Nat.le_refl _, fun b hb => by simp only; rw [if_neg (by omega), z b (by omega)], (((O0.trans O1).trans O2).trans O3).trans O4⟩
 ·exact (((((hD.other O2 (fun b h => h.elim) k1).other O3 (fun b h => h.elim) kX)).other O4 (fun b h => h.elim) kP)).mono (fun _ _ _ => trivial)
 ·exact ((hT.other O3 (fun b h => h.elim) kX).other O4 (fun b h => h.elim) kP)
 ·(try simp only); rw [if_neg (by omega), z _ (by omega)]
 ·(try simp only); rw [if_neg (by omega), z _ (by omega)]
theorem nd_old {w w' : World} {n size : Nat} {e : Ending} (h : NewDev w n size e w') : Old w w' := by
 obtain ⟨D, K, T, M, v, _, _, _, hA, _⟩ := h
 exact hA.old
theorem ni_old {w w' : World} {n : Nat} {e : Ending} (h : NewIdx w n e w') : Old w w' := by
 obtain ⟨X, O, S, _, _, _, _, _, _, _, _, _, _, hU⟩ := h
 exact hU
def MadePost (w : World) (k : Cf) (e : Ending) (w' : World) : Prop := ∃ PP D B X it, e = .returned (.tuple #[.pointer (some ⟨PP, 0, none⟩), .bool true]) ∧ it ≤ 60 ∧ MadeRel w k PP D B X it w'
theorem made {w : World} {n0 n1 n2 n3 n4 n5 n6 ll lc : Nat} {al : Option Addr} (h0 : n0 < 256) (h1 : n1 < 256) (h2 : n2 < 256) (h3 : n3 < 256) (h4 : n4 < 256) (h5 : n5 < 256) (h6 : n6 < 256) (hdb : DbAt w) (hse : SealAt w) (hll : ll ≤ lc) (hlc : lc ≤ 9223372036854775807) (hal : ll = 0 ∨ al.isSome = true) (hL : ∀ j, j < ll → j < 60 → ∃ lb lo, al = some ⟨lb, lo, none⟩ ∧ MoveAt w lb lo j) :
 Calls Tryz.prog 6 #[.agg #[.int .u8 ((n0 : Nat) : Int), .int .u8 ((n1 : Nat) : Int), .int .u8 ((n2 : Nat) : Int), .int .u8 ((n3 : Nat) : Int), .int .u8 ((n4 : Nat) : Int), .int .u8 ((n5 : Nat) : Int), .int .u8 ((n6 : Nat) : Int), .slice al ll lc]] w (MadePost w (kOf n0 n1 n2 n3 n4 n5 n6)) := by
 have HSM := Lib.hid (fun w : World => small (w := w) h0 h1 h2 h3 h4 h5 h6)
 have kn : (kOf n0 n1 n2 n3 n4 n5 n6).n = 2 + n0 % 2 + 2 + n4 % 5 := rfl
 have ks : (kOf n0 n1 n2 n3 n4 n5 n6).size = 16 + (16 + (2 + n1 % 5) + n2 % 24) + n5 := rfl
 have kr : (kOf n0 n1 n2 n3 n4 n5 n6).reserve = 2 + n0 % 2 := rfl
 have HST := Lib.hid (fun (w0 w1 w2 w3 : World) (e1 e3 : Ending) (O : Old w w0) => made_start (n0 := n0) (n1 := n1) (n2 := n2) (n3 := n3) (n4 := n4) (n6 := n6) (w0 := w0) (w1 := w1) (w2 := w2) (w3 := w3) (e1 := e1) (e3 := e3) h5 O hdb hse)
 have HML := Lib.hid hL
 have HO0 := Lib.hid (fun (w' : World) (U : Old w w') => U)
 clear hL hdb hse
 have HSM2 : Hid (∀ w : World, Calls Tryz.prog 36 #[.agg #[.int .u8 ((n0 : Nat) : Int), .int .u8 ((n1 : Nat) : Int), .int .u8 ((n2 : Nat) : Int), .int .u8 ((n3 : Nat) : Int), .int .u8 ((n4 : Nat) : Int), .int .u8 ((n5 : Nat) : Int), .int .u8 ((n6 : Nat) : Int)]] w fun e w' => e = .returned (.agg #[.int .i64 (((kOf n0 n1 n2 n3 n4 n5 n6).n : Nat) : Int), .int .i64 (((kOf n0 n1 n2 n3 n4 n5 n6).size : Nat) : Int), .int .i64 (((kOf n0 n1 n2 n3 n4 n5 n6).reserve : Nat) : Int), .int .i64 (kOf n0 n1 n2 n3 n4 n5 n6).c3, .int .i64 (kOf n0 n1 n2 n3 n4 n5 n6).c4, .int .i64 (((kOf n0 n1 n2 n3 n4 n5 n6).value : Nat) : Int), .int .i64 (kOf n0 n1 n2 n3 n4 n5 n6).c6]) ∧ Old w w') := HSM
 clear HSM
 have hk1 : 4 ≤ (kOf n0 n1 n2 n3 n4 n5 n6).n ∧ (kOf n0 n1 n2 n3 n4 n5 n6).n ≤ 9 ∧ 1 ≤ (kOf n0 n1 n2 n3 n4 n5 n6).size ∧ (kOf n0 n1 n2 n3 n4 n5 n6).size ≤ 8192 ∧ (kOf n0 n1 n2 n3 n4 n5 n6).reserve ≤ (kOf n0 n1 n2 n3 n4 n5 n6).n := by omega
 clear kn ks kr h5
 generalize kOf n0 n1 n2 n3 n4 n5 n6 = k at *
 obtain ⟨k1, k2, k3, k4, k5⟩ := hk1
 go_enter Tryz.func6, Tryz.ntmps6
 go_wp2_with (first | (go_at_call 36; refine (HSM2.out _).mono ?_; rintro e w1 ⟨rfl, hU1⟩; have O1 := ((Upd.refl (fun _ => False) w).alloc _).trans hU1; have s7 : w1.cell? ⟨w.heap.size, 7, none⟩ = some (.slice al ll lc) := (Old.has hU1 (Has.new w _ _)).cell 7; have HO1 := Lib.hid O1; have HS1 := Lib.hid s7; clear hU1 O1 s7) | (go_at_call 37; refine (dev_new (by omega) (by omega) (by omega) (by omega)).mono ?_; rintro e2 w2 ⟨D, K, T, M, v, rfl, hd⟩; have HD2 := Lib.hid (show NewDev (w1.alloc (.cells #[.int .i64 ((k.n : Nat) : Int), .int .i64 ((k.size : Nat) : Int), .int .i64 ((k.reserve : Nat) : Int), .int .i64 k.c3, .int .i64 k.c4, .int .i64 ((k.value : Nat) : Int), .int .i64 k.c6] 36)) k.n k.size _ w2 from ⟨D, K, T, M, v, rfl, hd⟩); have U2 := nd_old HD2.out; have hc2 := Old.has U2 (Has.new w1 _ _); have c0 : w2.cell? ⟨w1.heap.size, 0, none⟩ = some (.int .i64 ((k.n : Nat) : Int)) := hc2.cell 0; have c2 : w2.cell? ⟨w1.heap.size, 2, none⟩ = some (.int .i64 ((k.reserve : Nat) : Int)) := hc2.cell 2; have HC2 := Lib.hid hc2; have HU2 := Lib.hid U2; clear hd U2 hc2) | (go_at_call 38; refine (tab_new (by omega) (by omega) k5).mono ?_; rintro e3 w3 ⟨rfl, ht⟩; have hc3 := Old.has ht.old HC2.out; have c0' : w3.cell? ⟨w1.heap.size, 0, none⟩ = some (.int .i64 ((k.n : Nat) : Int)) := hc3.cell 0; have HT3 := Lib.hid ht; have HC3 := Lib.hid hc3; clear ht hc3 c0 c2) | (go_at_call 39; refine (idx_new (by omega) (by omega)).mono ?_; rintro e4 w4 ⟨X, O, S, rfl, hi⟩; have HI4 := Lib.hid (show NewIdx w3 k.n _ w4 from ⟨X, O, S, rfl, hi⟩); have U4 := ni_old HI4.out; have hc4 := Old.has U4 HC3.out; have c0 : w4.cell? ⟨w1.heap.size, 0, none⟩ = some (.int .i64 ((k.n : Nat) : Int)) := hc4.cell 0; have c1 : w4.cell? ⟨w1.heap.size, 1, none⟩ = some (.int .i64 ((k.size : Nat) : Int)) := hc4.cell 1; have c2 : w4.cell? ⟨w1.heap.size, 2, none⟩ = some (.int .i64 ((k.reserve : Nat) : Int)) := hc4.cell 2; have c3 : w4.cell? ⟨w1.heap.size, 3, none⟩ = some (.int .i64 k.c3) := hc4.cell 3; have c4 : w4.cell? ⟨w1.heap.size, 4, none⟩ = some (.int .i64 k.c4) := hc4.cell 4; have c5 : w4.cell? ⟨w1.heap.size, 5, none⟩ = some (.int .i64 ((k.value : Nat) : Int)) := hc4.cell 5; have c6 : w4.cell? ⟨w1.heap.size, 6, none⟩ = some (.int .i64 k.c6) := hc4.cell 6; have hs7 : w4.cell? ⟨w.heap.size, 7, none⟩ = some (.slice al ll lc) := Old.cellOf' U4 (Old.cellOf' HT3.out.old (Old.cellOf' HU2.out (Old.cellOf' ((Upd.refl _ w1).alloc _) HS1.out))); have HU4 := Lib.hid U4; have hl4 : w.heap.size < w4.heap.size := World.block_lt_of_cell? w4 _ hs7; have hl5 : ∀ k, w.heap.size < w4.heap.size + k := (fun k => by omega); clear hi U4 hc4 c0'))
 obtain ⟨N, hN⟩ : ∃ N : Nat, min (ll : Int) 60 = ((N : Nat) : Int) := ⟨(min (ll : Int) 60).toNat, by omega⟩
 rw [hN, Int.toNat_natCast, show max ((N : Nat) : Int) 0 = ((N : Nat) : Int) by omega]
 have hN1 : N ≤ ll := by omega
 have hN2 : N ≤ 60 := by omega
 obtain ⟨D', X', e1, e2, hst⟩ := HST.out _ _ _ _ _ _ (HO1.out.alloc _) HD2.out HT3.out HI4.out
 injection e1 with e1
 injection e1 with e1
 obtain rfl : D = D' := by simpa using e1
 injection e2 with e2
 injection e2 with e2
 obtain rfl : X = X' := by simpa using e2
 have hp := Has.new w4 41 #[.int .i64 ((k.n : Nat) : Int), .int .i64 ((k.size : Nat) : Int), .int .i64 ((k.reserve : Nat) : Int), .int .i64 k.c3, .int .i64 k.c4, .int .i64 ((k.value : Nat) : Int), .int .i64 k.c6, .pointer (some ⟨D, 0, none⟩), .pointer (some ⟨w2.heap.size, 0, none⟩), .pointer (some ⟨X, 0, none⟩), .int .i64 1]
 have HM := Lib.hid (hst _ ((Upd.refl _ w4).alloc _) w4.heap.size _ (Nat.le_refl _) hp)
 generalize hW : World.alloc w4 _ = W at HM ⊢
 generalize w4.heap.size = PP at HM ⊢
 clear hW hp hst e1 e2 HI4 HT3 HD2 HST HC2 HC3 HU2 HU4 HO0 c0 c1 c2 c3 c4 c5 c6 hs7 hl4 hl5 HS1 HSM2
 go_loopw [63] (fun i wr => ∃ it : Nat, it ≤ N ∧ i = .int .i64 it ∧ MadeRel w k PP D w2.heap.size X it wr) (fun i _ => N - (intOf i).toNat)
 case atStart => exact ⟨0, Nat.zero_le _, rfl, HM.out⟩
 case round =>
  obtain ⟨it, hit, rfl, hrel⟩ := hrel
  by_cases hlt : it < N
  ·obtain ⟨lb, lo, rfl, kd, ky, sz, q1, q2, q3, m0, m1, m2⟩ := HML.out it (by omega) (by omega)
   obtain ⟨col, next, used, act, lens, ops, hp, h1, h2, h3, h4⟩ := hrel
   have m0 := Old.cellOf' h4 m0
   have m1 := Old.cellOf' h4 m1
   have m2 := Old.cellOf' h4 m2
   have hg : (it : Int) < (N : Int) := by omega
   have HD := Lib.hid (made_do (kd := kd) (ky := ky) (sz := sz) (MadeRel.old ⟨col, next, used, act, lens, ops, hp, h1, h2, h3, h4⟩ ((Upd.refl _ wr).alloc (.cells #[.int .u8 ((kd : Nat) : Int), .int .u8 ((ky : Nat) : Int), .int .u8 ((sz : Nat) : Int)] 92))) (by omega) q1 q2 q3)
   clear hp h1 h2 h3 h4
   go_wp2_with (first | (go_at_call 40; refine HD.out.mono ?_; rintro e w5 ⟨rfl, hm5⟩; have HM5 := Lib.hid hm5; clear hm5))
   go_roundw
   case rel => exact ⟨it + 1, by omega, by go_num, HM5.out⟩
   case measure => simp [intOf]; omega
  ·obtain rfl : it = N := by omega
   have HR := Lib.hid hrel
   clear hrel
   go_wp2
   go_ret2
   exact ⟨PP, D, w2.heap.size, X, it, rfl, hN2, HR.out⟩
end Go.M
