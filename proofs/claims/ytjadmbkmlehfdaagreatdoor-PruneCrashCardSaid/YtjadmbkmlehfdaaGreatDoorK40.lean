/- Walks 40. -/
import Derived.Test.YtjadmbkmlehfdaaGreatDoorProg
import Derived.Test.YtjadmbkmlehfdaaGreatDoorK39
import Derived.Test.YtjadmbkmlehfdaaGreatDoorK37
import Derived.Test.YtjadmbkmlehfdaaGreatDoorK30
import Derived.Test.YtjadmbkmlehfdaaGreatDoorK21
import Derived.Test.YtjadmbkmlehfdaaGreatDoorK29
import Derived.Test.YtjadmbkmlehfdaaGreatDoorK14
set_option linter.unusedVariables false
set_option linter.unusedSimpArgs false
set_option maxRecDepth 100000
namespace Go.M
open Go.Proofs Go.RowKit
set_option linter.unusedSimpArgs false
def ppC (k : Cf) (D B X next : Nat) : Array Value := #[.int .i64 ((k.n : Nat) : Int), .int .i64 ((k.size : Nat) : Int), .int .i64 ((k.reserve : Nat) : Int), .int .i64 k.c3, .int .i64 k.c4, .int .i64 ((k.value : Nat) : Int), .int .i64 k.c6, .pointer (some ⟨D, 0, none⟩), .pointer (some ⟨B, 0, none⟩), .pointer (some ⟨X, 0, none⟩), .int .i64 ((next : Nat) : Int)]
def PpAt (w : World) (PP : Nat) (k : Cf) (D B X next : Nat) : Prop := ∃ t, Has w PP t (ppC k D B X next)
def PcpPost (w : World) (n r : Nat) (s : DevS) (st : Nat → Nat) (M : ByteArray → List Ent) (x : IdxS) (k : Cf) (next : Nat) (e : Ending) (w' : World) : Prop :=
 ∃ PP D B X col x', e = .returned (.pointer (some ⟨PP, 0, none⟩)) ∧ Old w w' ∧ EIn w' col PP D B X n s r st M x' ∧ x'.es = x.es ∧ PpAt w' PP k D B X next ∧ ∀ b, (col b).1 ≠ 0 → w.heap.size ≤ b
variable {w : World} {col : Col} {PP D B X n r : Nat} {s : DevS} {st : Nat → Nat} {M : ByteArray → List Ent} {x : IdxS}
theorem EIn.dcopy (h : EIn w col PP D B X n s r st M x) :
 Calls Tryz.prog 43 #[.pointer (some ⟨D, 0, none⟩)] w fun e w' => ∃ C c, e = .returned (.pointer (some ⟨C, 0, none⟩)) ∧ Old w w' ∧ ∀ col', Newly w w' c col' → ∃ K' S' cap' T' M' V', DevAt w' col' 1 C s K' S' cap' T' M' V' := by
 obtain ⟨K, S, cap, T, Mi, V, hd⟩ := h.dev
 exact dev_copy hd 1
set_option maxHeartbeats 1000000 in
theorem EIn.pcopy (h : EIn w col PP D B X n s r st M x) {k : Cf} {next : Nat} (hp : PpAt w PP k D B X next) (hkn : k.n = n) :
 Calls Tryz.prog 22 #[.pointer (some ⟨PP, 0, none⟩)] w (PcpPost w n r s st M x k next) := by
 obtain ⟨t, hP⟩ := hp
 have p0 : w.cell? ⟨PP, 0, none⟩ = some (.int .i64 ((k.n : Nat) : Int)) := hP.cell 0
 have p1 : w.cell? ⟨PP, 1, none⟩ = some (.int .i64 ((k.size : Nat) : Int)) := hP.cell 1
 have p2 : w.cell? ⟨PP, 2, none⟩ = some (.int .i64 ((k.reserve : Nat) : Int)) := hP.cell 2
 have p3 : w.cell? ⟨PP, 3, none⟩ = some (.int .i64 k.c3) := hP.cell 3
 have p4 : w.cell? ⟨PP, 4, none⟩ = some (.int .i64 k.c4) := hP.cell 4
 have p5 : w.cell? ⟨PP, 5, none⟩ = some (.int .i64 ((k.value : Nat) : Int)) := hP.cell 5
 have p6 : w.cell? ⟨PP, 6, none⟩ = some (.int .i64 k.c6) := hP.cell 6
 have p7 : w.cell? ⟨PP, 7, none⟩ = some (.pointer (some ⟨D, 0, none⟩)) := hP.cell 7
 have p8 : w.cell? ⟨PP, 8, none⟩ = some (.pointer (some ⟨B, 0, none⟩)) := hP.cell 8
 have p9 : w.cell? ⟨PP, 9, none⟩ = some (.pointer (some ⟨X, 0, none⟩)) := hP.cell 9
 have p10 : w.cell? ⟨PP, 10, none⟩ = some (.int .i64 ((next : Nat) : Int)) := hP.cell 10
 have HD := Lib.hid (fun (W : World) (U : Old w W) => (h.old U).dcopy)
 have HT := Lib.hid (fun (W : World) (U : Old w W) => (h.old U).tab.copy 2)
 have HX := Lib.hid (fun (W : World) (U : Old w W) => (h.old U).idx.copy 3)
 have HH := Lib.hid h
 have HP : Hid (∀ W, Old w W → W.cell? ⟨PP, 0, none⟩ = some (.int .i64 ((k.n : Nat) : Int)) ∧ W.cell? ⟨PP, 1, none⟩ = some (.int .i64 ((k.size : Nat) : Int)) ∧ W.cell? ⟨PP, 2, none⟩ = some (.int .i64 ((k.reserve : Nat) : Int)) ∧ W.cell? ⟨PP, 3, none⟩ = some (.int .i64 k.c3) ∧ W.cell? ⟨PP, 4, none⟩ = some (.int .i64 k.c4) ∧ W.cell? ⟨PP, 5, none⟩ = some (.int .i64 ((k.value : Nat) : Int)) ∧ W.cell? ⟨PP, 6, none⟩ = some (.int .i64 k.c6) ∧
  W.cell? ⟨PP, 7, none⟩ = some (.pointer (some ⟨D, 0, none⟩)) ∧ W.cell? ⟨PP, 8, none⟩ = some (.pointer (some ⟨B, 0, none⟩)) ∧ W.cell? ⟨PP, 9, none⟩ = some (.pointer (some ⟨X, 0, none⟩)) ∧ W.cell? ⟨PP, 10, none⟩ = some (.int .i64 ((next : Nat) : Int))) :=
  Lib.hid (fun W U => ⟨Old.cellOf' U p0, Old.cellOf' U p1, Old.cellOf' U p2, Old.cellOf' U p3, Old.cellOf' U p4, Old.cellOf' U p5, Old.cellOf' U p6, Old.cellOf' U p7, Old.cellOf' U p8, Old.cellOf' U p9, Old.cellOf' U p10⟩)
 clear h hP
 go_enter Tryz.func22, Tryz.ntmps22
 go_wp2_with go_in
 go_region_held3 (fun x => x.cell? ⟨PP, 0, none⟩ = some (.int .i64 ((k.n : Nat) : Int)) ∧ x.cell? ⟨PP, 1, none⟩ = some (.int .i64 ((k.size : Nat) : Int)) ∧ x.cell? ⟨PP, 2, none⟩ = some (.int .i64 ((k.reserve : Nat) : Int)) ∧ x.cell? ⟨PP, 3, none⟩ = some (.int .i64 k.c3) ∧ x.cell? ⟨PP, 4, none⟩ = some (.int .i64 k.c4) ∧ x.cell? ⟨PP, 5, none⟩ = some (.int .i64 ((k.value : Nat) : Int)) ∧ x.cell? ⟨PP, 6, none⟩ = some (.int .i64 k.c6) ∧
  x.cell? ⟨PP, 7, none⟩ = some (.pointer (some ⟨D, 0, none⟩)) ∧ x.cell? ⟨PP, 8, none⟩ = some (.pointer (some ⟨B, 0, none⟩)) ∧ x.cell? ⟨PP, 9, none⟩ = some (.pointer (some ⟨X, 0, none⟩)) ∧ x.cell? ⟨PP, 10, none⟩ = some (.int .i64 ((next : Nat) : Int)))
  (first | (exact HP.out _ U3.out) | (exact HP.out _ U2.out) | (exact HP.out _ U1.out) | go_keep)
  (first | (go_at_call 43; refine (HD.out _ ?_).mono ?_; (exact (Upd.refl _ w).drew); rintro e w1 ⟨D', c1, rfl, hO, hC⟩; have HC1 := Lib.hid hC; have U1 := Lib.hid (show Old w w1 from Upd.trans ((Upd.refl _ w).drew) hO); have O1 := Lib.hid hO; clear hC hO HD) | (go_at_call 44; refine (HT.out _ U1.out).mono ?_; rintro e w2 ⟨B', c2, rfl, hO, hC⟩; have HC2 := Lib.hid hC; have U2 := Lib.hid (Upd.trans U1.out hO); have O2 := Lib.hid hO; clear hC hO HT) | (go_at_call 28; refine (HX.out _ U2.out).mono ?_; rintro e w3 ⟨X', c3, x', rfl, hO, hxe, hC⟩; have HC3 := Lib.hid (And.intro hxe hC); have U3 := Lib.hid (Upd.trans U2.out hO); have O3 := Lib.hid hO; clear hxe hC hO HX))
 go_wp2
 go_ret
 obtain ⟨hxe, hX3⟩ := HC3.out
 have s1 := U1.out.size
 have s2 := O2.out.size
 have s3 := O3.out.size
 have UW : Old w3 (w3.alloc (.cells #[.int .i64 ((n : Nat) : Int), .int .i64 ((k.size : Nat) : Int), .int .i64 ((k.reserve : Nat) : Int), .int .i64 k.c3, .int .i64 k.c4, .int .i64 ((k.value : Nat) : Int), .int .i64 k.c6, .pointer (some ⟨D', 0, none⟩), .pointer (some ⟨B', 0, none⟩), .pointer (some ⟨X', 0, none⟩), .int .i64 ((next : Nat) : Int)] 41)) := (Upd.refl _ w3).alloc _
 have hN := Has.new w3 41 #[.int .i64 ((n : Nat) : Int), .int .i64 ((k.size : Nat) : Int), .int .i64 ((k.reserve : Nat) : Int), .int .i64 k.c3, .int .i64 k.c4, .int .i64 ((k.value : Nat) : Int), .int .i64 k.c6, .pointer (some ⟨D', 0, none⟩), .pointer (some ⟨B', 0, none⟩), .pointer (some ⟨X', 0, none⟩), .int .i64 ((next : Nat) : Int)]
 generalize hW : w3.alloc (.cells #[.int .i64 ((n : Nat) : Int), .int .i64 ((k.size : Nat) : Int), .int .i64 ((k.reserve : Nat) : Int), .int .i64 k.c3, .int .i64 k.c4, .int .i64 ((k.value : Nat) : Int), .int .i64 k.c6, .pointer (some ⟨D', 0, none⟩), .pointer (some ⟨B', 0, none⟩), .pointer (some ⟨X', 0, none⟩), .int .i64 ((next : Nat) : Int)] 41) = W at UW hN
 have hsz : W.heap.size = w3.heap.size + 1 := by rw [← hW]; simp
 have g1 := World.block_lt_of_cell? w _ HH.out.gl.dp.1
 have g2 := World.block_lt_of_cell? w _ (HH.out.gl.db 0 (by omega))
 have g3 := World.block_lt_of_cell? w _ HH.out.gl.se.1
 simp only at g1 g2 g3
 have OW : Old w W := Upd.trans U3.out UW
 have k0 : ∀ b, b < w.heap.size → (fun b => if b < w.heap.size then (0, 0) else if b < w1.heap.size then c1 b else if b < w2.heap.size then c2 b else if b < w3.heap.size then c3 b else if b = w3.heap.size then (4, 0) else (0, 0) : Col) b = (0, 0) := fun b hb => if_pos hb
 refine ⟨w3.heap.size, D', B', X', fun b => if b < w.heap.size then (0, 0) else if b < w1.heap.size then c1 b else if b < w2.heap.size then c2 b else if b < w3.heap.size then c3 b else if b = w3.heap.size then (4, 0) else (0, 0), x', rfl, OW, ⟨.inr ⟨hN.cell 0, hN.cell 7, hN.cell 8, hN.cell 9, ?_⟩, ?_, HH.out.sn, HH.out.up, ?_, ?_, ⟨HH.out.gl.dp.upd OW (fun x => x), HH.out.gl.db.upd OW (fun x => x), HH.out.gl.se.upd OW (fun x => x), congrArg Prod.fst (k0 _ g1), congrArg Prod.fst (k0 _ g2), congrArg Prod.fst (k0 _ g3)⟩, HH.out.n4, HH.out.n9, fun b hb => ?_⟩, hxe, ⟨_, by rw [← hkn] at hN; exact hN⟩, fun b hb => ?_⟩
 ·(try simp only)
  rw [if_neg (by omega), if_neg (by omega), if_neg (by omega), if_neg (by omega), if_pos trivial]
 ·obtain ⟨K', S', cap', T', M', V', hd⟩ := HC1.out _ (fun b (h1 : w.heap.size ≤ b) h2 => show (if b < w.heap.size then ((0, 0) : Nat × Nat) else if b < w1.heap.size then c1 b else if b < w2.heap.size then c2 b else if b < w3.heap.size then c3 b else if b = w3.heap.size then (4, 0) else (0, 0)) = c1 b by rw [if_neg (by omega), if_pos h2])
  exact ⟨K', S', cap', T', M', V', hd.other (Upd.trans O2.out (Upd.trans O3.out UW)) (fun _ x => x.elim) (Kept.refl _ _)⟩
 ·have ht := HC2.out _ (fun b h1 h2 => show (if b < w.heap.size then ((0, 0) : Nat × Nat) else if b < w1.heap.size then c1 b else if b < w2.heap.size then c2 b else if b < w3.heap.size then c3 b else if b = w3.heap.size then (4, 0) else (0, 0)) = c2 b by rw [if_neg (by omega), if_neg (by omega), if_pos h2])
  exact ht.other (Upd.trans O3.out UW) (fun _ x => x.elim) (Kept.refl _ _)
 ·have hx := hX3 _ (fun b h1 h2 => show (if b < w.heap.size then ((0, 0) : Nat × Nat) else if b < w1.heap.size then c1 b else if b < w2.heap.size then c2 b else if b < w3.heap.size then c3 b else if b = w3.heap.size then (4, 0) else (0, 0)) = c3 b by rw [if_neg (by omega), if_neg (by omega), if_neg (by omega), if_pos h2])
  exact hx.other UW (fun _ x => x.elim) (Kept.refl _ _)
 ·(try simp only)
  rw [if_neg (by omega), if_neg (by omega), if_neg (by omega), if_neg (by omega), if_neg (by omega)]
 ·refine Nat.le_of_not_lt fun hl => hb (congrArg Prod.fst (k0 b hl))
end Go.M
namespace Go.M
open Go.Proofs Go.RowKit Go.Shelf
set_option linter.unusedSimpArgs false
theorem EIn.entries {w : World} {col : Col} {PP D B X n r : Nat} {s : DevS} {st : Nat → Nat} {M : ByteArray → List Ent} {x : IdxS} (h : EIn w col PP D B X n s r st M x) (hP : PP ≠ 0) :
 Calls Tryz.prog 9 #[.pointer (some ⟨PP, 0, none⟩)] w (NewRow w 47 6 ((List.range n).flatMap x.es).length (rowOf ((List.range n).flatMap x.es))) := by
 obtain ⟨c0, -, -, c9, -⟩ := h.cells hP
 obtain ⟨t, fX⟩ := h.idx.fX
 exact Go.M.entries c9 c0 (fX.cell 1) h.idx.hi (fun i hi => by rw [h.idx.fS.cell i, h.idx.fs i hi]) h.idx.own h.idx.len
def CdR (w : World) (k : Cf) (PP D B X : Nat) (j : Nat) (W : World) : Prop := ∃ col s st M x next, EIn W col PP D B X k.n s k.reserve st M x ∧ POk k.n k.size (18 + k.value) s st x.es (600 + 3 * (j : Int)) ∧ IdxLe (61 + j) k.n M x ∧ Old w W ∧ (∀ b, b < w.heap.size → (col b).1 = 0) ∧ PpAt W PP k D B X next ∧ PP ≠ 0
theorem CdR.made {w wr : World} {k : Cf} {PP D B X it : Nat} (h : MadeRel w k PP D B X it wr) (hit : it ≤ 60) (hd : DropAt w) : CdR w k PP D B X 0 wr := by
 obtain ⟨col, s, st, M, x, r1, r2, r3, r4, r5⟩ := e_made h hit hd
 obtain ⟨col2, next, used, act, lens, ops, hp, h1, h2, h3, h4⟩ := h
 refine ⟨col, s, st, M, x, next, r1, r2.mono (by omega), r3, r4, r5, hp.p, fun e => ?_⟩
 have h5 := h3 PP (by rw [e]; exact World.block_lt_of_cell? w _ hd.1)
 rw [hp.cP] at h5
 cases h5
theorem CdR.old {w W W' : World} {k : Cf} {PP D B X j : Nat} (h : CdR w k PP D B X j W) (U : Old W W') : CdR w k PP D B X j W' := by
 obtain ⟨col, s, st, M, x, next, r1, r2, r3, r4, r5, ⟨t, r6⟩, r7⟩ := h
 exact ⟨col, s, st, M, x, next, r1.old U, r2, r3, r4.trans U, r5, ⟨t, U.has r6⟩, r7⟩
theorem cdr_next {w W W' : World} {k : Cf} {PP D B X j next : Nat} {col col' : Col} {s : DevS} {st : Nat → Nat} {M : ByteArray → List Ent} {x : IdxS} {s' : DevS} {st' : Nat → Nat} {M' : ByteArray → List Ent} {x' : IdxS} (h : EIn W col PP D B X k.n s k.reserve st M x) (hO : Old w W) (hc : ∀ b, b < w.heap.size → (col b).1 = 0) (hp : PpAt W PP k D B X next) (h0 : PP ≠ 0)
 (hE : EIn W' col' PP D B X k.n s' k.reserve st' M' x') (ok : POk k.n k.size (18 + k.value) s' st' x'.es (600 + 3 * (j : Int))) (hle : IdxLe (61 + j) k.n M' x') (U : Upd (EF col) W W') (hk : Kept W col col') : CdR w k PP D B X j W' := by
 obtain ⟨-, -, -, -, cP⟩ := h.cells h0
 obtain ⟨t, hp⟩ := hp
 refine ⟨col', s', st', M', x', next, hE, ok, hle, hO.after U (fun b hb hf => ?_), fun b hb => by rw [hk b (Nat.lt_of_lt_of_le hb hO.size), hc b hb], ⟨t, U.has hp (fun hf => ?_)⟩, h0⟩
 ·have := hc b hb
  unfold EF at hf
  omega
 ·unfold EF at hf
  omega
theorem CdR.copy {w W : World} {k : Cf} {PP D B X j : Nat} (h : CdR w k PP D B X j W) (hj : j < 30) : ∃ es : List Ent, es.length ≤ 900 ∧ (∀ W', Old W W' → Calls Tryz.prog 9 #[.pointer (some ⟨PP, 0, none⟩)] W' (NewRow W' 47 6 es.length (rowOf es))) ∧
 ∀ W', Old W W' → ∀ e ∈ es, Calls Tryz.prog 69 #[.pointer (some ⟨D, 0, none⟩), .pointer (some ⟨B, 0, none⟩), .pointer (some ⟨X, 0, none⟩), e.val] W' fun en w' => (∃ m k : Int, en = .returned (.tuple #[.int .i64 m, .int .i64 k]) ∧ (k = 0 ∨ k = 4 ∨ k = 6)) ∧ CdR w k PP D B X (j + 1) w' ∧ ∀ b o v, W.heap.size ≤ b → W'.cell? ⟨b, o, none⟩ = some v → w'.cell? ⟨b, o, none⟩ = some v := by
 obtain ⟨col, s, st, M, x, next, r1, r2, r3, r4, r5, r6, r7⟩ := h
 refine ⟨(List.range k.n).flatMap x.es, ?_, fun W' U => (r1.old U).entries r7, fun W' U e he => ?_⟩
 ·have h9 := r1.n9
  have hl := r1.idx.len
  generalize k.n = n at h9 hl
  have : ∀ m, m ≤ n → ((List.range m).flatMap x.es).length ≤ m * 100 := by
   intro m
   induction m with
   | zero => intro _; simp
   | succ m ih =>
    intro hm
    rw [List.range_succ, List.flatMap_append, List.length_append]
    have := ih (by omega)
    have := hl m (by omega)
    have e1 : (List.flatMap x.es [m]).length = (x.es m).length := by simp
    omega
  have := this n (Nat.le_refl _)
  omega
 ·obtain ⟨i, hi, hei⟩ := List.mem_flatMap.1 he
  have hi := List.mem_range.1 hi
  have hsl : e.slot = i := (r1.idx.con.a i hi e hei).1
  obtain ⟨t, r6⟩ := r6
  have r6' : PpAt W' PP k D B X next := ⟨t, U.has r6⟩
  refine ((r1.old U).ocopy r2 r3 (by omega) (by omega) (e := e) (by rw [hsl]; exact hi) (by rw [hsl]; exact hei)).mono ?_
  rintro en w' ⟨hq, col', s', st', M', x', a1, a2, a3, a4, a5⟩
  exact ⟨hq, cdr_next (r1.old U) (r4.trans U) r5 r6' r7 a1 (a2.mono (by omega)) a3 a4 a5, fun b o v hb hv => a4.cellOf hv (fun hf => by have := r1.new b hb; unfold EF at hf; omega)⟩
theorem CdR.shut {w W : World} {k : Cf} {PP D B X j : Nat} (h : CdR w k PP D B X j W) (hj : j < 30) : ∀ W', Old W W' → Calls Tryz.prog 70 #[.pointer (some ⟨D, 0, none⟩), .pointer (some ⟨B, 0, none⟩), .pointer (some ⟨X, 0, none⟩)] W' fun en w' => (∃ m : Int, en = .returned (.tuple #[.int .i64 m, .int .i64 0])) ∧ CdR w k PP D B X (j + 1) w' := by
 obtain ⟨col, s, st, M, x, next, r1, r2, r3, r4, r5, r6, r7⟩ := h
 intro W' U
 obtain ⟨t, r6⟩ := r6
 have r6' : PpAt W' PP k D B X next := ⟨t, U.has r6⟩
 cases hl : lowS st k.n 4 with
 | none =>
  refine ((r1.old U).oseal_none hl).mono ?_
  rintro en w' ⟨rfl, hU⟩
  exact ⟨⟨_, rfl⟩, cdr_next (r1.old U) (r4.trans U) r5 r6' r7 ((r1.old U).old hU) (r2.mono (by omega)) (r3.mono (by omega)) (hU.mono (fun _ _ x => x.elim)) (Kept.refl _ _)⟩
 | some i =>
  obtain ⟨hi, hst⟩ := lowS_some hl
  refine ((r1.old U).oseal hl (fun y hy => ⟨(r2.ent i hi y hy).1.s1, by have := (r2.ent i hi y hy).1.s2; omega⟩) ?_ ?_).mono ?_
  ·have := r2.room i hi (.inr hst)
   rw [r2.sz i hi]
   exact this
  ·have := r2.o1
   omega
  rintro en w' ⟨rfl, col', fb, hfb, a1, a2, a3⟩
  exact ⟨⟨_, rfl⟩, cdr_next (r1.old U) (r4.trans U) r5 r6' r7 a1 ((r2.closed hi hst hfb).mono (by omega)) (r3.mono (by omega)) a2 a3⟩
theorem CdR.mono {w W : World} {k : Cf} {PP D B X j j' : Nat} (h : CdR w k PP D B X j W) (hj : j ≤ j') : CdR w k PP D B X j' W := by
 obtain ⟨col, s, st, M, x, next, r1, r2, r3, r4, r5, r6, r7⟩ := h
 exact ⟨col, s, st, M, x, next, r1, r2.mono (by omega), r3.mono (by omega), r4, r5, r6, r7⟩
theorem CdR.roles {w W : World} {k : Cf} {PP D B X j : Nat} (h : CdR w k PP D B X j W) : Old w W ∧ W.cell? ⟨PP, 7, none⟩ = some (.pointer (some ⟨D, 0, none⟩)) ∧ W.cell? ⟨PP, 8, none⟩ = some (.pointer (some ⟨B, 0, none⟩)) ∧ W.cell? ⟨PP, 9, none⟩ = some (.pointer (some ⟨X, 0, none⟩)) := by
 obtain ⟨col, s, st, M, x, next, r1, r2, r3, r4, r5, r6, r7⟩ := h
 obtain ⟨-, c7, c8, c9, -⟩ := r1.cells r7
 exact ⟨r4, c7, c8, c9⟩
theorem CdR.base {w W0 W : World} {k : Cf} {PP D B X j : Nat} (h : CdR W0 k PP D B X j W) (U : Old w W0) : CdR w k PP D B X j W := by
 obtain ⟨col, s, st, M, x, next, r1, r2, r3, r4, r5, r6⟩ := h
 exact ⟨col, s, st, M, x, next, r1, r2, r3, U.trans r4, fun b hb => r5 b (Nat.lt_of_lt_of_le hb U.size), r6⟩
def CopiedPost (w : World) (k : Cf) (e : Ending) (w' : World) : Prop := ∃ PP D B X, e = .returned (.tuple #[.pointer (some ⟨PP, 0, none⟩), .bool true]) ∧ CdR w k PP D B X 21 w'
def NumAt (w : World) (al : Option Addr) (j : Nat) : Prop := ∃ (lb lo q : Nat), al = some ⟨lb, lo, none⟩ ∧ q < 65536 ∧ w.cell? ⟨lb, lo + j, none⟩ = some (.int .u16 ((q : Nat) : Int))
set_option maxHeartbeats 1000000 in
theorem copied_walk {w : World} {n0 n1 n2 n3 n4 n5 n6 ll lc l2 c2 : Nat} {al al2 : Option Addr} {sl : Bool} (h0 : n0 < 256) (h1 : n1 < 256) (h2 : n2 < 256) (h3 : n3 < 256) (h4 : n4 < 256) (h5 : n5 < 256) (h6 : n6 < 256) (hdb : DbAt w) (hse : SealAt w) (hdr : DropAt w) (hll : ll ≤ lc) (hlc : lc ≤ 9223372036854775807) (hal : ll = 0 ∨ al.isSome = true) (hL : ∀ j, j < ll → j < 60 → ∃ lb lo, al = some ⟨lb, lo, none⟩ ∧ MoveAt w lb lo j)
 (hl2 : l2 ≤ 20) (hc2 : l2 ≤ c2) (hN : ∀ j, j < l2 → NumAt w al2 j) :
 Calls Tryz.prog 21 #[.agg #[.int .u8 ((n0 : Nat) : Int), .int .u8 ((n1 : Nat) : Int), .int .u8 ((n2 : Nat) : Int), .int .u8 ((n3 : Nat) : Int), .int .u8 ((n4 : Nat) : Int), .int .u8 ((n5 : Nat) : Int), .int .u8 ((n6 : Nat) : Int), .slice al ll lc], .slice al2 l2 c2, .bool sl] w (CopiedPost w (kOf n0 n1 n2 n3 n4 n5 n6)) := by
 have HMD : Hid (∀ W : World, Old w W → Calls Tryz.prog 6 #[.agg #[.int .u8 ((n0 : Nat) : Int), .int .u8 ((n1 : Nat) : Int), .int .u8 ((n2 : Nat) : Int), .int .u8 ((n3 : Nat) : Int), .int .u8 ((n4 : Nat) : Int), .int .u8 ((n5 : Nat) : Int), .int .u8 ((n6 : Nat) : Int), .slice al ll lc]] W fun e w1 => ∃ PP D B X, e = .returned (.tuple #[.pointer (some ⟨PP, 0, none⟩), .bool true]) ∧ CdR W (kOf n0 n1 n2 n3 n4 n5 n6) PP D B X 0 w1) := fun W U => by
  refine (made h0 h1 h2 h3 h4 h5 h6 (hdb.upd U (fun x => x)) (hse.upd U (fun x => x)) hll hlc hal (fun j a b => by obtain ⟨lb, lo, ha, kd, ky, sz, q1, q2, q3, m0, m1, m2⟩ := hL j a b; exact ⟨lb, lo, ha, kd, ky, sz, q1, q2, q3, Old.cellOf' U m0, Old.cellOf' U m1, Old.cellOf' U m2⟩)).mono ?_
  rintro e w1 ⟨PP, D, B, X, it, rfl, hit, hm⟩
  exact ⟨PP, D, B, X, rfl, CdR.made hm hit (hdr.upd U (fun x => x))⟩
 have HNU := Lib.hid hN
 clear hdb hse hdr hL hN
 generalize kOf n0 n1 n2 n3 n4 n5 n6 = k at *
 go_enter Tryz.func21, Tryz.ntmps21
 go_wp2_with (first | (go_at_call 6; refine (HMD.out _ ?_).mono ?_; (exact (Upd.refl _ w).alloc _); rintro e w1 ⟨PP, D, B, X, rfl, hb⟩; have HB := Lib.hid hb; clear hb))
 generalize hW0 : w.alloc _ = W0 at HB
 have U0 : Old w W0 := by subst hW0; exact (Upd.refl _ w).alloc _
 clear hW0
 go_loopw [10, 11, 12, 13] (fun i v11 v12 v13 wr => ∃ j : Nat, j ≤ l2 ∧ i = .int .i64 j ∧ CdR W0 k PP D B X j wr) (fun i _ _ _ _ => l2 - (intOf i).toNat)
 case atStart => exact ⟨0, Nat.zero_le _, rfl, HB.out⟩
 case round =>
  obtain ⟨j, hj, rfl, hS⟩ := hrel
  by_cases hjl : j < l2
  case' neg =>
   obtain rfl : j = l2 := by omega
   have HT : Hid (CdR W0 k PP D B X j wr) := Lib.hid hS
   clear hS
  case' pos =>
   obtain ⟨es, hes, hEN, hCP⟩ := hS.copy (by omega)
   obtain ⟨lb, lo, q, rfl, hq, cq⟩ := HNU.out j hjl
   have CQ := Lib.hid cq
   have cq := Old.cellOf' (U0.trans hS.roles.1) cq
   have HEN := Lib.hid hEN
   have HCP := Lib.hid hCP
   have HS := Lib.hid hS
   have HLE := Lib.hid hes
   clear hEN hCP hS hes
   go_wp2_with (first | (go_at_call 9; refine (HEN.out _ (Upd.refl _ _)).mono ?_; rintro e w1 ⟨v, rfl, hr1, hU1, hf1⟩; have HR1 := Lib.hid hr1; have HU1 := Lib.hid hU1; have HF1 := Lib.hid hf1; clear hr1 hU1 hf1; refine Hid.out ?_))
   have cq := Old.cellOf' HU1.out cq
   by_cases hz : es.length = 0
   case' pos =>
    obtain ⟨oa, oc, rfl⟩ := own_slice HR1.out
    have HT : Hid (CdR W0 k PP D B X j w1) := Lib.hid (HS.out.old HU1.out)
    clear HR1
    generalize es.length = len at *
    subst hz
    refine Lib.hid ?_
  rotate_left 1
  ·obtain ⟨g, cap, rfl, hc⟩ := (own_ents HR1.out).resolve_left (fun h => hz (by rw [h.2]; rfl))
   have hm : ((q : Int).tmod (es.length : Int)) = ((q % es.length : Nat) : Int) := by rw [Int.tmod_eq_emod_of_nonneg (by omega)]; omega
   have hw : IntKind.i64.wrap ((q % es.length : Nat) : Int) = ((q % es.length : Nat) : Int) := IntWalk.i64_in _ (by have := Nat.mod_lt q (show 0 < es.length by omega); have := HLE.out; omega)
   have hw2 : IntKind.i64.wrap (q : Int) = (q : Int) := IntWalk.i64_in _ (by omega)
   have g4 : ¬ (es.length : Int) = 0 := by omega
   have g5 : ((es.length : Int) == 0) = false := by rw [beq_eq_false_iff_ne]; omega
   have hlt : q % es.length < es.length := Nat.mod_lt _ (by omega)
   obtain ⟨y, hy⟩ : ∃ y, es[q % es.length]? = some y := ⟨_, List.getElem?_eq_getElem hlt⟩
   have hcc := hc _ y hy
   have d0 : w1.cell? ⟨g, q % es.length * 6, none⟩ = some (.int .i64 ((y.seq : Nat) : Int)) := hcc 0 _ rfl
   have d1 : w1.cell? ⟨g, q % es.length * 6 + 1, none⟩ = some (.string y.key) := hcc 1 _ rfl
   have d2 : w1.cell? ⟨g, q % es.length * 6 + 2, none⟩ = some (.bool y.del) := hcc 2 _ rfl
   have d3 : w1.cell? ⟨g, q % es.length * 6 + 3, none⟩ = some (.int .i64 ((y.slot : Nat) : Int)) := hcc 3 _ rfl
   have d4 : w1.cell? ⟨g, q % es.length * 6 + 4, none⟩ = some (.int .i64 ((y.off : Nat) : Int)) := hcc 4 _ rfl
   have d5 : w1.cell? ⟨g, q % es.length * 6 + 5, none⟩ = some (.int .i64 ((y.size : Nat) : Int)) := hcc 5 _ rfl
   have hcy := fun W U => HCP.out W U y (List.mem_of_getElem? hy)
   unfold Ent.val at hcy
   have HCY := Lib.hid hcy
   clear hcy
   generalize hmm : q % es.length = m at *
   have hlt2 : (m : Int) < (es.length : Int) := by omega
   generalize hel : es.length = len at *
   obtain ⟨-, c7, c8, c9⟩ := (HS.out.old HU1.out).roles
   have hg := HF1.out g rfl
   clear hc hcc hy HR1
   refine Lib.hid ?_
   go_wp2
   go_region_held3 (fun x => x.cell? ⟨PP, 7, none⟩ = some (.pointer (some ⟨D, 0, none⟩)) ∧ x.cell? ⟨PP, 8, none⟩ = some (.pointer (some ⟨B, 0, none⟩)) ∧ x.cell? ⟨PP, 9, none⟩ = some (.pointer (some ⟨X, 0, none⟩)) ∧ x.cell? ⟨lb, lo + j, none⟩ = some (.int .u16 ((q : Nat) : Int)) ∧ x.cell? ⟨g, m * 6, none⟩ = some (.int .i64 ((y.seq : Nat) : Int)) ∧ x.cell? ⟨g, m * 6 + 1, none⟩ = some (.string y.key) ∧ x.cell? ⟨g, m * 6 + 2, none⟩ = some (.bool y.del) ∧ x.cell? ⟨g, m * 6 + 3, none⟩ = some (.int .i64 ((y.slot : Nat) : Int)) ∧ x.cell? ⟨g, m * 6 + 4, none⟩ = some (.int .i64 ((y.off : Nat) : Int)) ∧ x.cell? ⟨g, m * 6 + 5, none⟩ = some (.int .i64 ((y.size : Nat) : Int))) (first | (with_reducible exact QQ) | go_keep)
    (first | (go_at_call 69; (with_reducible refine (HCY.out _ ?_).mono ?_); (first | exact HU1.out | exact HU1.out.drew); rintro e w2 ⟨⟨m1, m2, rfl, hm2⟩, h2, hgk⟩; have H2 := Lib.hid h2; have QQ := And.intro h2.roles.2.1 (And.intro h2.roles.2.2.1 (And.intro h2.roles.2.2.2 (And.intro (Old.cellOf' (U0.trans h2.roles.1) CQ.out) (And.intro (hgk _ _ _ hg d0) (And.intro (hgk _ _ _ hg d1) (And.intro (hgk _ _ _ hg d2) (And.intro (hgk _ _ _ hg d3) (And.intro (hgk _ _ _ hg d4) (hgk _ _ _ hg d5))))))))); clear h2 hgk))
   rcases hm2 with rfl | rfl | rfl
   all_goals
    go_wp2
    go_roundw
   all_goals first
    | exact ⟨j + 1, hjl, by go_num, H2.out⟩
    | (simp [intOf]; omega)
  all_goals
   have HSL := Lib.hid (HT.out.shut (by omega))
   obtain ⟨-, c7, c8, c9⟩ := HT.out.roles
   cases sl
   ·go_wp2
    go_ret2
    exact ⟨PP, D, B, X, rfl, (HT.out.mono (by omega)).base U0⟩
   ·go_wp2
    go_region_held3 (fun x => x.cell? ⟨PP, 7, none⟩ = some (.pointer (some ⟨D, 0, none⟩)) ∧ x.cell? ⟨PP, 8, none⟩ = some (.pointer (some ⟨B, 0, none⟩)) ∧ x.cell? ⟨PP, 9, none⟩ = some (.pointer (some ⟨X, 0, none⟩))) (first | (with_reducible exact QQ) | go_keep)
     (first | (go_at_call 70; (with_reducible refine (HSL.out _ ?_).mono ?_); (first | exact Upd.refl _ _ | exact (Upd.refl _ _).drew); rintro e w2 ⟨⟨m, rfl⟩, h2⟩; have H2 := Lib.hid h2; have QQ := h2.roles.2; clear h2))
    go_wp2
    go_ret2
    exact ⟨PP, D, B, X, rfl, (H2.out.mono (by omega)).base U0⟩
end Go.M
namespace Go.M
open Go.Proofs Go.RowKit
theorem ex_start {w w1 w2 w3 : World} {n size r : Nat} {e1 e3 : Ending} (h4 : 4 ≤ n) (h9 : n ≤ 9) (hs : 1 ≤ size) (hs2 : size ≤ 8192) (hr : r ≤ n) (hdb : DbAt w) (hse : SealAt w) (hdr : DropAt w) (hd : NewDev w n size e1 w1) (ht : NewTab w1 n r w2) (hi : NewIdx w2 n e3 w3) :
 ∃ D X, e1 = .returned (.tuple #[.pointer (some ⟨D, 0, none⟩), .int .i64 0]) ∧ e3 = .returned (.tuple #[.pointer (some ⟨X, 0, none⟩), .int .i64 0]) ∧ Old w w3 ∧ ∃ col s x, EIn w3 col 0 D w1.heap.size X n s r (fun _ => 0) (fun _ => []) x ∧ (∀ i, i < n → x.es i = []) ∧ (∀ i, i < n → (s.img i).sz = size ∧ (s.img i).bs = [] ∧ (s.img i).dur = 0) ∧ s.ops = 0 ∧ IdxLe 0 n (fun _ => []) x ∧ ∀ b, b < w.heap.size → (col b).1 = 0 := by
 obtain ⟨D, cD, rfl, O1, hD, zD⟩ := dev_at hd (by omega) (by omega) hs hs2
 have hT := tab_at (col := cD) ht (by omega) (by omega) hr
 obtain ⟨X, cX, rfl, O3, ⟨si, hX⟩, kX⟩ := idx_at (zm := 0) (col := fun b => if b < w1.heap.size then cD b else if b < w1.heap.size + 6 then (2, b - w1.heap.size) else (0, 0)) hi (by omega) (by omega)
 have O2 := ht.old
 have k1 : Kept w1 cD (fun b => if b < w1.heap.size then cD b else if b < w1.heap.size + 6 then (2, b - w1.heap.size) else (0, 0)) := fun b hb => by simp only; rw [if_pos hb]
 have s1 := O1.size
 have s2 := O2.size
 have s3 := O3.size
 have z : ∀ b, b < w.heap.size → cX b = (0, 0) := fun b hb => by rw [kX b (by omega)]; simp only; rw [if_pos (by omega), zD b hb]
 have U3 : Old w w3 := (O1.trans O2).trans O3
 have g0 := World.block_lt_of_cell? w _ hdr.1
 have g1 := World.block_lt_of_cell? w _ (hdb 0 (by omega))
 have g2 := World.block_lt_of_cell? w _ hse.1
 simp only at g0 g1 g2
 have hk := trim_kept w3 cX
 have U := Upd.refl (fun _ => False) w3
 obtain ⟨s, K, S, cap, T, Mi, V, hdv, e1, e2, e3, e4⟩ := (hD.other O2 (fun b h => h.elim) k1).other O3 (fun b h => h.elim) kX
 have hT3 : TabG w3 (trim w3 cX) 2 w1.heap.size n r (stU 0 false) := (hT.1.other O3 (fun b h => h.elim) kX).other U (fun b h => h.elim) hk
 have hst : stU 0 false = fun _ => 0 := funext fun i => stU_zero.2 (Nat.zero_le i)
 rw [hst] at hT3
 have hC := (hX.other U (fun b h => h.elim) hk).toC (by omega)
 have hes : ∀ i, i < n → si.es i = [] := fun i hi' => List.eq_nil_of_length_eq_zero (by have := hX.len i hi'; omega)
 have hM : mapOf si.mn si.key si.kz = fun _ => [] := funext fun k => by
  rw [List.eq_nil_iff_forall_not_mem]
  intro y hy
  obtain ⟨-, a, b⟩ := hC.con.b k y hy
  rw [hes _ a] at b
  cases b
 rw [hM] at hC
 refine ⟨D, X, rfl, rfl, U3, trim w3 cX, s, si, ⟨.inl rfl, ⟨K, S, cap, T, Mi, V, hdv.other U (fun b h => h.elim) hk⟩, e1, e2, hT3, hC, ⟨hdr.upd U3 (fun x => x), hdb.upd U3 (fun x => x), hse.upd U3 (fun x => x), ?_, ?_, ?_⟩, h4, h9, fun b hb => by rw [trim_new hb]⟩, hes, fun i hi' => ?_, by rw [e3]; rfl, ⟨by have := hX.mn; omega, fun k => Nat.le_refl _, fun i hi' => by rw [hes i hi']; exact Nat.le_refl _⟩, fun b hb => by rw [hk b (by omega), z b hb]⟩
 ·rw [hk _ (by omega), z _ (by omega)]
 ·rw [hk _ (by omega), z _ (by omega)]
 ·rw [hk _ (by omega), z _ (by omega)]
 ·obtain ⟨a, b, c⟩ := e4 i hi'
  have hb : (s.img i).bs = [] := List.eq_nil_of_length_eq_zero (by omega)
  have := c trivial
  rw [hb] at this
  exact ⟨a, hb, this⟩
theorem EIn.load {w : World} {col : Col} {PP D B X n r : Nat} {s : DevS} {st : Nat → Nat} {M : ByteArray → List Ent} {x : IdxS} (h : EIn w col PP D B X n s r st M x) (hl : LoadAt w) {i : Nat} (hi : i < n) (h0 : st i = 0) :
 Calls Tryz.prog 142 #[.pointer (some ⟨B, 0, none⟩), .int .i64 ((i : Nat) : Int)] w fun e w' => e = .returned (.int .i64 0) ∧ EIn w' col PP D B X n s r (setSt st i 2) M x ∧ Upd (fun b => (col b).1 = 2) w w' := by
 refine (h.tab.load hl hi h0).mono ?_
 rintro e w' ⟨rfl, ht, U⟩
 exact ⟨rfl, h.tab' U ht, U⟩
set_option linter.unusedSimpArgs false
def exL : List Ent := [⟨1, ⟨#[97]⟩, false, 0, 0, 18⟩, ⟨2, ⟨#[98]⟩, false, 0, 18, 18⟩, ⟨3, ⟨#[97]⟩, false, 1, 0, 18⟩, ⟨4, ⟨#[98]⟩, true, 2, 0, 17⟩, ⟨3, ⟨#[97]⟩, false, 3, 0, 18⟩]
def exM (m : Nat) : ByteArray → List Ent := (exL.take m).foldl addM (fun _ => [])
def exEs (m : Nat) : Nat → List Ent := (exL.take m).foldl addE (fun _ => [])
def exO (p j : Nat) : Nat := ((exL.take p).map fun e => if e.slot = j then e.size else 0).sum
def exT (k : Nat) : Nat → Nat := (List.range k).foldl (fun st i => setSt st i 2) (fun _ => 0)
theorem ex_take {p : Nat} {e : Ent} (h : exL[p]? = some e) : exL.take (p + 1) = exL.take p ++ [e] := by rw [List.take_add_one, h]; rfl
theorem key_ok1 {c : UInt8} (h : isLet c = true) : KeyOk ⟨#[c]⟩ := ⟨Nat.zero_lt_one, (by decide : 1 ≤ 32), fun i hi => by
 have : i < 1 := hi
 obtain rfl : i = 0 := by omega
 exact h⟩
theorem ex_fact : ∀ {m : Nat} {e : Ent}, exL[m]? = some e → (∀ y ∈ exEs m e.slot, y.off + y.size ≤ e.off ∧ y.off < e.off) ∧ (∀ y ∈ exEs m e.slot, y.seq ≠ e.seq) ∧
 (∀ i, i < 6 → ∀ y ∈ exEs m i, y.seq = e.seq → y.key = e.key ∧ y.del = e.del ∧ y.size = e.size) ∧ e.slot < 4 ∧ 0 < e.size ∧ exO m e.slot + e.size ≤ 60 ∧ EntOk1 e ∧ m < 5 := by
 have ka := key_ok1 (c := 97) (by decide +kernel)
 have kb := key_ok1 (c := 98) (by decide +kernel)
 intro m e h
 match m with
 | 0 => cases h; exact ⟨by decide, by decide, by decide, by decide, by decide, by decide, ⟨ka, by decide, by decide, by decide, by decide, by decide⟩, by decide⟩
 | 1 => cases h; exact ⟨by decide, by decide, by decide, by decide, by decide, by decide, ⟨kb, by decide, by decide, by decide, by decide, by decide⟩, by decide⟩
 | 2 => cases h; exact ⟨by decide, by decide, by decide, by decide, by decide, by decide, ⟨ka, by decide, by decide, by decide, by decide, by decide⟩, by decide⟩
 | 3 => cases h; exact ⟨by decide, by decide, by decide, by decide, by decide, by decide, ⟨kb, by decide, by decide, by decide, by decide, by decide⟩, by decide⟩
 | 4 => cases h; exact ⟨by decide, by decide, by decide, by decide, by decide, by decide, ⟨ka, by decide, by decide, by decide, by decide, by decide⟩, by decide⟩
 | m + 5 => simp [exL] at h
theorem exT_at : ∀ k, k < 4 → exT k k = 0 := by decide
structure ExS (Z : Nat → Prop) (wb w : World) (D B X p m y k : Nat) : Prop where
 e : ∃ col s x, EIn w col 0 D B X 6 s 2 (exT k) (exM m) x ∧ (∀ i, i < 6 → x.es i = exEs m i) ∧ (∀ j, j < 6 → (s.img j).sz = 60 ∧ (s.img j).bs.length = exO p j ∧ (j < y → (s.img j).dur = (s.img j).bs.length)) ∧ 0 ≤ s.ops ∧ s.ops ≤ p + y ∧ IdxLe m 6 (exM m) x ∧ ∀ b, b < wb.heap.size → Z b → (col b).1 = 0
 u : Upd (fun b => ¬ Z b) wb w
variable {Z : Nat → Prop} {wb w : World} {D B X p m y k : Nat}
theorem ExS.old {w1 : World} (h : ExS Z wb w D B X p m y k) (U : Old w w1) : ExS Z wb w1 D B X p m y k := by
 obtain ⟨⟨col, s, x, hE, hr⟩, hu⟩ := h
 exact ⟨⟨col, s, x, hE.old U, hr⟩, hu.trans (U.mono fun _ _ f => f.elim)⟩
theorem ExS.append (h : ExS Z wb w D B X p m y k) {e : Ent} (hp : exL[p]? = some e) (hy : y ≤ e.slot) {w1 : World} (U : Old w w1) {v : Value} {bs : List UInt8} (hf : Fresh w v) (hb : BytesAt w1 v bs) (hl : bs.length = e.size) (hpy : y ≤ 4) :
 Calls Tryz.prog 107 #[.pointer (some ⟨D, 0, none⟩), .int .i64 ((e.slot : Nat) : Int), v] w1 fun en w' => en = .returned (.int .i64 0) ∧ ExS Z wb w' D B X (p + 1) m y k ∧ Upd (fun b => b < w.heap.size) w1 w' := by
 obtain ⟨⟨col, s, x, hE, he, hi, o0, o1, hle, hz⟩, hu⟩ := h
 obtain ⟨-, -, -, hs4, hs0, hs60, -, hp5⟩ := ex_fact hp
 obtain ⟨i1, i2, -⟩ := hi e.slot (by omega)
 refine ((hE.old U).append (by omega) hb (by omega) (by omega) (by omega) (fun ad m c q => by rw [hE.new _ (hf ad m c q)]; decide)).mono ?_
 rintro en w' ⟨rfl, col', hE', U', hk, -⟩
 have hu1 := hu.trans (U.mono fun _ _ f => f.elim)
 refine ⟨rfl, ⟨⟨col', _, x, hE', he, fun j hj => ?_, ?_, ?_, hle, fun b hb hzb => by rw [hk b (Nat.lt_of_lt_of_le hb hu1.size), hz b hb hzb]⟩, hu1.after U' (fun b hb h1 hzb => by rw [hz b hb hzb] at h1; cases h1)⟩, U'.mono fun b _ h1 => Nat.lt_of_not_le fun hl => by rw [hE.new b hl] at h1; cases h1⟩
 ·obtain ⟨j1, j2, j3⟩ := hi j hj
  have ho : exO (p + 1) j = exO p j + if e.slot = j then e.size else 0 := by
   unfold exO
   rw [ex_take hp, List.map_append, List.sum_append]
   simp
  unfold DevS.put
  by_cases hj : j = e.slot
  ·subst hj
   simp only [if_true]
   exact ⟨i1, by rw [List.length_append, ho]; simp; omega, fun hlt => by omega⟩
  ·simp only [if_neg hj]
   exact ⟨j1, by rw [ho, if_neg (fun h => hj h.symm)]; exact j2, j3⟩
 ·unfold DevS.put; simp only; omega
 ·unfold DevS.put; simp only; omega
theorem ExS.add (h : ExS Z wb w D B X p m y k) {e : Ent} (hm : exL[m]? = some e) :
 Calls Tryz.prog 64 #[.pointer (some ⟨X, 0, none⟩), e.val] w fun en w' => en = .returned (.int .i64 0) ∧ ExS Z wb w' D B X p (m + 1) y k := by
 obtain ⟨⟨col, s, x, hE, he, hi, o0, o1, hle, hz⟩, hu⟩ := h
 obtain ⟨f1, f2, f3, hs4, -, -, hok, hm5⟩ := ex_fact hm
 have hes := he e.slot (by omega)
 refine (hE.add (by omega) hok (by rw [hes]; exact f1) (by rw [hes]; exact f2) (fun i hi => by rw [he i hi]; exact f3 i hi) hle (by omega)).mono ?_
 rintro en w' ⟨rfl, col', x', hE', hx, hle', U', hk, -⟩
 have e1 : exM (m + 1) = addM (exM m) e := by unfold exM; rw [ex_take hm, List.foldl_append]; rfl
 have e2 : exEs (m + 1) = addE (exEs m) e := by unfold exEs; rw [ex_take hm, List.foldl_append]; rfl
 refine ⟨rfl, ⟨col', s, x', by rw [e1]; exact hE', fun i hi => ?_, hi, o0, o1, by rw [e1]; exact hle', fun b hb hzb => by rw [hk b (Nat.lt_of_lt_of_le hb hu.size), hz b hb hzb]⟩, hu.after U' (fun b hb h1 hzb => by rw [hz b hb hzb] at h1; cases h1)⟩
 rw [hx, e2]
 unfold addE
 rw [he i hi]
theorem ExS.sync (h : ExS Z wb w D B X p m y k) (hy : y < 4) (hp : p ≤ 5) :
 Calls Tryz.prog 108 #[.pointer (some ⟨D, 0, none⟩), .int .i64 ((y : Nat) : Int)] w fun en w' => en = .returned (.int .i64 0) ∧ ExS Z wb w' D B X p m (y + 1) k := by
 obtain ⟨⟨col, s, x, hE, he, hi, o0, o1, hle, hz⟩, hu⟩ := h
 refine (hE.sync (by omega) (by omega)).mono ?_
 rintro en w' ⟨rfl, hE', U'⟩
 refine ⟨rfl, ⟨col, _, x, hE', he, fun j hj => ?_, ?_, ?_, hle, hz⟩, hu.after U' (fun b hb h1 hzb => by rw [hz b hb hzb] at h1; cases h1)⟩
 ·obtain ⟨j1, j2, j3⟩ := hi j hj
  unfold DevS.put
  by_cases hj : j = y
  ·subst hj
   simp only [if_true]
   exact ⟨j1, j2, fun _ => trivial⟩
  ·simp only [if_neg hj]
   exact ⟨j1, j2, fun _ => j3 (by omega)⟩
 ·unfold DevS.put; simp only; omega
 ·unfold DevS.put; simp only; omega
theorem LoadAt.upd {F : Nat → Prop} {w w' : World} (h : LoadAt w) (U : Upd F w w') (hf : ¬ F 2) : LoadAt w' :=
 ⟨U.cellOf h.1 hf, U.cellOf h.2.1 hf, U.cellOf h.2.2.1 hf, U.cellOf h.2.2.2.1 hf, U.cellOf h.2.2.2.2.1 hf, U.cellOf h.2.2.2.2.2 hf⟩
theorem ExS.load (h : ExS Z wb w D B X p m y k) (hk : k < 4) (hl : LoadAt wb) (hZ : Z 2) :
 Calls Tryz.prog 142 #[.pointer (some ⟨B, 0, none⟩), .int .i64 ((k : Nat) : Int)] w fun en w' => en = .returned (.int .i64 0) ∧ ExS Z wb w' D B X p m y (k + 1) := by
 obtain ⟨⟨col, s, x, hE, he, hi, o0, o1, hle, hz⟩, hu⟩ := h
 refine (hE.load (hl.upd hu (fun h => h hZ)) (by omega) (exT_at k hk)).mono ?_
 rintro en w' ⟨rfl, hE', U'⟩
 have e1 : exT (k + 1) = setSt (exT k) k 2 := by unfold exT; rw [List.range_succ, List.foldl_append]; rfl
 exact ⟨rfl, ⟨col, s, x, by rw [e1]; exact hE', he, hi, o0, o1, hle, hz⟩, hu.after U' (fun b hb h1 hzb => by rw [hz b hb hzb] at h1; cases h1)⟩
structure RecF (w : World) (b o : Nat) (e : Ent) (kd : Nat) (vl : ByteArray) : Prop where
 c0 : w.cell? ⟨b, o, none⟩ = some (.int .i64 ((kd : Nat) : Int))
 c1 : w.cell? ⟨b, o + 1, none⟩ = some (.int .i64 ((e.seq : Nat) : Int))
 c2 : w.cell? ⟨b, o + 2, none⟩ = some (.string e.key)
 c3 : w.cell? ⟨b, o + 3, none⟩ = some (.string vl)
 kd : (kd = 1 ∧ e.del = false) ∨ (kd = 2 ∧ vl = ⟨#[]⟩ ∧ e.del = true)
 sz : e.size = 16 + e.key.size + vl.size
 v : vl.size ≤ 512
theorem RecF.enc {b o kd : Nat} {e : Ent} {vl : ByteArray} {wr : World} (h : RecF wr b o e kd vl) (hm : exL[m]? = some e) :
 Calls Tryz.prog 103 #[.agg #[.int .i64 ((kd : Nat) : Int), .int .i64 ((e.seq : Nat) : Int), .string e.key, .string vl]] w fun en w' => ∃ v bs, en = .returned (.tuple #[v, .int .i64 0]) ∧ BytesAt w' v bs ∧ bs.length = e.size ∧ Old w w' ∧ Fresh w v := by
 obtain ⟨-, -, -, -, -, -, hok, -⟩ := ex_fact hm
 have s1 := hok.s1
 have s2 := hok.s2
 obtain ⟨k1, k2, -⟩ := hok.key
 have hv := h.v
 rw [h.sz]
 rcases h.kd with ⟨rfl, -⟩ | ⟨rfl, rfl, -⟩
 ·exact rencode k1 k2 hv (fun w => rcheck_put hok.key (by omega) (by omega) hv) (fun sum hs w => hencode hs (by omega) (by omega) (by omega) (by omega) (fun w => hcheck_put (by omega) (by omega) (by omega) (by omega) (by omega) (by omega)))
 ·exact rencode k1 k2 hv (fun w => rcheck_del hok.key (by omega) (by omega)) (fun sum hs w => hencode hs (by omega) (by omega) (by omega) (by omega) (fun w => hcheck_del (by omega) (by omega) (Int.le_refl 0) (Int.le_refl 0) (by omega) (by omega)))
theorem RecF.ent {b o kd : Nat} {e : Ent} {vl : ByteArray} {wr : World} (h : RecF wr b o e kd vl) (hm : exL[m]? = some e) :
 Calls Tryz.prog 106 #[.agg #[.int .i64 ((kd : Nat) : Int), .int .i64 ((e.seq : Nat) : Int), .string e.key, .string vl], .int .i64 ((e.slot : Nat) : Int), .int .i64 ((e.off : Nat) : Int)] w fun en w' => en = .returned (.tuple #[e.val, .int .i64 0]) ∧ Old w w' := by
 obtain ⟨-, -, -, hs4, -, -, hok, -⟩ := ex_fact hm
 have s1 := hok.s1
 have s2 := hok.s2
 have z3 := hok.z3
 obtain ⟨k1, k2, -⟩ := hok.key
 have hv := h.v
 have hsz := h.sz
 refine (rentry k2 hv (by omega) (by omega) ?_).mono ?_
 ·rcases h.kd with ⟨rfl, -⟩ | ⟨rfl, rfl, -⟩
  ·exact fun w => rcheck_put hok.key (by omega) (by omega) hv
  ·exact fun w => rcheck_del hok.key (by omega) (by omega)
 ·rintro en w' ⟨rfl, U⟩
  refine ⟨?_, U⟩
  have hd : (((kd : Nat) : Int) == 2) = e.del := by
   rcases h.kd with ⟨rfl, hd⟩ | ⟨rfl, -, hd⟩ <;> rw [hd] <;> rfl
  rw [hd, ← hsz]
  rfl
end Go.M
