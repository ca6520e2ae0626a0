/- Walks 2. -/
import Derived.WalkKit
import Derived.Lib.Hide
import Derived.Laws.Tables
import Derived.Laws.Rows
import Derived.KernelRfl
import Derived.Deep.QuietTactic
import Derived.BigQuiet
import Derived.StillTailTactics
import Derived.Deep.RegionHeld3
import Derived.WalkSpells
import Derived.WalkLawsBesides
import Derived.Outline
import Derived.Test.YtjadmbkmlehfdaaGreatDoorProg
set_option linter.unusedVariables false
set_option linter.unusedSimpArgs false
set_option maxRecDepth 100000
namespace Go.M
open Go Go.RowKit
def Has (w : World) (b : Nat) (t : TypeId) (c : Array Value) : Prop := w.heap[b]? = some (.cells c t (0, 0))
theorem Has.lt {w : World} {b : Nat} {t : TypeId} {c : Array Value} (h : Has w b t c) : b < w.heap.size := by
 unfold Has at h
 rcases Nat.lt_or_ge b w.heap.size with h' | h'
 ·exact h'
 ·simp [Array.getElem?_eq_none h'] at h
theorem Has.cell {w : World} {b : Nat} {t : TypeId} {c : Array Value} (h : Has w b t c) (i : Nat) : w.cell? ⟨b, i, none⟩ = c[i]? := by
 unfold Has at h
 simp [World.cell?, h]
theorem Has.frozen {w : World} {b : Nat} {t : TypeId} {c : Array Value} (h : Has w b t c) (i : Nat) : w.frozen? ⟨b, i, none⟩ = false := by
 unfold Has at h
 simp [World.frozen?, h]
theorem Has.set {w : World} {b : Nat} {t : TypeId} {c : Array Value} (h : Has w b t c) (i : Nat) (v : Value) : Has (w.setCell ⟨b, i, none⟩ v) b t (c.setIfInBounds i v) := by
 unfold Has at *
 simp [World.setCell, Array.getElem?_modify, h]
theorem Has.setOther {w : World} {b : Nat} {t : TypeId} {c : Array Value} (h : Has w b t c) {a : Addr} (ha : a.block ≠ b) (v : Value) : Has (w.setCell a v) b t c := by
 unfold Has at *
 simp [World.setCell, Array.getElem?_modify, h, ha]
theorem Has.alloc {w : World} {b : Nat} {t : TypeId} {c : Array Value} (h : Has w b t c) (o : Obj) : Has (w.alloc o) b t c := by
 have hl := h.lt
 unfold Has at *
 rw [Go.heap_alloc_old _ _ hl]; exact h
theorem Has.new (w : World) (t : TypeId) (c : Array Value) : Has (w.alloc (.cells c t)) w.heap.size t c := by
 unfold Has
 exact heap_alloc_new _ _
theorem Has.drew {w : World} {b : Nat} {t : TypeId} {c : Array Value} (h : Has w b t c) : Has w.drew b t c := h
structure Upd (F : Nat → Prop) (w w' : World) : Prop where
 size : w.heap.size ≤ w'.heap.size
 keep : ∀ b, b < w.heap.size → ¬ F b → w'.heap[b]? = w.heap[b]?
 tape : w'.tape = w.tape
 os : w'.os = w.os
 out : w'.output = w.output
theorem Upd.refl (F : Nat → Prop) (w : World) : Upd F w w := ⟨Nat.le_refl _, fun _ _ _ => rfl, rfl, rfl, rfl⟩
theorem Upd.trans {F : Nat → Prop} {w w1 w2 : World} (h : Upd F w w1) (h2 : Upd F w1 w2) : Upd F w w2 :=
 ⟨Nat.le_trans h.size h2.size, fun b hb hf => (h2.keep b (Nat.lt_of_lt_of_le hb h.size) hf).trans (h.keep b hb hf), h2.tape.trans h.tape, h2.os.trans h.os, h2.out.trans h.out⟩
theorem Upd.after {F G : Nat → Prop} {w w1 w2 : World} (h : Upd F w w1) (h2 : Upd G w1 w2) (hs : ∀ b, b < w.heap.size → G b → F b) : Upd F w w2 :=
 ⟨Nat.le_trans h.size h2.size, fun b hb hf => (h2.keep b (Nat.lt_of_lt_of_le hb h.size) (fun hg => hf (hs b hb hg))).trans (h.keep b hb hf), h2.tape.trans h.tape, h2.os.trans h.os, h2.out.trans h.out⟩
theorem Upd.mono {F G : Nat → Prop} {w w' : World} (h : Upd F w w') (hs : ∀ b, b < w.heap.size → F b → G b) : Upd G w w' :=
 ⟨h.size, fun b hb hf => h.keep b hb (fun hF => hf (hs b hb hF)), h.tape, h.os, h.out⟩
theorem Upd.has {F : Nat → Prop} {w w' : World} (h : Upd F w w') {b : Nat} {t : TypeId} {c : Array Value} (hh : Has w b t c) (hf : ¬ F b) : Has w' b t c := by
 have := h.keep b hh.lt hf
 unfold Has at *
 rw [this, hh]
theorem Upd.setCell {F : Nat → Prop} {w w' : World} (h : Upd F w w') (a : Addr) (v : Value) (ha : F a.block ∨ w.heap.size ≤ a.block) : Upd F w (w'.setCell a v) := by
 refine ⟨by simpa using h.size, ?_, h.tape, h.os, h.out⟩
 intro b hb hf
 have hne : a.block ≠ b := by
  rintro rfl
  rcases ha with ha | ha
  ·exact hf ha
  ·omega
 rw [← h.keep b hb hf]
 simp [World.setCell, Array.getElem?_modify, hne]
theorem Upd.alloc {F : Nat → Prop} {w w' : World} (h : Upd F w w') (o : Obj) : Upd F w (w'.alloc o) := by
 refine ⟨by have := h.size; simp; omega, ?_, h.tape, h.os, h.out⟩
 intro b hb hf
 rw [← h.keep b hb hf, Go.heap_alloc_old _ _ (Nat.lt_of_lt_of_le hb h.size)]
theorem Upd.drew {F : Nat → Prop} {w w' : World} (h : Upd F w w') : Upd F w w'.drew := ⟨h.size, h.keep, h.tape, h.os, h.out⟩
theorem Upd.drewN {F : Nat → Prop} {w w' : World} (h : Upd F w w') (n : Nat) : Upd F w (w'.drewN n) := ⟨h.size, h.keep, h.tape, h.os, h.out⟩
theorem Upd.cell {F : Nat → Prop} {w w' : World} (h : Upd F w w') {a : Addr} (hb : a.block < w.heap.size) (hf : ¬ F a.block) : w'.cell? a = w.cell? a := by
 simp only [World.cell?, h.keep a.block hb hf]
theorem Upd.cellOf {F : Nat → Prop} {w w' : World} (h : Upd F w w') {b i : Nat} {v : Value} (hc : w.cell? ⟨b, i, none⟩ = some v) (hf : ¬ F b) : w'.cell? ⟨b, i, none⟩ = some v := by
 have hb := block_lt_of_cell hc
 rw [h.cell hb hf, hc]
theorem Old.cellOf' {w w' : World} (h : Upd (fun _ => False) w w') {a : Addr} {v : Value} (hc : w.cell? a = some v) : w'.cell? a = some v := by
 rw [h.cell (World.block_lt_of_cell? w a hc) (fun x => x), hc]
theorem Upd.own {F : Nat → Prop} {w w' : World} (h : Upd F w w') {base e size n : Nat} {v : Value} {xs : List Value} (ho : w.ownsRow base e size v n xs) (hf : ∀ b, v.ownBlock = some b → ¬ F b) : w'.ownsRow base e size v n xs := by
 refine ⟨ho.1, ?_⟩
 rcases ho.2 with h1 | ⟨g, cap, cur, h1, h2, h3, h4⟩
 ·exact .inl h1
 ·refine .inr ⟨g, cap, cur, h1, h2, ?_, h4⟩
  subst h1
  have hb : g < w.heap.size := Has.lt (t := e) (c := cur) h3
  rw [h.keep g hb (hf g rfl), h3]
abbrev Old (w w' : World) : Prop := Upd (fun _ => False) w w'
theorem Old.has {w w' : World} (h : Old w w') {b : Nat} {t : TypeId} {c : Array Value} (hh : Has w b t c) : Has w' b t c := Upd.has h hh (fun x => x)
theorem Old.frz {w w' : World} (h : Old w w') {b j : Nat} {x : Bool} (hb : b < w.heap.size) (hf : w.frozen? ⟨b, j, none⟩ = x) : w'.frozen? ⟨b, j, none⟩ = x := by
 rw [World.frozen?_of_block (h.keep b hb (fun x => x)), hf]
def bcell (b : UInt8) : Value := .int .u8 ((b.toNat : Nat) : Int)
theorem Upd.grown {F : Nat → Prop} {w w1 w2 : World} {row : Option Nat} (h : Upd F w w1) (hg : w1.grownBy w2 row) (hr : ∀ k, row = some k → F k ∨ w.heap.size ≤ k) : Upd F w w2 := by
 refine ⟨Nat.le_trans h.size hg.size, ?_, hg.tape.trans h.tape, hg.os.trans h.os, hg.output.trans h.out⟩
 intro b hb hf
 rw [hg.block b (Nat.lt_of_lt_of_le hb h.size) ?_, h.keep b hb hf]
 intro e
 rcases hr b e.symm with h1 | h1
 ·exact hf h1
 ·omega
theorem own_slice {w : World} {e : TypeId} {base size n : Nat} {v : Value} {xs : List Value} (own : w.ownsRow base e size v n xs) : ∃ a c, v = .slice a n c := by
 rcases own.2 with ⟨h1, h2⟩ | ⟨g, c, cur, h1, _⟩
 ·exact ⟨none, 0, by rw [h1, h2]⟩
 ·exact ⟨_, _, h1⟩
theorem run_append_mk {P : Program} (w : World) (t ty e : TypeId) (i : TypeInfo) (z : Value) (size bytes : Nat) (ht : P.underlying t = some (.slice e)) (hi : P.info? e = some i) (hz : i.zero = some z)
 (hsize : i.size = size) (hby : i.bytes = bytes) (hzs : z.cells.size = size) (hsz : 0 < size)
 (v : Value) (n : Nat) (xs : List Value) (hown : w.ownsRow 0 e size v n xs)
 (a : Addr) (m c : Nat) (news : List Value) (hl : news.length = m * size) (hnews : ∀ j u, news[j]? = some u → w.cell? (a.add j) = some u) (h1 : ∀ u ∈ news, u.oneCell' = true)
 (h63 : n + m ≤ maxLen) (hbytes : (n + m) * bytes ≤ 140737488355328) :
 ∃ v' w', (Builtin.append_ #[t, t] ty #[v, .slice (some a) m c]).run P w = .ok v' w' ∧ w'.ownsRow 0 e size v' (n + m) (xs ++ news) ∧ w.grownBy w' v.ownBlock ∧
  (v' = .slice none 0 0 ↔ v = .slice none 0 0 ∧ m = 0) ∧ (∀ k, v'.ownBlock = some k → v.ownBlock = some k ∨ w.heap.size ≤ k) := by
 obtain ⟨v', w', hr, ho, hg, hn⟩ := run_append_own (P := P) w 0 t ty e i z size bytes ht hi hz hsize hby hzs hsz v n xs hown a m c news hl hnews h1 h63 hbytes (Nat.zero_le _)
 refine ⟨v', w', hr, ho, hg, hn, ?_⟩
 have hh := hown
 rcases hown.2 with ⟨rfl, rfl⟩ | ⟨g, cap, cur, rfl, hbg, hgg, hnc, hcm, hcs, htake⟩
 ·have hx : xs = [] := List.eq_nil_of_length_eq_zero (by simpa using hown.1)
  subst hx
  obtain ⟨v2, w2, hr2, ho2, hg2, hn2⟩ := run_append_own (P := P) w w.heap.size t ty e i z size bytes ht hi hz hsize hby hzs hsz (.slice none 0 0) 0 [] (World.ownsRow_nil _ _ _ _) a m c news hl hnews h1 h63 hbytes (Nat.le_refl _)
  have he := hr.symm.trans hr2
  injection he with e1 e2
  subst e1; subst e2
  intro k hk
  exact .inr (ho2.lt k hk).1
 ·subst hsize
  subst hby
  have hsmall : n + m ≤ 9223372036854775807 := by simp only [maxLen] at h63; omega
  by_cases hroom : n + m ≤ cap
  ·have hfit : n * i.size + news.length ≤ cur.size := by rw [hl, hcs, ← Nat.add_mul]; exact Nat.mul_le_mul_right _ hroom
   have hr2 := run_append_room (P := P) w t ty e i ht hi g n cap cur hgg a m c news hl hnews h1 hroom hfit
   have he := hr.symm.trans hr2
   injection he with e1 e2
   subst e1
   intro k hk
   exact .inl hk
  ·have holds : ∀ j u, xs[j]? = some u → w.cell? ((⟨g, 0, none⟩ : Addr).add j) = some u := hh.cells (g := g) rfl
   have hr2 := run_append_grow (P := P) w t ty e i z ht hi hz ⟨g, 0, none⟩ n cap xs hh.1 holds a m c news hl hnews (by omega) (by omega) (growslice_fits (by omega) hbytes)
   have he := hr.symm.trans hr2
   injection he with e1 e2
   subst e1
   intro k hk
   simp only [Value.ownBlock, Option.some.injEq] at hk
   exact .inr (by omega)
theorem wpList_append_mk {P : Program} {w : World} {ops : Array Oper} {rest : List Oper} {o : Oper} {a : Act} {Q : Exit → Act → World → Prop} (hgd : o.guard = none) (s x : Operand) (t : TypeId)
 (ho : o.op = .call { callee := .builtin .append, args := #[s, x], argTypes := #[t, t] })
 (e : TypeId) (i : TypeInfo) (z : Value) (size bytes : Nat) (ht : P.underlying t = some (.slice e)) (hi : P.info? e = some i) (hz : i.zero = some z)
 (hsize : i.size = size) (hby : i.bytes = bytes) (hzs : z.cells.size = size) (hsz : 0 < size)
 (v : Value) (n : Nat) (xs : List Value) (hs : a.eval s = v) (hown : w.ownsRow 0 e size v n xs)
 (ad : Addr) (m c : Nat) (news : List Value) (hx : a.eval x = .slice (some ad) m c) (hl : news.length = m * size) (hnews : ∀ j u, news[j]? = some u → w.cell? (ad.add j) = some u) (h1 : ∀ u ∈ news, u.oneCell' = true)
 (h63 : n + m ≤ maxLen) (hbytes : (n + m) * bytes ≤ 140737488355328)
 (h : ∀ v' w', w'.ownsRow 0 e size v' (n + m) (xs ++ news) → w.grownBy w' v.ownBlock → (v' = .slice none 0 0 ↔ v = .slice none 0 0 ∧ m = 0) → (∀ k, v'.ownBlock = some k → v.ownBlock = some k ∨ w.heap.size ≤ k) → wpList P ops Q rest (a.put o.dst v') w') : wpList P ops Q (o :: rest) a w := by
 refine wpList_plain hgd fun K hK => ?_
 obtain ⟨v', w', hr, h2, h3, h4, h5⟩ := run_append_mk (P := P) w t o.type e i z size bytes ht hi hz hsize hby hzs hsz v n xs hown ad m c news hl hnews h1 h63 hbytes
 unfold Oper.wp execOp
 simp only [ho, resolve, invoke, builtin, Sem.run_bind, Sem.run_pure, Result.andThen_ok, List.map_toArray, List.map_cons, List.map_nil, hs, hx, hr]
 exact hK _ _ (h v' w' h2 h3 h4 h5)
theorem wpList_load_part {P : Program} {ops : Array Oper} {rest : List Oper} {o : Oper} {a : Act} {w : World} {Q : Exit → Act → World → Prop} (hgd : o.guard = none) (ty : TypeId) (x : Operand) (ho : o.op = .load ty x)
 (ad : Addr) (hx : a.eval x = .pointer (some ad)) (l : List Value) (hl : ∀ j v, l[j]? = some v → w.cell? (ad.add j) = some v) (d : TypeDesc)
 (hu : P.underlying ty = some d) (hd : (match d with | .struct _ | .array _ _ => true | _ => false) = true) (hi : (P.info? ty).map (·.size) = some l.length)
 (h : wpList P ops Q rest (a.put o.dst (.agg l.toArray)) w) : wpList P ops Q (o :: rest) a w := by
 refine wpList_plain hgd fun K hK => ?_
 have hc : (loadCells ad l.length).run P w = .ok l.toArray w := run_loadCells_list (P := P) w ad l hl
 have hv : (loadVar ty ad).run P w = .ok (.agg l.toArray) w := by
  cases hq : P.info? ty with
  | none => simp [hq] at hi
  | some i =>
   have hs : i.size = l.length := by simpa [hq] using hi
   have hagg : (isAgg ty).run P w = .ok true w := by
    unfold isAgg
    rw [Sem.run_bind, run_underlying hu w]
    cases d <;> simp_all
   simp [loadVar, Sem.run_bind, hagg, sizeOf, typeInfo, hq, hs, hc]
 unfold Oper.wp execOp
 simp only [ho, hx, Instr.loadAt, Instr.sureAddr, Sem.run_bind, Sem.run_pure, Result.andThen_ok, hv]
 exact hK _ _ h
abbrev Col := Nat → Nat × Nat
theorem col_ne {col : Col} {a b : Nat} {x y : Nat × Nat} (ha : col a = x) (hb : col b = y) (h : x ≠ y) : a ≠ b := by
 rintro rfl; exact h (ha.symm.trans hb)
def Kept (w : World) (col col' : Col) : Prop := ∀ b, b < w.heap.size → col' b = col b
theorem Kept.refl (w : World) (col : Col) : Kept w col col := fun _ _ => rfl
theorem Kept.trans {w w1 : World} {c c1 c2 : Col} (h : Kept w c c1) (h1 : Kept w1 c1 c2) (hs : w.heap.size ≤ w1.heap.size) : Kept w c c2 := fun b hb => (h1 b (Nat.lt_of_lt_of_le hb hs)).trans (h b hb)
def paint (col : Col) (b : Nat) (r : Nat × Nat) : Col := fun k => if k = b then r else col k
theorem paint_same (col : Col) (b : Nat) (r : Nat × Nat) : paint col b r b = r := by simp [paint]
theorem paint_other (col : Col) {b k : Nat} (r : Nat × Nat) (h : k ≠ b) : paint col b r k = col k := by simp [paint, h]
theorem Kept.paint {w : World} {c c' : Col} (h : Kept w c c') {b : Nat} (hb : w.heap.size ≤ b) (r : Nat × Nat) : Kept w c (paint c' b r) := fun k hk => by rw [paint_other _ _ (by omega)]; exact h k hk
end Go.M
namespace Go.M
open Go.Proofs Go.RowKit
structure ImgS where
 bs : List UInt8
 dur : Nat
 sz : Nat
structure DevS where
 n : Nat
 img : Nat → ImgS
 ops : Int
 down : Bool
structure ImgAt (w : World) (M : Nat) (v : Value) (m : ImgS) : Prop where
 blk : ∃ t, Has w M t #[v, .int .i64 ((m.sz : Nat) : Int), .int .i64 ((m.dur : Nat) : Int)]
 own : w.ownsRow 0 5 1 v m.bs.length (m.bs.map bcell)
 fits : m.bs.length ≤ m.sz
 durs : m.dur ≤ m.bs.length
 pos : 1 ≤ m.sz
 most : m.sz ≤ 8192
structure DevAt (w : World) (col : Col) (q D : Nat) (s : DevS) (K S cap T : Nat) (M : Nat → Nat) (V : Nat → Value) : Prop where
 fd : ∃ t, Has w D t #[.pointer (some ⟨K, 0, none⟩), .pointer (some ⟨T, 0, none⟩), .int .i64 ((s.n : Nat) : Int), .int .i64 s.ops, .bool s.down]
 fk : ∃ t, Has w K t #[.slice (some ⟨S, 0, none⟩) (s.n + 2) cap]
 ft : ∃ t, Has w T t #[.bool true, .pointer none]
 fs : ∀ i, i < s.n + 2 → w.cell? ⟨S, i, none⟩ = some (.pointer (some ⟨M i, 0, none⟩))
 fm : ∀ i, i < s.n + 2 → ImgAt w (M i) (V i) (s.img i)
 lo : 2 ≤ s.n
 hi : s.n ≤ 32
 cD : col D = (q, 0)
 cK : col K = (q, 1)
 cS : col S = (q, 2)
 cT : col T = (q, 3)
 cM : ∀ i, i < s.n + 2 → col (M i) = (q, 4 + 2 * i)
 cV : ∀ i, i < s.n + 2 → ∀ b, (V i).ownBlock = some b → col b = (q, 5 + 2 * i)
 ops0 : 0 ≤ s.ops
 ops1 : s.ops ≤ 1000000000
structure DevCells (w : World) (D K S T Mi : Nat) (n i len sz dur cap : Nat) (ops : Int) (down : Bool) (va : Option Addr) (vc : Nat) : Prop where
 d0 : w.cell? ⟨D, 0, none⟩ = some (.pointer (some ⟨K, 0, none⟩))
 d1 : w.cell? ⟨D, 1, none⟩ = some (.pointer (some ⟨T, 0, none⟩))
 d2 : w.cell? ⟨D, 2, none⟩ = some (.int .i64 ((n : Nat) : Int))
 d3 : w.cell? ⟨D, 3, none⟩ = some (.int .i64 ops)
 d4 : w.cell? ⟨D, 4, none⟩ = some (.bool down)
 k0 : w.cell? ⟨K, 0, none⟩ = some (.slice (some ⟨S, 0, none⟩) (n + 2) cap)
 t0 : w.cell? ⟨T, 0, none⟩ = some (.bool true)
 t1 : w.cell? ⟨T, 1, none⟩ = some (.pointer none)
 s0 : w.cell? ⟨S, i, none⟩ = some (.pointer (some ⟨Mi, 0, none⟩))
 m0 : w.cell? ⟨Mi, 0, none⟩ = some (.slice va len vc)
 m1 : w.cell? ⟨Mi, 1, none⟩ = some (.int .i64 ((sz : Nat) : Int))
 m2 : w.cell? ⟨Mi, 2, none⟩ = some (.int .i64 ((dur : Nat) : Int))
 fD : ∀ j, w.frozen? ⟨D, j, none⟩ = false
 fM : ∀ j, w.frozen? ⟨Mi, j, none⟩ = false
 hD : D < w.heap.size
 hK : K < w.heap.size
 hS : S < w.heap.size
 hT : T < w.heap.size
 hM : Mi < w.heap.size
 b0 : (decide ((i : Int) < 0) || decide ((n : Int) + 2 ≤ (i : Int))) = false
 p0 : 0 < n
 p1 : (0 : Int) < (n : Int) + 2
 p2 : 0 < sz
 p3 : n ≤ 32
 p4 : i < n + 2
 p5 : len ≤ sz
 p6 : sz ≤ 8192
 p7 : dur ≤ len
 DK : D ≠ K
 DS : D ≠ S
 DT : D ≠ T
 DM : D ≠ Mi
 KM : K ≠ Mi
 SM : S ≠ Mi
 TM : T ≠ Mi
theorem DevAt.cells {w : World} {col : Col} {q D : Nat} {s : DevS} {K S cap T : Nat} {M : Nat → Nat} {V : Nat → Value} (h : DevAt w col q D s K S cap T M V) (i : Nat) (hi : i < s.n + 2) :
 ∃ va vc, V i = .slice va (s.img i).bs.length vc ∧ DevCells w D K S T (M i) s.n i (s.img i).bs.length (s.img i).sz (s.img i).dur cap s.ops s.down va vc := by
 obtain ⟨⟨_, d⟩, ⟨_, k⟩, ⟨_, t⟩, hs, hm, lo, hi2, cD, cK, cS, cT, cM, cV, -, -⟩ := h
 have s0 := hs i hi
 obtain ⟨⟨_, m⟩, own, f1, f2, p1, p2⟩ := hm i hi
 have hv : ∃ a c, V i = .slice a (s.img i).bs.length c := by
  rcases own.2 with ⟨h1, h2⟩ | ⟨g, c, cur, h1, _⟩
  ·exact ⟨none, 0, by rw [h1, h2]⟩
  ·exact ⟨_, _, h1⟩
 obtain ⟨va, vc, hv⟩ := hv
 rw [hv] at m
 have cm := cM i hi
 refine ⟨va, vc, hv, d.cell 0, d.cell 1, d.cell 2, d.cell 3, d.cell 4, k.cell 0, t.cell 0, t.cell 1, s0, m.cell 0, m.cell 1, m.cell 2, d.frozen, m.frozen, d.lt, k.lt, block_lt_of_cell s0, t.lt, m.lt, ?_, by omega, by omega, p1, hi2, hi, f1, p2, f2, ?_, ?_, ?_, ?_, ?_, ?_, ?_⟩
 ·simp; omega
 ·exact col_ne cD cK (by simp)
 ·exact col_ne cD cS (by simp)
 ·exact col_ne cD cT (by simp)
 ·exact col_ne cD cm (by simp; omega)
 ·exact col_ne cK cm (by simp; omega)
 ·exact col_ne cS cm (by simp; omega)
 ·exact col_ne cT cm (by simp; omega)
theorem DevCells.old {w w' : World} (O : Old w w') {D K S T Mi : Nat} {n i len sz dur cap : Nat} {ops : Int} {down : Bool} {va : Option Addr} {vc : Nat} (h : DevCells w D K S T Mi n i len sz dur cap ops down va vc) :
 DevCells w' D K S T Mi n i len sz dur cap ops down va vc := by
 obtain ⟨d0, d1, d2, d3, d4, k0, t0, t1, s0, m0, m1, m2, fD, fM, hD, hK, hS, hT, hM, b0, p0, p1, p2, p3, p4, p5, p6, p7, DK, DS, DT, DM, KM, SM, TM⟩ := h
 have n0 : ∀ b : Nat, ¬ False := fun _ h => h
 have z := O.size
 exact ⟨O.cellOf d0 (n0 0), O.cellOf d1 (n0 0), O.cellOf d2 (n0 0), O.cellOf d3 (n0 0), O.cellOf d4 (n0 0), O.cellOf k0 (n0 0), O.cellOf t0 (n0 0), O.cellOf t1 (n0 0), O.cellOf s0 (n0 0), O.cellOf m0 (n0 0), O.cellOf m1 (n0 0), O.cellOf m2 (n0 0),
  fun j => O.frz hD (fD j), fun j => O.frz hM (fM j), by omega, by omega, by omega, by omega, by omega, b0, p0, p1, p2, p3, p4, p5, p6, p7, DK, DS, DT, DM, KM, SM, TM⟩
section
variable {w : World} {col : Col} {q D : Nat} {s : DevS} {K S cap T : Nat} {M : Nat → Nat} {V : Nat → Value}
theorem len_cells {w : World} {D K S T Mi : Nat} {n i len sz dur cap : Nat} {ops : Int} {va : Option Addr} {vc : Nat} (h : DevCells w D K S T Mi n i len sz dur cap ops false va vc) :
 Calls Tryz.prog 12 #[.pointer (some ⟨D, 0, none⟩), .int .i64 ((i : Nat) : Int)] w fun e w' => e = .returned (.tuple #[.int .i64 ((len : Nat) : Int), .int .i64 0]) ∧ Old w w' := by
 obtain ⟨d0, -, d2, -, d4, k0, -, -, s0, m0, m1, -, -, -, hD, hK, hS, -, hM, b0, p0, p1, p2, p3, p4, -, -, -, -, -, -, -, -, -, -⟩ := h
 go_enter Tryz.func12, Tryz.ntmps12
 go_wp2
 go_ret2
 exact ⟨rfl, ((Upd.refl _ _).alloc _).alloc _⟩
theorem room_cells {w : World} {D K S T Mi : Nat} {n i len sz dur cap : Nat} {ops : Int} {va : Option Addr} {vc : Nat} (h : DevCells w D K S T Mi n i len sz dur cap ops false va vc) :
 Calls Tryz.prog 104 #[.pointer (some ⟨D, 0, none⟩), .int .i64 ((i : Nat) : Int)] w fun e w' => e = .returned (.tuple #[.int .i64 ((sz : Int) - (len : Int)), .int .i64 0]) ∧ Old w w' := by
 obtain ⟨d0, -, d2, -, d4, k0, -, -, s0, m0, m1, -, -, -, hD, hK, hS, -, hM, b0, p0, p1, p2, p3, p4, p5, p6, -, -, -, -, -, -, -, -⟩ := h
 go_enter Tryz.func104, Tryz.ntmps104
 go_wp2
 go_quiet (fail)
 go_wp2
 go_ret2
 exact ⟨rfl, Upd.setCell ((((Upd.refl _ _).alloc _).alloc _).drewN _) _ _ (by simp)⟩
theorem plan_none {w : World} {T : Nat} (t1 : w.cell? ⟨T, 1, none⟩ = some (.pointer none)) :
 Calls Tryz.prog 194 #[.pointer (some ⟨T, 0, none⟩)] w fun e w' => e = .returned (.tuple #[.agg #[.int .i64 0, .bool false, .slice none 0 0], .bool false]) ∧ w.alloc (.cells #[.int .i64 0, .bool false, .slice none 0 0] 50) = w' := by
 have hT := block_lt_of_cell t1
 simp only at hT
 go_enter Tryz.func194, Tryz.ntmps194
 go_wp2
 exact bodyPost_ret (v := .tuple #[.agg #[.int .i64 0, .bool false, .slice none 0 0], .bool false]) (by simp [results, Tryz.results194, go_sem]) rfl ⟨rfl, rfl⟩
theorem isync_walk {w : World} {Mi : Nat} {len sz dur : Nat} {va : Option Addr} {vc : Nat} (m0 : w.cell? ⟨Mi, 0, none⟩ = some (.slice va len vc)) (m1 : w.cell? ⟨Mi, 1, none⟩ = some (.int .i64 ((sz : Nat) : Int)))
 (fM : w.frozen? ⟨Mi, 2, none⟩ = false) (m2 : w.cell? ⟨Mi, 2, none⟩ = some (.int .i64 ((dur : Nat) : Int))) (p2 : 0 < sz) :
 Calls Tryz.prog 254 #[.pointer (some ⟨Mi, 0, none⟩)] w fun e w' => e = .returned (.tuple #[]) ∧ w.setCell ⟨Mi, 2, none⟩ (.int .i64 ((len : Nat) : Int)) = w' := by
 go_enter Tryz.func254, Tryz.ntmps254
 go_wp2
 go_end0
 exact ⟨rfl, rfl⟩
theorem sync1 {w : World} {A B D K S Mi : Nat} {n i len cap sz dur : Nat} {va : Option Addr} {vc : Nat}
 (ca : w.cell? ⟨A, 0, none⟩ = some (.pointer (some ⟨D, 0, none⟩))) (cb : w.cell? ⟨B, 0, none⟩ = some (.int .i64 ((i : Nat) : Int)))
 (d0 : w.cell? ⟨D, 0, none⟩ = some (.pointer (some ⟨K, 0, none⟩))) (k0 : w.cell? ⟨K, 0, none⟩ = some (.slice (some ⟨S, 0, none⟩) (n + 2) cap))
 (s0 : w.cell? ⟨S, i, none⟩ = some (.pointer (some ⟨Mi, 0, none⟩))) (m0 : w.cell? ⟨Mi, 0, none⟩ = some (.slice va len vc)) (m1 : w.cell? ⟨Mi, 1, none⟩ = some (.int .i64 ((sz : Nat) : Int)))
 (fM : w.frozen? ⟨Mi, 2, none⟩ = false) (m2 : w.cell? ⟨Mi, 2, none⟩ = some (.int .i64 ((dur : Nat) : Int))) (p1 : (0 : Int) < (n : Int) + 2) (p2 : 0 < sz) (p3 : n ≤ 32) (p4 : i < n + 2) (b0 : (decide ((i : Int) < 0) || decide ((n : Int) + 2 ≤ (i : Int))) = false) :
 Calls Tryz.prog 188 #[.pointer (some ⟨A, 0, none⟩), .pointer (some ⟨B, 0, none⟩)] w fun e w' => e = .returned (.tuple #[]) ∧ (w.setCell ⟨Mi, 2, none⟩ (.int .i64 ((len : Nat) : Int))).drew = w' := by
 go_enter Tryz.func188, Tryz.ntmps188
 go_wp2
 go_still_tail 6, (by kernel_rfl)
 change wpList _ _ _ _ _ w.drew
 have hK := block_lt_of_cell k0
 have hS := block_lt_of_cell s0
 have hM := block_lt_of_cell m0
 simp only at hK hS hM
 go_wp2_with (first | (go_at_call 254; refine (isync_walk (by exact m0) (by exact m1) (by exact fM) (by exact m2) p2).mono ?_; rintro e w1 ⟨rfl, rfl⟩) | go_in)
 go_end0
 exact ⟨rfl, rfl⟩
theorem sync_cells {w : World} {D K S T Mi : Nat} {n i len sz dur cap : Nat} {ops : Int} {va : Option Addr} {vc : Nat} (h : DevCells w D K S T Mi n i len sz dur cap ops false va vc) (o0 : 0 ≤ ops) (o1 : ops ≤ 1000000000) :
 Calls Tryz.prog 108 #[.pointer (some ⟨D, 0, none⟩), .int .i64 ((i : Nat) : Int)] w fun e w' => e = .returned (.int .i64 0) ∧ Old ((w.setCell ⟨D, 3, none⟩ (.int .i64 (ops + 1))).setCell ⟨Mi, 2, none⟩ (.int .i64 ((len : Nat) : Int))) w' := by
 obtain ⟨d0, d1, d2, d3, d4, k0, t0, t1, s0, m0, m1, m2, fD, fM, hD, hK, hS, hT, hM, b0, p0, p1, p2, p3, p4, p5, p6, p7, DK, DS, DT, DM, KM, SM, TM⟩ := h
 go_enter Tryz.func108, Tryz.ntmps108
 have kD : ∀ k, D < w.heap.size + k := fun k => by omega
 have kK : ∀ k, K < w.heap.size + k := fun k => by omega
 have kS : ∀ k, S < w.heap.size + k := fun k => by omega
 have kT : ∀ k, T < w.heap.size + k := fun k => by omega
 have kM : ∀ k, Mi < w.heap.size + k := fun k => by omega
 go_wp2_with (first | (go_at_call 188; refine (sync1 (D := D) (K := K) (S := S) (Mi := Mi) (n := n) (i := i) (len := len) (cap := cap) (sz := sz) (dur := dur) (va := va) (vc := vc) (by go_simp) (by go_simp) (by go_simp) (by go_simp) (by go_simp) (by go_simp) (by go_simp) (by go_simp) (by go_simp) p1 p2 p3 p4 b0).mono ?_; rintro e w1 ⟨rfl, rfl⟩) | (go_at_call 194; refine (plan_none (by go_simp)).mono ?_; rintro e w1 ⟨rfl, rfl⟩) | go_in)
 go_ret
 exact ⟨rfl, (((((Upd.refl _ _).alloc _).alloc _).alloc _).alloc _).drew⟩
def DevS.put (s : DevS) (i : Nat) (m : ImgS) : DevS := { s with ops := s.ops + 1, img := fun k => if k = i then m else s.img k }
theorem DevAt.upd {w' : World} (h : DevAt w col q D s K S cap T M V) {i : Nat} (hi : i < s.n + 2) {F : Nat → Prop} (U : Upd F w w') (hF : ∀ b, F b → b = D ∨ b = M i ∨ (V i).ownBlock = some b)
 {ops : Int} (hd : ∃ t, Has w' D t #[.pointer (some ⟨K, 0, none⟩), .pointer (some ⟨T, 0, none⟩), .int .i64 ((s.n : Nat) : Int), .int .i64 ops, .bool s.down])
 {v : Value} {m : ImgS} (him : ImgAt w' (M i) v m) {col' : Col} (hcol : Kept w col col') (hv : ∀ b, v.ownBlock = some b → col' b = (q, 5 + 2 * i)) (o0 : 0 ≤ ops) (o1 : ops ≤ 1000000000) :
 DevAt w' col' q D { s with ops := ops, img := fun k => if k = i then m else s.img k } K S cap T M (fun k => if k = i then v else V k) := by
 obtain ⟨⟨td, d⟩, ⟨tk, k⟩, ⟨tt, t⟩, hs, hm, lo, hi2, cD, cK, cS, cT, cM, cV, -, -⟩ := h
 have lM : ∀ j, j < s.n + 2 → M j < w.heap.size := fun j hj => by obtain ⟨⟨_, m⟩, _⟩ := hm j hj; exact m.lt
 have lS : S < w.heap.size := block_lt_of_cell (hs i hi)
 have nF : ∀ b r, col b = (q, r) → r ≠ 0 → r ≠ 4 + 2 * i → r ≠ 5 + 2 * i → ¬ F b := by
  intro b r hb h0 h4 h5 hf
  rcases hF b hf with rfl | rfl | h1
  ·rw [cD] at hb; simp at hb; omega
  ·rw [cM i hi] at hb; simp at hb; omega
  ·rw [cV i hi b h1] at hb; simp at hb; omega
 refine ⟨hd, ⟨tk, U.has k (nF K 1 cK (by omega) (by omega) (by omega))⟩, ⟨tt, U.has t (nF T 3 cT (by omega) (by omega) (by omega))⟩, ?_, ?_, lo, hi2, ?_, ?_, ?_, ?_, ?_, ?_, o0, o1⟩
 ·intro j hj
  exact U.cellOf (hs j hj) (nF S 2 cS (by omega) (by omega) (by omega))
 ·intro j hj
  by_cases e : j = i
  ·subst e; simpa using him
  ·simp only [e, if_false]
   obtain ⟨⟨tm, m⟩, own, f1, f2, p1, p2⟩ := hm j hj
   exact ⟨⟨tm, U.has m (nF _ _ (cM j hj) (by omega) (by omega) (by omega))⟩, U.own own (fun b hb => nF _ _ (cV j hj b hb) (by omega) (by omega) (by omega)), f1, f2, p1, p2⟩
 ·rw [hcol D d.lt]; exact cD
 ·rw [hcol K k.lt]; exact cK
 ·rw [hcol S lS]; exact cS
 ·rw [hcol T t.lt]; exact cT
 ·intro j hj; rw [hcol _ (lM j hj)]; exact cM j hj
 ·intro j hj b hb
  by_cases e : j = i
  ·subst e; simp only [if_true] at hb; exact hv b hb
  ·simp only [e, if_false] at hb
   have hb2 : b < w.heap.size := by
    obtain ⟨_, own, _⟩ := hm j hj
    exact (own.lt b hb).2
   rw [hcol b hb2]; exact cV j hj b hb
theorem dev_sync (h : DevAt w col q D s K S cap T M V) (hup : s.down = false) (i : Nat) (hi : i < s.n + 2) (ho : s.ops < 1000000000) :
 Calls Tryz.prog 108 #[.pointer (some ⟨D, 0, none⟩), .int .i64 ((i : Nat) : Int)] w fun e w' => e = .returned (.int .i64 0) ∧
  DevAt w' col q D (s.put i { s.img i with dur := (s.img i).bs.length }) K S cap T M (fun k => if k = i then V i else V k) ∧ Upd (fun b => b = D ∨ b = M i) w w' := by
 obtain ⟨va, vc, hv, c⟩ := h.cells i hi
 rw [hup] at c
 refine (sync_cells c h.ops0 h.ops1).mono ?_
 rintro e w' ⟨rfl, hO⟩
 have U : Upd (fun b => b = D ∨ b = M i) w w' := (((Upd.refl _ _).setCell ⟨D, 3, none⟩ (.int .i64 (s.ops + 1)) (.inl (.inl rfl))).setCell ⟨M i, 2, none⟩ (.int .i64 (((s.img i).bs.length : Nat) : Int)) (.inl (.inr rfl))).trans (hO.mono (fun _ _ h => h.elim))
 refine ⟨rfl, ?_, U⟩
 obtain ⟨td, d⟩ := h.fd
 obtain ⟨⟨tm, m⟩, own, f1, f2, p1, p2⟩ := h.fm i hi
 refine h.upd (m := { s.img i with dur := (s.img i).bs.length }) (v := V i) (ops := s.ops + 1) hi U (fun b hb => hb.imp_right .inl) ⟨td, hO.has ?_⟩ ⟨⟨tm, hO.has ?_⟩, U.own own ?_, f1, Nat.le_refl _, p1, p2⟩ (Kept.refl _ _) (h.cV i hi) (by have := h.ops0; omega) (by omega)
 ·have := (d.set 3 (.int .i64 (s.ops + 1))).setOther (a := ⟨M i, 2, none⟩) (Ne.symm c.DM) (.int .i64 (((s.img i).bs.length : Nat) : Int))
  simpa using this
 ·have := (m.setOther (a := ⟨D, 3, none⟩) c.DM (.int .i64 (s.ops + 1))).set 2 (.int .i64 (((s.img i).bs.length : Nat) : Int))
  simpa using this
 ·intro b hb hf
  have hc := h.cV i hi b hb
  rcases hf with rfl | rfl
  ·rw [h.cD] at hc; simp at hc; omega
  ·rw [h.cM i hi] at hc; simp at hc <;> omega
def Appended (w : World) (Mi : Nat) (e : TypeId) (v : Value) (n : Nat) (xs : List Value) (r : Value) (en : Ending) (w' : World) : Prop :=
 en = .returned r ∧ ∃ v' w1, Upd (fun b => v.ownBlock = some b) w w1 ∧ w1.ownsRow 0 e 1 v' n xs ∧ (∀ k, v'.ownBlock = some k → v.ownBlock = some k ∨ w.heap.size ≤ k) ∧ w' = w1.setCell ⟨Mi, 0, none⟩ v'
theorem info_u8 : (Tryz.prog.info? 5).map (fun i => (i.zero, i.size, i.bytes)) = some (some (.int .u8 0), 1, 1) := by kernel_rfl
theorem iappend_walk {w : World} {Mi : Nat} {len sz lb cb : Nat} {v : Value} {bs nb : List UInt8} {ad : Addr} (m0 : w.cell? ⟨Mi, 0, none⟩ = some v) (m1 : w.cell? ⟨Mi, 1, none⟩ = some (.int .i64 ((sz : Nat) : Int)))
 (fM : ∀ j, w.frozen? ⟨Mi, j, none⟩ = false) (own : w.ownsRow 0 5 1 v len (bs.map bcell)) (hl : nb.length = lb) (hb : ∀ j u, nb[j]? = some u → w.cell? (ad.add j) = some (bcell u))
 (p2 : 0 < sz) (p6 : sz ≤ 8192) (hfit : len + lb ≤ sz) (hvM : v.ownBlock ≠ some Mi) :
 Calls Tryz.prog 252 #[.pointer (some ⟨Mi, 0, none⟩), .slice (some ad) lb cb] w (Appended w Mi 5 v (len + lb) (bs.map bcell ++ nb.map bcell) (.int .i64 0)) := by
 have hv : ∃ a c, v = .slice a len c := by
  rcases own.2 with ⟨h1, h2⟩ | ⟨g, c, cur, h1, _⟩
  ·exact ⟨none, 0, by rw [h1, h2]⟩
  ·exact ⟨_, _, h1⟩
 obtain ⟨va, vc, rfl⟩ := hv
 have H : Hid (∀ j u, nb[j]? = some u → w.cell? (ad.add j) = some (bcell u)) := Lib.hid hb
 clear hb
 have hM := block_lt_of_cell m0
 simp only at hM
 have t1 : ¬ (sz : Int) - (len : Int) < (lb : Int) := by omega
 obtain ⟨i0, hi0, hz0, hz1, hz2⟩ := info_parts info_u8
 go_enter Tryz.func252, Tryz.ntmps252
 go_wp2
 go_quiet (fail)
 go_wp2_with (first | (at_builtin; refine wpList_append_mk rfl _ _ 77 rfl 5 i0 (.int .u8 0) 1 1 Tryz.underlying77 hi0 hz0 hz1 hz2 rfl (by decide) (.slice va len vc) len (bs.map bcell) rfl (by exact own) ad lb cb (nb.map bcell) rfl ?c1 ?c2 ?c3 ?c4 ?c5 ?_))
 case c1 => simpa using hl
 case c2 =>
  intro j u hj
  rw [List.getElem?_map] at hj
  obtain ⟨x, hx, rfl⟩ := Option.map_eq_some_iff.1 hj
  exact H.out j x hx
 case c3 =>
  intro u hu
  obtain ⟨x, _, rfl⟩ := List.mem_map.1 hu
  rfl
 case c4 => unfold maxLen; omega
 case c5 => omega
 intro v' w1 hown' hgrow hnil hfresh
 obtain ⟨va', vc', rfl⟩ := own_slice hown'
 have g0 : w1.cell? ⟨Mi, 0, none⟩ = some (.slice va len vc) := hgrow.cell (by exact m0) (fun h => hvM h.symm)
 have g1 : w1.frozen? ⟨Mi, 0, none⟩ = false := by
  rw [World.frozen?_of_block (hgrow.block Mi hM (fun h => hvM h.symm))]; exact fM 0
 go_wp2
 go_ret
 exact ⟨rfl, _, w1, ((Upd.refl _ _).drewN _).grown hgrow (fun k hk => .inl hk), hown', hfresh, rfl⟩
theorem append1 {w : World} {A B C D K S Mi : Nat} {n i len cap sz lb cb : Nat} {v : Value} {bs nb : List UInt8} {ad : Addr}
 (ca : w.cell? ⟨A, 0, none⟩ = some (.pointer (some ⟨D, 0, none⟩))) (cb0 : w.cell? ⟨B, 0, none⟩ = some (.int .i64 ((i : Nat) : Int))) (cc : w.cell? ⟨C, 0, none⟩ = some (.slice (some ad) lb cb))
 (d0 : w.cell? ⟨D, 0, none⟩ = some (.pointer (some ⟨K, 0, none⟩))) (k0 : w.cell? ⟨K, 0, none⟩ = some (.slice (some ⟨S, 0, none⟩) (n + 2) cap))
 (s0 : w.cell? ⟨S, i, none⟩ = some (.pointer (some ⟨Mi, 0, none⟩))) (m0 : w.cell? ⟨Mi, 0, none⟩ = some v) (m1 : w.cell? ⟨Mi, 1, none⟩ = some (.int .i64 ((sz : Nat) : Int)))
 (fM : ∀ j, w.frozen? ⟨Mi, j, none⟩ = false) (own : w.ownsRow 0 5 1 v len (bs.map bcell)) (hl : nb.length = lb) (hb : ∀ j u, nb[j]? = some u → w.cell? (ad.add j) = some (bcell u))
 (p1 : (0 : Int) < (n : Int) + 2) (p2 : 0 < sz) (p3 : n ≤ 32) (p4 : i < n + 2) (p6 : sz ≤ 8192) (hfit : len + lb ≤ sz) (hvM : v.ownBlock ≠ some Mi) (b0 : (decide ((i : Int) < 0) || decide ((n : Int) + 2 ≤ (i : Int))) = false) :
 Calls Tryz.prog 185 #[.pointer (some ⟨A, 0, none⟩), .pointer (some ⟨B, 0, none⟩), .pointer (some ⟨C, 0, none⟩)] w (Appended w Mi 5 v (len + lb) (bs.map bcell ++ nb.map bcell) (.tuple #[])) := by
 have H := Lib.hid hb
 have HL := Lib.hid hl
 have HO := Lib.hid own
 clear hb hl own
 have hK := block_lt_of_cell k0
 have hS := block_lt_of_cell s0
 have hM := block_lt_of_cell m0
 simp only at hK hS hM
 go_enter Tryz.func185, Tryz.ntmps185
 go_wp2
 go_still_tail 7, (by kernel_rfl)
 change wpList _ _ _ _ _ w.drew
 have H2 : ∀ o : Obj, ∀ j u, nb[j]? = some u → (w.alloc o).cell? (ad.add j) = some (bcell u) := by
  intro o j u hj
  have := H.out j u hj
  rw [World.cell?_alloc_lt _ _ _ (World.block_lt_of_cell? w _ this)]; exact this
 have H3 := Lib.hid H2
 clear H2
 go_wp2_with (first | (go_at_call 252; refine (iappend_walk (v := v) (len := len) (sz := sz) (bs := bs) (nb := nb) (by go_simp) (by go_simp) (by intro j; go_simp) (by exact HO.out.alloc _) HL.out (by exact H3.out _) p2 p6 hfit hvM).mono ?_; rintro e w1 ⟨rfl, v', w2, hU, hown, hfr, rfl⟩) | go_in)
 go_end0
 exact ⟨rfl, v', w2, (((Upd.refl _ w).alloc _).drew).trans hU, hown, fun k hk => (hfr k hk).imp id (fun h => by simp at h; omega), rfl⟩
def Roomy (w : World) (r : Int) (en : Ending) (w' : World) : Prop := en = .returned (.int .i64 r) ∧ ∃ nq, w' = w.drewN nq
theorem iroom_walk {w : World} {Mi : Nat} {len sz vc : Nat} {va : Option Addr} (m0 : w.cell? ⟨Mi, 0, none⟩ = some (.slice va len vc)) (m1 : w.cell? ⟨Mi, 1, none⟩ = some (.int .i64 ((sz : Nat) : Int))) (p2 : 0 < sz) (p6 : sz ≤ 8192) (p5 : len ≤ sz) :
 Calls Tryz.prog 249 #[.pointer (some ⟨Mi, 0, none⟩)] w (Roomy w ((sz : Int) - (len : Int))) := by
 go_enter Tryz.func249, Tryz.ntmps249
 go_wp2
 go_quiet (fail)
 go_wp2
 go_ret
 exact ⟨rfl, _, rfl⟩
theorem droom_walk {w : World} {D K S T Mi : Nat} {n i len sz dur cap : Nat} {ops : Int} {va : Option Addr} {vc : Nat} (h : DevCells w D K S T Mi n i len sz dur cap ops false va vc) :
 Calls Tryz.prog 182 #[.pointer (some ⟨K, 0, none⟩), .int .i64 ((i : Nat) : Int)] w fun e w' => e = .returned (.tuple #[.int .i64 ((sz : Int) - (len : Int)), .int .i64 0]) ∧ Old w w' := by
 obtain ⟨d0, -, d2, -, d4, k0, -, -, s0, m0, m1, -, -, -, hD, hK, hS, -, hM, b0, p0, p1, p2, p3, p4, p5, p6, -, -, -, -, -, -, -, -⟩ := h
 go_enter Tryz.func182, Tryz.ntmps182
 go_wp2_with (first | (go_at_call 249; refine (iroom_walk (len := len) (sz := sz) (vc := vc) (va := va) (by go_simp) (by go_simp) p2 p6 p5).mono ?_; rintro e w1 ⟨rfl, nq, rfl⟩) | go_in)
 go_ret2
 exact ⟨rfl, Upd.setCell ((((Upd.refl _ _).alloc _).alloc _).drewN _) _ _ (by simp)⟩
def AppendedDev (w : World) (D Mi : Nat) (ops : Int) (v : Value) (n : Nat) (xs : List Value) (en : Ending) (w' : World) : Prop :=
 en = .returned (.int .i64 0) ∧ ∃ v', Upd (fun b => b = D ∨ b = Mi ∨ v.ownBlock = some b) w w' ∧ w'.ownsRow 0 5 1 v' n xs ∧ (∀ k, v'.ownBlock = some k → v.ownBlock = some k ∨ w.heap.size ≤ k) ∧
  (∀ t c, Has w D t c → Has w' D t (c.setIfInBounds 3 (.int .i64 (ops + 1)))) ∧ (∀ t c, Has w Mi t c → Has w' Mi t (c.setIfInBounds 0 v'))
set_option maxHeartbeats 1000000 in
theorem append_cells {w : World} {D K S T Mi : Nat} {n i len sz dur cap lb cb : Nat} {ops : Int} {va : Option Addr} {vc : Nat} {bs nb : List UInt8} {ad : Addr} (h : DevCells w D K S T Mi n i len sz dur cap ops false va vc) (o0 : 0 ≤ ops) (o1 : ops ≤ 1000000000)
 (own : w.ownsRow 0 5 1 (.slice va len vc) len (bs.map bcell)) (hl : nb.length = lb) (hb : ∀ j u, nb[j]? = some u → w.cell? (ad.add j) = some (bcell u)) (had : 0 < lb) (hfit : len + lb ≤ sz)
 (hvM : (Value.slice va len vc).ownBlock ≠ some Mi) (hvD : (Value.slice va len vc).ownBlock ≠ some D) (hbD : ad.block ≠ D) :
 Calls Tryz.prog 107 #[.pointer (some ⟨D, 0, none⟩), .int .i64 ((i : Nat) : Int), .slice (some ad) lb cb] w (AppendedDev w D Mi ops (.slice va len vc) (len + lb) (bs.map bcell ++ nb.map bcell)) := by
 obtain ⟨n', hn'⟩ : ∃ n' : Nat, 0 = n' := ⟨_, rfl⟩
 have h0 := Lib.hid h
 obtain ⟨d0, d1, d2, d3, d4, k0, t0, t1, s0, m0, m1, m2, fD, fM, hD, hK, hS, hT, hM, b0, p0, p1, p2, p3, p4, p5, p6, p7, DK, DS, DT, DM, KM, SM, TM⟩ := h
 have kD : ∀ k, D < w.heap.size + k := fun k => by omega
 have kK : ∀ k, K < w.heap.size + k := fun k => by omega
 have kS : ∀ k, S < w.heap.size + k := fun k => by omega
 have kT : ∀ k, T < w.heap.size + k := fun k => by omega
 have kM : ∀ k, Mi < w.heap.size + k := fun k => by omega
 have q1 : ¬ (sz : Int) - (len : Int) < (lb : Int) := by omega
 have H := Lib.hid hb
 have HL := Lib.hid hl
 have HO := Lib.hid own
 clear hb hl own hn' n'
 go_enter Tryz.func107, Tryz.ntmps107
 go_wp2
 generalize hW : World.alloc (World.alloc (World.alloc w _) _) _ = W
 have cA : W.cell? ⟨w.heap.size, 0, none⟩ = some (.pointer (some ⟨D, 0, none⟩)) := by subst hW; go_simp
 have cB : W.cell? ⟨w.heap.size + 1, 0, none⟩ = some (.int .i64 ((i : Nat) : Int)) := by subst hW; go_simp
 have cC : W.cell? ⟨w.heap.size + 1 + 1, 0, none⟩ = some (.slice (some ad) lb cb) := by subst hW; go_simp
 have hz : W.heap.size = w.heap.size + 3 := by subst hW; simp
 have O : Old w W := by subst hW; exact (((Upd.refl _ _).alloc _).alloc _).alloc _
 clear hW kD kK kS kT kM d0 d1 d2 d3 d4 k0 t0 t1 s0 m0 m1 m2 fD fM hD hK hS hT hM
 obtain ⟨d0, d1, d2, d3, d4, k0, t0, t1, s0, m0, m1, m2, fD, fM, hD, hK, hS, hT, hM, -, -, -, -, -, -, -, -, -, -, -, -, -, -, -, -⟩ := h0.out.old O
 have H' := Lib.hid (fun j u hj => Old.cellOf' O (H.out j u hj))
 have HO' := Lib.hid (O.own HO.out (fun _ _ h => h))
 obtain ⟨A, hA⟩ : ∃ A, w.heap.size = A := ⟨_, rfl⟩
 rw [hA] at cA cB cC
 have hA1 : A + 1 + 1 < W.heap.size := by omega
 have HA := Lib.hid hA
 have O' := Lib.hid O
 have HZ := Lib.hid hz
 rw [hA]
 clear hA O hz
 have lA : A < W.heap.size := by omega
 have lB : A + 1 < W.heap.size := by omega
 have kD : ∀ k, D < W.heap.size + k := fun k => by omega
 have kK : ∀ k, K < W.heap.size + k := fun k => by omega
 have kS : ∀ k, S < W.heap.size + k := fun k => by omega
 have kT : ∀ k, T < W.heap.size + k := fun k => by omega
 have kM : ∀ k, Mi < W.heap.size + k := fun k => by omega
 have kA : ∀ k, A < W.heap.size + k := fun k => by omega
 have kB : ∀ k, A + 1 < W.heap.size + k := fun k => by omega
 have kC : ∀ k, A + 1 + 1 < W.heap.size + k := fun k => by omega
 have hC : DevCells W D K S T Mi n i len sz dur cap ops false va vc := ⟨d0, d1, d2, d3, d4, k0, t0, t1, s0, m0, m1, m2, fD, fM, hD, hK, hS, hT, hM, b0, p0, p1, p2, p3, p4, p5, p6, p7, DK, DS, DT, DM, KM, SM, TM⟩
 have HC := Lib.hid hC
 clear hC
 go_region_held3 (fun x => x.cell? ⟨A, 0, none⟩ = some (.pointer (some ⟨D, 0, none⟩)) ∧ x.cell? ⟨A + 1, 0, none⟩ = some (.int .i64 ((i : Nat) : Int)) ∧ x.cell? ⟨D, 0, none⟩ = some (.pointer (some ⟨K, 0, none⟩)))
  (first | go_keep | (exact ⟨Old.cellOf' hO cA, Old.cellOf' hO cB, Old.cellOf' hO d0⟩))
  (first | (go_at_call 182; refine (droom_walk (HC.out.old ((Upd.refl _ W).drew))).mono ?_; rintro e w1 ⟨rfl, hO⟩))
 have O1 := ((Upd.refl (fun _ => False) W).drew).trans hO
 have HC1 := Lib.hid (HC.out.old O1)
 have cA1 := Old.cellOf' O1 cA
 have cB1 := Old.cellOf' O1 cB
 have cC1 := Old.cellOf' O1 cC
 have H1 := Lib.hid (fun j u hj => Old.cellOf' O1 (H'.out j u hj))
 have HO1 := Lib.hid (O1.own HO'.out (fun _ _ h => h))
 have hz1 := Lib.hid O1.size
 have lA1 : A + 1 + 1 < w1.heap.size := by have := O1.size; omega
 have O2 := Lib.hid (O'.out.trans O1)
 clear cA cB cC d0 d1 d2 d3 d4 k0 t0 t1 s0 m0 m1 m2 fD fM hD hK hS hT hM H' HO' H HO kD kK kS kT kM kA kB kC HC hO O1 O' lA lB hA1 HZ
 obtain ⟨d0, d1, d2, d3, d4, k0, t0, t1, s0, m0, m1, m2, fD, fM, hD, hK, hS, hT, hM, -, -, -, -, -, -, -, -, -, -, -, -, -, -, -, -⟩ := HC1.out
 have lA : A < w1.heap.size := by omega
 have lB : A + 1 < w1.heap.size := by omega
 have kD : ∀ k, D < w1.heap.size + k := fun k => by omega
 have kK : ∀ k, K < w1.heap.size + k := fun k => by omega
 have kS : ∀ k, S < w1.heap.size + k := fun k => by omega
 have kT : ∀ k, T < w1.heap.size + k := fun k => by omega
 have kM : ∀ k, Mi < w1.heap.size + k := fun k => by omega
 have kA : ∀ k, A < w1.heap.size + k := fun k => by omega
 have kB : ∀ k, A + 1 < w1.heap.size + k := fun k => by omega
 have kC : ∀ k, A + 1 + 1 < w1.heap.size + k := fun k => by omega
 have HA2 := HA.out
 have hDw := h0.out.hD
 have nA : A ≠ D := by omega
 have nB : A + 1 ≠ D := by omega
 have nC : A + 1 + 1 ≠ D := by omega
 have H2 : ∀ j u, nb[j]? = some u → (((w1.setCell ⟨D, 3, none⟩ (.int .i64 (ops + 1))).alloc (.cells #[.int .i64 0, .bool false, .slice none 0 0] 50)).alloc (.cells #[.int .i64 0, .bool false, .slice none 0 0] 50)).cell? (ad.add j) = some (bcell u) := by
  intro j u hj
  have h1 := H1.out j u hj
  have hb : (ad.add j).block < w1.heap.size := World.block_lt_of_cell? _ _ h1
  have hbl : (ad.add j).block = ad.block := by unfold Addr.add; split <;> rfl
  rw [World.cell?_alloc_lt _ _ _ (by simp; omega), World.cell?_alloc_lt _ _ _ (by simp; omega), World.cell?_setCell_other _ _ _ _ (fun e => hbD (by rw [← hbl, ← e]))]
  exact h1
 have HO3 : (((w1.setCell ⟨D, 3, none⟩ (.int .i64 (ops + 1))).alloc (.cells #[.int .i64 0, .bool false, .slice none 0 0] 50)).alloc (.cells #[.int .i64 0, .bool false, .slice none 0 0] 50)).ownsRow 0 5 1 (.slice va len vc) len (bs.map bcell) :=
  ((ownsRow_setCell_other HO1.out (a := ⟨D, 3, none⟩) hvD _).alloc _).alloc _
 have H3 := Lib.hid H2
 have HO4 := Lib.hid HO3
 clear H2 HO3 HA2 hDw
 go_wp2_with (first | (go_at_call 194; refine (plan_none (by go_simp)).mono ?_; rintro e w2 ⟨rfl, rfl⟩) | (go_at_call 185; refine (append1 (v := .slice va len vc) (len := len) (sz := sz) (bs := bs) (nb := nb) (D := D) (K := K) (S := S) (Mi := Mi) (n := n) (i := i) (cap := cap) (lb := lb) (cb := cb) (ad := ad) (by go_simp) (by go_simp) (by go_simp) (by go_simp) (by go_simp) (by go_simp) (by go_simp) (by go_simp) (by intro j; go_simp) HO4.out HL.out H3.out p1 p2 p3 p4 p6 hfit hvM b0).mono ?_; rintro e w3 ⟨rfl, v', w2, hU, hown, hfr, rfl⟩) | go_in)
 go_ret
 have hDw := h0.out.hD
 have hMw := h0.out.hM
 have hsz := O2.out.size
 have O3 := O2.out
 have nM : v'.ownBlock ≠ some Mi := by
  intro h
  rcases hfr Mi h with h1 | h1
  ·exact hvM h1
  ·simp at h1; omega
 have U4 := (((((O3.mono (G := fun b => b = D ∨ b = Mi ∨ (Value.slice va len vc).ownBlock = some b) (fun _ _ h => h.elim)).setCell ⟨D, 3, none⟩ (.int .i64 (ops + 1)) (.inl (.inl rfl))).alloc _).alloc _).trans (hU.mono (fun b _ h => .inr (.inr h)))).setCell ⟨Mi, 0, none⟩ v' (.inl (.inr (.inl rfl)))
 refine ⟨rfl, v', U4, ownsRow_setCell_other hown nM _, ?_, ?_, ?_⟩
 ·intro k hk
  exact (hfr k hk).imp id (fun h => by simp at h; omega)
 ·intro t c hc
  exact (hU.has ((((Old.has O3 hc).set 3 (.int .i64 (ops + 1))).alloc _).alloc _) hvD).setOther (a := ⟨Mi, 0, none⟩) (Ne.symm DM) _
 ·intro t c hc
  exact (hU.has ((((Old.has O3 hc).setOther (a := ⟨D, 3, none⟩) DM (.int .i64 (ops + 1))).alloc _).alloc _) hvM).set 0 v'
theorem dev_append (h : DevAt w col q D s K S cap T M V) (hup : s.down = false) (i : Nat) (hi : i < s.n + 2) (ho : s.ops < 1000000000)
 {nb : List UInt8} {lb cb : Nat} {ad : Addr} (hl : nb.length = lb) (hb : ∀ j u, nb[j]? = some u → w.cell? (ad.add j) = some (bcell u)) (had : 0 < lb) (hfit : (s.img i).bs.length + lb ≤ (s.img i).sz) (hbD : (col ad.block).1 ≠ q) :
 Calls Tryz.prog 107 #[.pointer (some ⟨D, 0, none⟩), .int .i64 ((i : Nat) : Int), .slice (some ad) lb cb] w fun e w' => e = .returned (.int .i64 0) ∧
  ∃ v col', DevAt w' col' q D (s.put i { s.img i with bs := (s.img i).bs ++ nb }) K S cap T M (fun k => if k = i then v else V k) ∧ Upd (fun b => (col b).1 = q) w w' ∧ Kept w col col' ∧ (∀ b, w.heap.size ≤ b → col' b = col b ∨ (col' b).1 = q) := by
 obtain ⟨va, vc, hv, c⟩ := h.cells i hi
 rw [hup] at c
 obtain ⟨⟨tm, m⟩, own, f1, f2, p1, p2⟩ := h.fm i hi
 have hcv := h.cV i hi
 have hvM : (V i).ownBlock ≠ some (M i) := fun e => by
  have := hcv _ e; rw [h.cM i hi] at this; simp at this
 have hvD : (V i).ownBlock ≠ some D := fun e => by
  have := hcv _ e; rw [h.cD] at this; simp at this; omega
 rw [hv] at own hvM hvD
 refine (append_cells c h.ops0 h.ops1 own hl hb had hfit hvM hvD (fun e => hbD (by rw [e, h.cD]))).mono ?_
 rintro e w' ⟨rfl, v', U, hown, hfr, hD, hM⟩
 refine ⟨rfl, v', (match v'.ownBlock with | some b => if w.heap.size ≤ b then paint col b (q, 5 + 2 * i) else col | none => col), ?_, U.mono ?_, ?_, ?_⟩
 ·obtain ⟨td, d⟩ := h.fd
  have hsz := U.size
  refine h.upd (m := { s.img i with bs := (s.img i).bs ++ nb }) (v := v') (ops := s.ops + 1) hi U (by rw [hv]; exact fun b hb => hb) ⟨td, by simpa using hD td _ d⟩ ⟨⟨tm, by simpa using hM tm _ m⟩, ?_, ?_, ?_, p1, p2⟩ ?_ ?_ (by have := h.ops0; omega) (by omega)
  ·simpa [hl] using hown
  ·simp [hl]; exact hfit
  ·simp; omega
  ·cases hvb : v'.ownBlock with
   | none => exact Kept.refl _ _
   | some b =>
    simp only
    split
    ·exact (Kept.refl w col).paint (by assumption) _
    ·exact Kept.refl _ _
  ·intro b hb
   rw [hb]
   simp only
   rcases hfr b hb with h1 | h1
   ·have h2 : b < w.heap.size := (own.lt b h1).2
    rw [if_neg (by omega)]
    exact hcv b (by rw [hv]; exact h1)
   ·rw [if_pos h1, paint_same]
 ·intro b _ hb
  rcases hb with rfl | rfl | h1
  ·rw [h.cD]
  ·rw [h.cM i hi]
  ·rw [hcv b (by rw [hv]; exact h1)]
 ·cases hvb : v'.ownBlock with
  | none => exact Kept.refl _ _
  | some b =>
   simp only
   split
   ·exact (Kept.refl w col).paint (by assumption) _
   ·exact Kept.refl _ _
 ·intro b hb
  cases hvb : v'.ownBlock with
  | none => exact .inl rfl
  | some b2 =>
   simp only
   split
   ·by_cases e : b = b2
    ·subst e; rw [paint_same]; exact .inr rfl
    ·rw [paint_other _ _ e]; exact .inl rfl
   ·exact .inl rfl
end
end Go.M
namespace Go.M
def crcStep (x : Nat) : Nat := if x % 2 = 1 then (x / 2) ^^^ 3988292384 else x / 2
def crcByte (x b : Nat) : Nat := crcStep (crcStep (crcStep (crcStep (crcStep (crcStep (crcStep (crcStep (x ^^^ b))))))))
def crcG (l : List Nat) : Nat := (l.foldl crcByte 4294967295) ^^^ 4294967295
def step8 (x : Nat) : Nat := crcStep (crcStep (crcStep (crcStep (crcStep (crcStep (crcStep (crcStep x)))))))
theorem xor_div2 (a b : Nat) : (a ^^^ b) / 2 = (a / 2) ^^^ (b / 2) := by
 apply Nat.eq_of_testBit_eq
 intro i
 simp [Nat.testBit_div_two, Nat.testBit_xor]
theorem xor_mod2 (a b : Nat) : (a ^^^ b) % 2 = (a % 2 + b % 2) % 2 := by
 have h := Nat.testBit_xor a b 0
 simp only [Nat.testBit_zero] at h
 have ha := Nat.mod_two_eq_zero_or_one a
 have hb := Nat.mod_two_eq_zero_or_one b
 have hc := Nat.mod_two_eq_zero_or_one (a ^^^ b)
 rcases ha with ha | ha <;> rcases hb with hb | hb <;> rcases hc with hc | hc <;> simp [ha, hb, hc] at h ⊢
theorem crcStep_xor (a b : Nat) : crcStep (a ^^^ b) = crcStep a ^^^ crcStep b := by
 unfold crcStep
 rw [xor_mod2, xor_div2]
 have ha := Nat.mod_two_eq_zero_or_one a
 have hb := Nat.mod_two_eq_zero_or_one b
 rcases ha with ha | ha <;> rcases hb with hb | hb <;> simp only [ha, hb] <;> simp
 ·rw [Nat.xor_assoc]
 ·rw [Nat.xor_assoc, Nat.xor_comm (b / 2), Nat.xor_assoc]
 ·rw [Nat.xor_assoc, Nat.xor_comm 3988292384 (b / 2 ^^^ _), Nat.xor_assoc, Nat.xor_self, Nat.xor_zero]
theorem step8_xor (a b : Nat) : step8 (a ^^^ b) = step8 a ^^^ step8 b := by
 unfold step8
 simp only [crcStep_xor]
theorem crcStep_even (h : Nat) : crcStep (2 * h) = h := by
 unfold crcStep
 rw [if_neg (by omega)]
 omega
theorem step8_high (h : Nat) : step8 (256 * h) = h := by
 unfold step8
 rw [show 256 * h = 2 * (128 * h) by omega, crcStep_even, show 128 * h = 2 * (64 * h) by omega, crcStep_even, show 64 * h = 2 * (32 * h) by omega, crcStep_even, show 32 * h = 2 * (16 * h) by omega, crcStep_even, show 16 * h = 2 * (8 * h) by omega, crcStep_even, show 8 * h = 2 * (4 * h) by omega, crcStep_even, show 4 * h = 2 * (2 * h) by omega, crcStep_even, crcStep_even]
theorem split256 (z : Nat) : z = (z % 256) ^^^ (256 * (z / 256)) := by
 apply Nat.eq_of_testBit_eq
 intro i
 rw [Nat.testBit_xor, show (256 : Nat) = 2 ^ 8 by decide, Nat.testBit_mod_two_pow, Nat.testBit_two_pow_mul, Nat.testBit_div_two_pow]
 by_cases hi : i < 8
 ·simp [hi, show ¬ 8 ≤ i by omega]
 ·simp [hi, show 8 ≤ i by omega, Nat.sub_add_cancel (show 8 ≤ i by omega)]
theorem crcByte_table (x b : Nat) (hb : b < 256) : crcByte x b = step8 ((x % 256) ^^^ b) ^^^ (x / 256) := by
 have h1 : crcByte x b = step8 (x ^^^ b) := rfl
 have h2 : (x ^^^ b) / 256 = x / 256 := by
  apply Nat.eq_of_testBit_eq
  intro i
  rw [show (256 : Nat) = 2 ^ 8 by decide, Nat.testBit_div_two_pow, Nat.testBit_xor, Nat.testBit_div_two_pow]
  have : b.testBit (i + 8) = false := Nat.testBit_lt_two_pow (Nat.lt_of_lt_of_le hb (by rw [show (256 : Nat) = 2 ^ 8 by decide]; exact Nat.pow_le_pow_right (by decide) (by omega)))
  rw [this, Bool.xor_false]
 have h3 : (x ^^^ b) % 256 = (x % 256) ^^^ b := by
  apply Nat.eq_of_testBit_eq
  intro i
  rw [show (256 : Nat) = 2 ^ 8 by decide, Nat.testBit_mod_two_pow, Nat.testBit_xor, Nat.testBit_xor, Nat.testBit_mod_two_pow]
  by_cases hi : i < 8
  ·simp [hi]
  ·have : b.testBit i = false := Nat.testBit_lt_two_pow (Nat.lt_of_lt_of_le hb (by rw [show (256 : Nat) = 2 ^ 8 by decide]; exact Nat.pow_le_pow_right (by decide) (by omega)))
   simp [hi, this]
 rw [h1, split256 (x ^^^ b), step8_xor, step8_high, h2, h3]
theorem crcStep_lt {x : Nat} (h : x < 4294967296) : crcStep x < 4294967296 := by
 unfold crcStep
 split
 ·exact Nat.xor_lt_two_pow (n := 32) (by omega) (by decide)
 ·omega
theorem step8_lt {x : Nat} (h : x < 4294967296) : step8 x < 4294967296 := crcStep_lt (crcStep_lt (crcStep_lt (crcStep_lt (crcStep_lt (crcStep_lt (crcStep_lt (crcStep_lt h)))))))
theorem crcByte_lt {x b : Nat} (h : x < 4294967296) (hb : b < 256) : crcByte x b < 4294967296 := step8_lt (Nat.xor_lt_two_pow (n := 32) h (by omega))
theorem crcFold_lt : ∀ (l : List Nat) (x : Nat), x < 4294967296 → (∀ b ∈ l, b < 256) → l.foldl crcByte x < 4294967296
 | [], _, h, _ => h
 | b :: l, _, h, hl => crcFold_lt l _ (crcByte_lt h (hl b (List.mem_cons_self ..))) (fun c hc => hl c (List.mem_cons_of_mem _ hc))
theorem crcG_lt (l : List Nat) (h : ∀ b ∈ l, b < 256) : crcG l < 4294967296 := Nat.xor_lt_two_pow (n := 32) (crcFold_lt l _ (by decide) h) (by decide)
theorem fold_take (l : List Nat) (x k : Nat) (hk : k < l.length) : (l.take (k + 1)).foldl crcByte x = crcByte ((l.take k).foldl crcByte x) (l.getD k 0) := by
 rw [List.take_add_one, List.foldl_append]
 simp [List.getD, List.getElem?_eq_getElem hk]
end Go.M
namespace Go.M
open Go.Proofs Go.RowKit
structure Kpt (w w' : World) : Prop where
 heap : ∀ b, b < w.heap.size → w'.heap[b]? = w.heap[b]?
 os : w'.os = w.os
 out : w'.output = w.output
theorem Kpt.cell {w w' : World} (h : Kpt w w') {a : Addr} {v : Value} (hc : w.cell? a = some v) : w'.cell? a = some v := by
 have hl := World.block_lt_of_cell? w a hc
 unfold World.cell? at *
 rw [h.heap a.block hl]
 exact hc
theorem Upd.kpt {w w1 w2 : World} (h : Old w w1) (k : Kpt w1 w2) : Kpt w w2 :=
 ⟨fun b hb => (k.heap b (Nat.lt_of_lt_of_le hb h.size)).trans (h.keep b hb (fun x => x)), k.os.trans h.os, k.out.trans h.out⟩
theorem Kpt.kept {w w' : World} (h : Kpt w w') (may : MemPlace → Prop) : w.keptBut w' may := by
 refine ⟨h.os, h.out, fun i hi => ?_⟩
 rw [h.heap i hi]
 cases w.heap[i]? with
 | none => rfl
 | some o => cases o <;> simp
theorem Kpt.of {w w' : World} (h : ∀ B, B < w.heap.size → w'.heap[B]? = w.heap[B]?) (k : ∀ may, w.keptBut w' may) : Kpt w w' := ⟨h, (k fun _ => False).1, (k fun _ => False).2.1⟩
end Go.M
