/- Walks 1. -/
import Derived.WalkKit
import Derived.Lib.Hide
import Derived.Laws.Tables
import Derived.Laws.Rows
import Derived.KernelRfl
import Derived.Deep.QuietTactic
import Derived.BigQuiet
import Derived.StillTailTactics
import Derived.Deep.RegionHeld3
import Derived.WalkSpells
import Derived.WalkLawsBesides
import Derived.Outline
set_option linter.unusedVariables false
set_option linter.unusedSimpArgs false
set_option maxRecDepth 100000
namespace Go.M
open Go Go.RowKit
def Has (w : World) (b : Nat) (t : TypeId) (c : Array Value) : Prop := w.heap[b]? = some (.cells c t (0, 0))
theorem Has.lt {w : World} {b : Nat} {t : TypeId} {c : Array Value} (h : Has w b t c) : b < w.heap.size := by
 unfold Has at h;rcases Nat.lt_or_ge b w.heap.size with h' | h'
 ·exact h'
 ·simp [Array.getElem?_eq_none h'] at h
theorem Has.cell {w : World} {b : Nat} {t : TypeId} {c : Array Value} (h : Has w b t c) (i : Nat) : w.cell? ⟨b, i, none⟩ = c[i]? := by
 unfold Has at h;simp [World.cell?, h]
theorem Has.frozen {w : World} {b : Nat} {t : TypeId} {c : Array Value} (h : Has w b t c) (i : Nat) : w.frozen? ⟨b, i, none⟩ = false := by
 unfold Has at h;simp [World.frozen?, h]
theorem Has.set {w : World} {b : Nat} {t : TypeId} {c : Array Value} (h : Has w b t c) (i : Nat) (v : Value) : Has (w.setCell ⟨b, i, none⟩ v) b t (c.setIfInBounds i v) := by
 unfold Has at *
 simp [World.setCell, Array.getElem?_modify, h]
theorem Has.setOther {w : World} {b : Nat} {t : TypeId} {c : Array Value} (h : Has w b t c) {a : Addr} (ha : a.block ≠ b) (v : Value) : Has (w.setCell a v) b t c := by
 unfold Has at *
 simp [World.setCell, Array.getElem?_modify, h, ha]
theorem Has.alloc {w : World} {b : Nat} {t : TypeId} {c : Array Value} (h : Has w b t c) (o : Obj) : Has (w.alloc o) b t c := by
 have hl := h.lt;unfold Has at *
 rw [Go.heap_alloc_old _ _ hl]; exact h
theorem Has.new (w : World) (t : TypeId) (c : Array Value) : Has (w.alloc (.cells c t)) w.heap.size t c := by
 unfold Has;exact heap_alloc_new _ _
theorem Has.drew {w : World} {b : Nat} {t : TypeId} {c : Array Value} (h : Has w b t c) : Has w.drew b t c := h
structure Upd (F : Nat → Prop) (w w' : World) : Prop where
 size : w.heap.size ≤ w'.heap.size
 keep : ∀ b, b < w.heap.size → ¬ F b → w'.heap[b]? = w.heap[b]?
 tape : w'.tape = w.tape
 os : w'.os = w.os
 out : w'.output = w.output
theorem Upd.refl (F : Nat → Prop) (w : World) : Upd F w w := ⟨Nat.le_refl _, fun _ _ _ => rfl, rfl, rfl, rfl⟩
theorem Upd.trans {F : Nat → Prop} {w w1 w2 : World} (h : Upd F w w1) (h2 : Upd F w1 w2) : Upd F w w2 :=
 ⟨Nat.le_trans h.size h2.size, fun b hb hf => (h2.keep b (Nat.lt_of_lt_of_le hb h.size) hf).trans (h.keep b hb hf), h2.tape.trans h.tape, h2.os.trans h.os, h2.out.trans h.out⟩
theorem Upd.after {F G : Nat → Prop} {w w1 w2 : World} (h : Upd F w w1) (h2 : Upd G w1 w2) (hs : ∀ b, b < w.heap.size → G b → F b) : Upd F w w2 :=
 ⟨Nat.le_trans h.size h2.size, fun b hb hf => (h2.keep b (Nat.lt_of_lt_of_le hb h.size) (fun hg => hf (hs b hb hg))).trans (h.keep b hb hf), h2.tape.trans h.tape, h2.os.trans h.os, h2.out.trans h.out⟩
theorem Upd.mono {F G : Nat → Prop} {w w' : World} (h : Upd F w w') (hs : ∀ b, b < w.heap.size → F b → G b) : Upd G w w' :=
 ⟨h.size, fun b hb hf => h.keep b hb (fun hF => hf (hs b hb hF)), h.tape, h.os, h.out⟩
theorem Upd.has {F : Nat → Prop} {w w' : World} (h : Upd F w w') {b : Nat} {t : TypeId} {c : Array Value} (hh : Has w b t c) (hf : ¬ F b) : Has w' b t c := by
 have := h.keep b hh.lt hf;unfold Has at *
 rw [this, hh]
theorem Upd.setCell {F : Nat → Prop} {w w' : World} (h : Upd F w w') (a : Addr) (v : Value) (ha : F a.block ∨ w.heap.size ≤ a.block) : Upd F w (w'.setCell a v) := by
 refine ⟨by simpa using h.size, ?_, h.tape, h.os, h.out⟩
 intro b hb hf;have hne : a.block ≠ b := by
  rintro rfl;rcases ha with ha | ha
  ·exact hf ha
  ·omega
 rw [← h.keep b hb hf];simp [World.setCell, Array.getElem?_modify, hne]
theorem Upd.alloc {F : Nat → Prop} {w w' : World} (h : Upd F w w') (o : Obj) : Upd F w (w'.alloc o) := by
 refine ⟨by have := h.size; simp; omega, ?_, h.tape, h.os, h.out⟩
 intro b hb hf;rw [← h.keep b hb hf, Go.heap_alloc_old _ _ (Nat.lt_of_lt_of_le hb h.size)]
theorem Upd.drew {F : Nat → Prop} {w w' : World} (h : Upd F w w') : Upd F w w'.drew := ⟨h.size, h.keep, h.tape, h.os, h.out⟩
theorem Upd.drewN {F : Nat → Prop} {w w' : World} (h : Upd F w w') (n : Nat) : Upd F w (w'.drewN n) := ⟨h.size, h.keep, h.tape, h.os, h.out⟩
theorem Upd.cell {F : Nat → Prop} {w w' : World} (h : Upd F w w') {a : Addr} (hb : a.block < w.heap.size) (hf : ¬ F a.block) : w'.cell? a = w.cell? a := by
 simp only [World.cell?, h.keep a.block hb hf]
theorem Upd.cellOf {F : Nat → Prop} {w w' : World} (h : Upd F w w') {b i : Nat} {v : Value} (hc : w.cell? ⟨b, i, none⟩ = some v) (hf : ¬ F b) : w'.cell? ⟨b, i, none⟩ = some v := by
 have hb := block_lt_of_cell hc;rw [h.cell hb hf, hc]
theorem Old.cellOf' {w w' : World} (h : Upd (fun _ => False) w w') {a : Addr} {v : Value} (hc : w.cell? a = some v) : w'.cell? a = some v := by
 rw [h.cell (World.block_lt_of_cell? w a hc) (fun x => x), hc]
theorem Upd.own {F : Nat → Prop} {w w' : World} (h : Upd F w w') {base e size n : Nat} {v : Value} {xs : List Value} (ho : w.ownsRow base e size v n xs) (hf : ∀ b, v.ownBlock = some b → ¬ F b) : w'.ownsRow base e size v n xs := by
 refine ⟨ho.1, ?_⟩;rcases ho.2 with h1 | ⟨g, cap, cur, h1, h2, h3, h4⟩
 ·exact .inl h1
 ·refine .inr ⟨g, cap, cur, h1, h2, ?_, h4⟩;subst h1;have hb : g < w.heap.size := Has.lt (t := e) (c := cur) h3;rw [h.keep g hb (hf g rfl), h3]
abbrev Old (w w' : World) : Prop := Upd (fun _ => False) w w'
theorem Old.has {w w' : World} (h : Old w w') {b : Nat} {t : TypeId} {c : Array Value} (hh : Has w b t c) : Has w' b t c := Upd.has h hh (fun x => x)
theorem Old.frz {w w' : World} (h : Old w w') {b j : Nat} {x : Bool} (hb : b < w.heap.size) (hf : w.frozen? ⟨b, j, none⟩ = x) : w'.frozen? ⟨b, j, none⟩ = x := by
 rw [World.frozen?_of_block (h.keep b hb (fun x => x)), hf]
end Go.M
namespace Go.M
def Zan (x : Nat) : Nat := if x % 2 = 1 then (x / 2) ^^^ 3988292384 else x / 2
def ZaX (x b : Nat) : Nat := Zan (Zan (Zan (Zan (Zan (Zan (Zan (Zan (x ^^^ b))))))))
def Zri (l : List Nat) : Nat := (l.foldl ZaX 4294967295) ^^^ 4294967295
def Zcl (x : Nat) : Nat := Zan (Zan (Zan (Zan (Zan (Zan (Zan (Zan x)))))))
theorem Znf (a b : Nat) : (a ^^^ b) / 2 = (a / 2) ^^^ (b / 2) := by
 apply Nat.eq_of_testBit_eq;intro i;simp [Nat.testBit_div_two, Nat.testBit_xor]
theorem Zng (a b : Nat) : (a ^^^ b) % 2 = (a % 2 + b % 2) % 2 := by
 have h := Nat.testBit_xor a b 0;simp only [Nat.testBit_zero] at h;have ha := Nat.mod_two_eq_zero_or_one a;have hb := Nat.mod_two_eq_zero_or_one b;have hc := Nat.mod_two_eq_zero_or_one (a ^^^ b);rcases ha with ha | ha <;> rcases hb with hb | hb <;> rcases hc with hc | hc <;> simp [ha, hb, hc] at h ⊢
theorem Zii (a b : Nat) : Zan (a ^^^ b) = Zan a ^^^ Zan b := by
 unfold Zan;rw [Zng, Znf];have ha := Nat.mod_two_eq_zero_or_one a;have hb := Nat.mod_two_eq_zero_or_one b;rcases ha with ha | ha <;> rcases hb with hb | hb <;> simp only [ha, hb] <;> simp
 ·rw [Nat.xor_assoc]
 ·rw [Nat.xor_assoc, Nat.xor_comm (b / 2), Nat.xor_assoc]
 ·rw [Nat.xor_assoc, Nat.xor_comm 3988292384 (b / 2 ^^^ _), Nat.xor_assoc, Nat.xor_self, Nat.xor_zero]
theorem ZlP (a b : Nat) : Zcl (a ^^^ b) = Zcl a ^^^ Zcl b := by
 unfold Zcl;simp only [Zii]
theorem ZaH (h : Nat) : Zan (2 * h) = h := by
 unfold Zan;rw [if_neg (by omega)]
 omega
theorem Zkf (h : Nat) : Zcl (256 * h) = h := by
 unfold Zcl;rw [show 256 * h = 2 * (128 * h) by omega, ZaH, show 128 * h = 2 * (64 * h) by omega, ZaH, show 64 * h = 2 * (32 * h) by omega, ZaH, show 32 * h = 2 * (16 * h) by omega, ZaH, show 16 * h = 2 * (8 * h) by omega, ZaH, show 8 * h = 2 * (4 * h) by omega, ZaH, show 4 * h = 2 * (2 * h) by omega, ZaH, ZaH]
theorem Znh (z : Nat) : z = (z % 256) ^^^ (256 * (z / 256)) := by
 apply Nat.eq_of_testBit_eq;intro i;rw [Nat.testBit_xor, show (256 : Nat) = 2 ^ 8 by decide, Nat.testBit_mod_two_pow, Nat.testBit_two_pow_mul, Nat.testBit_div_two_pow]
 by_cases hi : i < 8
 ·simp [hi, show ¬ 8 ≤ i by omega]
 ·simp [hi, show 8 ≤ i by omega, Nat.sub_add_cancel (show 8 ≤ i by omega)]
theorem Zgi (x b : Nat) (hb : b < 256) : ZaX x b = Zcl ((x % 256) ^^^ b) ^^^ (x / 256) := by
 have h1 : ZaX x b = Zcl (x ^^^ b) := rfl;have h2 : (x ^^^ b) / 256 = x / 256 := by
  apply Nat.eq_of_testBit_eq;intro i;rw [show (256 : Nat) = 2 ^ 8 by decide, Nat.testBit_div_two_pow, Nat.testBit_xor, Nat.testBit_div_two_pow]
  have : b.testBit (i + 8) = false := Nat.testBit_lt_two_pow (Nat.lt_of_lt_of_le hb (by rw [show (256 : Nat) = 2 ^ 8 by decide]; exact Nat.pow_le_pow_right (by decide) (by omega)))
  rw [this, Bool.xor_false]
 have h3 : (x ^^^ b) % 256 = (x % 256) ^^^ b := by
  apply Nat.eq_of_testBit_eq;intro i;rw [show (256 : Nat) = 2 ^ 8 by decide, Nat.testBit_mod_two_pow, Nat.testBit_xor, Nat.testBit_xor, Nat.testBit_mod_two_pow]
  by_cases hi : i < 8
  ·simp [hi]
  ·have : b.testBit i = false := Nat.testBit_lt_two_pow (Nat.lt_of_lt_of_le hb (by rw [show (256 : Nat) = 2 ^ 8 by decide]; exact Nat.pow_le_pow_right (by decide) (by omega)))
   simp [hi, this]
 rw [h1, Znh (x ^^^ b), ZlP, Zkf, h2, h3]
theorem ZaP {x : Nat} (h : x < 4294967296) : Zan x < 4294967296 := by
 unfold Zan
 split
 ·exact Nat.xor_lt_two_pow (n := 32) (by omega) (by decide)
 ·omega
theorem Zjn {x : Nat} (h : x < 4294967296) : Zcl x < 4294967296 := ZaP (ZaP (ZaP (ZaP (ZaP (ZaP (ZaP (ZaP h)))))))
theorem Zkg {x b : Nat} (h : x < 4294967296) (hb : b < 256) : ZaX x b < 4294967296 := Zjn (Nat.xor_lt_two_pow (n := 32) h (by omega))
theorem ZdJ : ∀ (l : List Nat) (x : Nat), x < 4294967296 → (∀ b ∈ l, b < 256) → l.foldl ZaX x < 4294967296
 | [], _, h, _ => h
 | b :: l, _, h, hl => ZdJ l _ (Zkg h (hl b (List.mem_cons_self ..))) (fun c hc => hl c (List.mem_cons_of_mem _ hc))
theorem Zo8 (l : List Nat) (h : ∀ b ∈ l, b < 256) : Zri l < 4294967296 := Nat.xor_lt_two_pow (n := 32) (ZdJ l _ (by decide) h) (by decide)
theorem ZlQ (l : List Nat) (x k : Nat) (hk : k < l.length) : (l.take (k + 1)).foldl ZaX x = ZaX ((l.take k).foldl ZaX x) (l.getD k 0) := by
 rw [List.take_add_one, List.foldl_append];simp [List.getD, List.getElem?_eq_getElem hk]
end Go.M
namespace Go.M
open Go Go.RowKit
def Zav (b : UInt8) : Value := .int .u8 ((b.toNat : Nat) : Int)
theorem Upd.grown {F : Nat → Prop} {w w1 w2 : World} {row : Option Nat} (h : Upd F w w1) (hg : w1.grownBy w2 row) (hr : ∀ k, row = some k → F k ∨ w.heap.size ≤ k) : Upd F w w2 := by
 refine ⟨Nat.le_trans h.size hg.size, ?_, hg.tape.trans h.tape, hg.os.trans h.os, hg.output.trans h.out⟩;intro b hb hf;rw [hg.block b (Nat.lt_of_lt_of_le hb h.size) ?_, h.keep b hb hf];intro e;rcases hr b e.symm with h1 | h1
 ·exact hf h1
 ·omega
theorem Zac {w : World} {e : TypeId} {base size n : Nat} {v : Value} {xs : List Value} (own : w.ownsRow base e size v n xs) : ∃ a c, v = .slice a n c := by
 rcases own.2 with ⟨h1, h2⟩ | ⟨g, c, cur, h1, _⟩
 ·exact ⟨none, 0, by rw [h1, h2]⟩
 ·exact ⟨_, _, h1⟩
theorem Zbm {P : Program} (w : World) (t ty e : TypeId) (i : TypeInfo) (z : Value) (size bytes : Nat) (ht : P.underlying t = some (.slice e)) (hi : P.info? e = some i) (hz : i.zero = some z)
 (hsize : i.size = size) (hby : i.bytes = bytes) (hzs : z.cells.size = size) (hsz : 0 < size)
 (v : Value) (n : Nat) (xs : List Value) (hown : w.ownsRow 0 e size v n xs)
 (a : Addr) (m c : Nat) (news : List Value) (hl : news.length = m * size) (hnews : ∀ j u, news[j]? = some u → w.cell? (a.add j) = some u) (h1 : ∀ u ∈ news, u.oneCell' = true)
 (h63 : n + m ≤ maxLen) (hbytes : (n + m) * bytes ≤ 140737488355328) :
 ∃ v' w', (Builtin.append_ #[t, t] ty #[v, .slice (some a) m c]).run P w = .ok v' w' ∧ w'.ownsRow 0 e size v' (n + m) (xs ++ news) ∧ w.grownBy w' v.ownBlock ∧
  (v' = .slice none 0 0 ↔ v = .slice none 0 0 ∧ m = 0) ∧ (∀ k, v'.ownBlock = some k → v.ownBlock = some k ∨ w.heap.size ≤ k) := by
 obtain ⟨v', w', hr, ho, hg, hn⟩ := run_append_own (P := P) w 0 t ty e i z size bytes ht hi hz hsize hby hzs hsz v n xs hown a m c news hl hnews h1 h63 hbytes (Nat.zero_le _);refine ⟨v', w', hr, ho, hg, hn, ?_⟩;have hh := hown;rcases hown.2 with ⟨rfl, rfl⟩ | ⟨g, cap, cur, rfl, hbg, hgg, hnc, hcm, hcs, htake⟩
 ·have hx : xs = [] := List.eq_nil_of_length_eq_zero (by simpa using hown.1)
  subst hx;obtain ⟨v2, w2, hr2, ho2, hg2, hn2⟩ := run_append_own (P := P) w w.heap.size t ty e i z size bytes ht hi hz hsize hby hzs hsz (.slice none 0 0) 0 [] (World.ownsRow_nil _ _ _ _) a m c news hl hnews h1 h63 hbytes (Nat.le_refl _);have he := hr.symm.trans hr2;injection he with e1 e2;subst e1; subst e2;intro k hk;exact .inr (ho2.lt k hk).1
 ·subst hsize;subst hby;have hsmall : n + m ≤ 9223372036854775807 := by simp only [maxLen] at h63; omega
  by_cases hroom : n + m ≤ cap
  ·have hfit : n * i.size + news.length ≤ cur.size := by rw [hl, hcs, ← Nat.add_mul]; exact Nat.mul_le_mul_right _ hroom
   have hr2 := run_append_room (P := P) w t ty e i ht hi g n cap cur hgg a m c news hl hnews h1 hroom hfit;have he := hr.symm.trans hr2;injection he with e1 e2;subst e1;intro k hk;exact .inl hk
  ·have holds : ∀ j u, xs[j]? = some u → w.cell? ((⟨g, 0, none⟩ : Addr).add j) = some u := hh.cells (g := g) rfl;have hr2 := run_append_grow (P := P) w t ty e i z ht hi hz ⟨g, 0, none⟩ n cap xs hh.1 holds a m c news hl hnews (by omega) (by omega) (growslice_fits (by omega) hbytes)
   have he := hr.symm.trans hr2;injection he with e1 e2;subst e1;intro k hk;simp only [Value.ownBlock, Option.some.injEq] at hk;exact .inr (by omega)
theorem Zam {P : Program} {w : World} {ops : Array Oper} {rest : List Oper} {o : Oper} {a : Act} {Q : Exit → Act → World → Prop} (hgd : o.guard = none) (s x : Operand) (t : TypeId)
 (ho : o.op = .call { callee := .builtin .append, args := #[s, x], argTypes := #[t, t] })
 (e : TypeId) (i : TypeInfo) (z : Value) (size bytes : Nat) (ht : P.underlying t = some (.slice e)) (hi : P.info? e = some i) (hz : i.zero = some z)
 (hsize : i.size = size) (hby : i.bytes = bytes) (hzs : z.cells.size = size) (hsz : 0 < size)
 (v : Value) (n : Nat) (xs : List Value) (hs : a.eval s = v) (hown : w.ownsRow 0 e size v n xs)
 (ad : Addr) (m c : Nat) (news : List Value) (hx : a.eval x = .slice (some ad) m c) (hl : news.length = m * size) (hnews : ∀ j u, news[j]? = some u → w.cell? (ad.add j) = some u) (h1 : ∀ u ∈ news, u.oneCell' = true)
 (h63 : n + m ≤ maxLen) (hbytes : (n + m) * bytes ≤ 140737488355328)
 (h : ∀ v' w', w'.ownsRow 0 e size v' (n + m) (xs ++ news) → w.grownBy w' v.ownBlock → (v' = .slice none 0 0 ↔ v = .slice none 0 0 ∧ m = 0) → (∀ k, v'.ownBlock = some k → v.ownBlock = some k ∨ w.heap.size ≤ k) → wpList P ops Q rest (a.put o.dst v') w') : wpList P ops Q (o :: rest) a w := by
 refine wpList_plain hgd fun K hK => ?_
 obtain ⟨v', w', hr, h2, h3, h4, h5⟩ := Zbm (P := P) w t o.type e i z size bytes ht hi hz hsize hby hzs hsz v n xs hown ad m c news hl hnews h1 h63 hbytes;unfold Oper.wp execOp;simp only [ho, resolve, invoke, builtin, Sem.run_bind, Sem.run_pure, Result.andThen_ok, List.map_toArray, List.map_cons, List.map_nil, hs, hx, hr];exact hK _ _ (h v' w' h2 h3 h4 h5)
theorem ZaV {P : Program} {ops : Array Oper} {rest : List Oper} {o : Oper} {a : Act} {w : World} {Q : Exit → Act → World → Prop} (hgd : o.guard = none) (ty : TypeId) (x : Operand) (ho : o.op = .load ty x)
 (ad : Addr) (hx : a.eval x = .pointer (some ad)) (l : List Value) (hl : ∀ j v, l[j]? = some v → w.cell? (ad.add j) = some v) (d : TypeDesc)
 (hu : P.underlying ty = some d) (hd : (match d with | .struct _ | .array _ _ => true | _ => false) = true) (hi : (P.info? ty).map (·.size) = some l.length)
 (h : wpList P ops Q rest (a.put o.dst (.agg l.toArray)) w) : wpList P ops Q (o :: rest) a w := by
 refine wpList_plain hgd fun K hK => ?_
 have hc : (loadCells ad l.length).run P w = .ok l.toArray w := run_loadCells_list (P := P) w ad l hl;have hv : (loadVar ty ad).run P w = .ok (.agg l.toArray) w := by
  cases hq : P.info? ty with
  | none => simp [hq] at hi
  | some i =>
   have hs : i.size = l.length := by simpa [hq] using hi
   have hagg : (isAgg ty).run P w = .ok true w := by
    unfold isAgg;rw [Sem.run_bind, run_underlying hu w];cases d <;> simp_all
   simp [loadVar, Sem.run_bind, hagg, sizeOf, typeInfo, hq, hs, hc]
 unfold Oper.wp execOp;simp only [ho, hx, Instr.loadAt, Instr.sureAddr, Sem.run_bind, Sem.run_pure, Result.andThen_ok, hv];exact hK _ _ h
abbrev Col := Nat → Nat × Nat
theorem Zcm {col : Col} {a b : Nat} {x y : Nat × Nat} (ha : col a = x) (hb : col b = y) (h : x ≠ y) : a ≠ b := by
 rintro rfl; exact h (ha.symm.trans hb)
def Kept (w : World) (col col' : Col) : Prop := ∀ b, b < w.heap.size → col' b = col b
theorem Kept.refl (w : World) (col : Col) : Kept w col col := fun _ _ => rfl
theorem Kept.trans {w w1 : World} {c c1 c2 : Col} (h : Kept w c c1) (h1 : Kept w1 c1 c2) (hs : w.heap.size ≤ w1.heap.size) : Kept w c c2 := fun b hb => (h1 b (Nat.lt_of_lt_of_le hb hs)).trans (h b hb)
def paint (col : Col) (b : Nat) (r : Nat × Nat) : Col := fun k => if k = b then r else col k
theorem ZfC (col : Col) (b : Nat) (r : Nat × Nat) : paint col b r b = r := by simp [paint]
theorem ZeP (col : Col) {b k : Nat} (r : Nat × Nat) (h : k ≠ b) : paint col b r k = col k := by simp [paint, h]
theorem Kept.paint {w : World} {c c' : Col} (h : Kept w c c') {b : Nat} (hb : w.heap.size ≤ b) (r : Nat × Nat) : Kept w c (paint c' b r) := fun k hk => by rw [ZeP _ _ (by omega)]; exact h k hk
end Go.M
