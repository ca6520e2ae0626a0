/- Walks 21. -/
import Derived.Test.YtnmkiflnonafbaaGreatDoorProg
import Derived.Test.YtnmkiflnonafbaaGreatDoorK10
import Derived.Test.YtnmkiflnonafbaaGreatDoorK12
import Derived.Laws.StructEq
import Derived.Deep.QuietTactic
import Derived.BigQuiet
set_option linter.unusedVariables false
set_option linter.unusedSimpArgs false
set_option maxRecDepth 100000
namespace Go.M
open Go.Proofs Go.RowKit
set_option linter.unusedSimpArgs false
theorem ZdS {P : Program} (w : World) (t ty e : TypeId) (i : TypeInfo) (ht : P.underlying t = some (.slice e)) (hi : P.info? e = some i) (g off sLen sCap : Nat) (a : Addr) (m c : Nat) (cs : List Value) (cur : Array Value) (tg : TypeId)
 (hg : w.heap[g]? = some (.cells cur tg (0, 0))) (hl : cs.length = m * i.size) (hsrc : ∀ j v, cs[j]? = some v → w.cell? (a.add j) = some v) (hfit : off + sLen * i.size + cs.length ≤ cur.size) (h1 : ∀ v ∈ cs, v.oneCell' = true) (hroom : sLen + m ≤ sCap) :
 (Builtin.append_ #[t, t] ty #[.slice (some ⟨g, off, none⟩) sLen sCap, .slice (some a) m c]).run P w =
   .ok (.slice (some ⟨g, off, none⟩) (sLen + m) sCap) (w.setRow g (cur.toList.take (off + sLen * i.size) ++ cs ++ cur.toList.drop (off + sLen * i.size + cs.length)).toArray) := by
 have hfc := run_firstCells_some (P := P) w i.size m a m c cs hl hsrc;have hst := run_storeCells_at P g (off + sLen * i.size) tg cs 0 cur w hg (by simpa using hfit) h1
 simp only [Nat.add_zero] at hst;simp [Builtin.append_, run_underlying ht, sizeOf, typeInfo, hi, Builtin.lenOf, hroom, hfc, Addr.add_lit, hst]
theorem Zcc {w : World} {g off : Nat} {cur : List Value} {t : TypeId} {cs : List Value} (hg : Has w g t cur.toArray) :
 Has (w.setRow g (cur.toArray.toList.take off ++ cs ++ cur.toArray.toList.drop (off + cs.length)).toArray) g t (splice cur off cs).toArray ∧ Upd (fun b => b = g) w (w.setRow g (cur.toArray.toList.take off ++ cs ++ cur.toArray.toList.drop (off + cs.length)).toArray) := by
 constructor
 ·have := setRow_heap w g cur.toArray (cur.toArray.toList.take off ++ cs ++ cur.toArray.toList.drop (off + cs.length)).toArray t (0, 0) hg;unfold Has;rw [this];simp [splice]
 ·exact ⟨by simp, fun k _ hk => setRow_other w g k _ (fun e => hk e), rfl, rfl, rfl⟩
theorem ZcG {P : Program} {w : World} {ops : Array Oper} {rest : List Oper} {o : Oper} {a : Act} {Q : Exit → Act → World → Prop} (hgd : o.guard = none) (s x : Operand) (t : TypeId)
 (ho : o.op = .call { callee := .builtin .append, args := #[s, x], argTypes := #[t, t] }) (e : TypeId) (i : TypeInfo) (size : Nat) (ht : P.underlying t = some (.slice e)) (hi : P.info? e = some i) (hsz : i.size = size)
 (g off sLen sCap : Nat) (ad : Addr) (m c : Nat) (hs : a.eval s = .slice (some ⟨g, off, none⟩) sLen sCap) (hx : a.eval x = .slice (some ad) m c)
 (cur : List Value) (tg : TypeId) (hg : Has w g tg cur.toArray) (cs : List Value) (hl : cs.length = m * size)
 (hsrc : ∀ j v, cs[j]? = some v → w.cell? (ad.add j) = some v) (hfit : off + sLen * size + cs.length ≤ cur.length) (h1 : ∀ v ∈ cs, v.oneCell' = true) (hroom : sLen + m ≤ sCap)
 (h : ∀ w', Hid (Has w' g tg (splice cur (off + sLen * size) cs).toArray) → Hid (Upd (fun b => b = g) w w') → wpList P ops Q rest (a.put o.dst (.slice (some ⟨g, off, none⟩) (sLen + m) sCap)) w') : wpList P ops Q (o :: rest) a w := by
 subst hsz;refine wpList_plain hgd fun K hK => ?_
 have hrun := ZdS (P := P) w t o.type e i ht hi g off sLen sCap ad m c cs cur.toArray tg hg hl hsrc (by simpa using hfit) h1 hroom
 obtain ⟨k1, k2⟩ := Zcc (off := off + sLen * i.size) (cs := cs) hg;have h2 := h _ k1 k2;unfold Oper.wp;simp only [execOp, ho, resolve, invoke, builtin, Sem.run_bind, Sem.run_pure, Result.andThen_ok, List.map_toArray, List.map_cons, List.map_nil, hs, hx, hrun];exact hK _ _ h2
theorem Ze3 {P : Program} (w : World) (t ty e : TypeId) (z : Value) (ht : P.underlying t = some (.slice e)) (hv : ∀ w, (zeroValue e).run P w = .ok z w) (g off n c : Nat) (hn : 0 < n) (cs : List Value) (hcs : (Builtin.zeroCells z.cells n).toList = cs) (cur : Array Value) (tg : TypeId)
 (hg : w.heap[g]? = some (.cells cur tg (0, 0))) (hfit : off + cs.length ≤ cur.size) (h1 : ∀ v ∈ cs, v.oneCell' = true) :
 (Builtin.clear_ #[t] ty #[.slice (some ⟨g, off, none⟩) n c]).run P w = .ok (.tuple #[]) (w.setRow g (cur.toList.take off ++ cs ++ cur.toList.drop (off + cs.length)).toArray) := by
 have hst := run_storeCells_at P g off tg cs 0 cur w hg (by simpa using hfit) h1
 simp only [Nat.add_zero] at hst;obtain ⟨k, rfl⟩ : ∃ k, n = k + 1 := ⟨n - 1, by omega⟩
 simp [Builtin.clear_, run_underlying ht, hv, hcs, hst]
theorem Zl5 : ∀ w, (zeroValue 216).run Tryz.prog w = .ok (.agg #[.string ⟨#[]⟩, .slice none 0 0]) w := Tryz.zeroValue216
theorem Zkt : (Builtin.zeroCells (Value.agg #[.string ⟨#[]⟩, .slice none 0 0]).cells 1).toList = [.string ⟨#[]⟩, .slice none 0 0] := by kernel_rfl
set_option maxHeartbeats 1000000 in
theorem Zr3 {w : World} {g m i cap : Nat} {xs : List Value} (own : w.ownsRow 0 216 2 (.slice (some ⟨g, 0, none⟩) (m + 1) cap) (m + 1) xs) (hx1 : ∀ u ∈ xs, u.oneCell' = true) (hn : m ≤ 1000) (hi : i ≤ m) :
 Calls Tryz.prog 159 #[.slice (some ⟨g, 0, none⟩) (m + 1) cap, .int .i64 ((i : Nat) : Int), .int .i64 ((i : Int) + 1)] w fun e w' =>
  e = .returned (.slice (some ⟨g, 0, none⟩) m cap) ∧ w'.ownsRow 0 216 2 (.slice (some ⟨g, 0, none⟩) m cap) m (xs.take (i * 2) ++ xs.drop ((i + 1) * 2)) ∧ Upd (fun b => b = g) w w' := by
 have hxl := own.1;obtain ⟨cur, HG, hnc, hcm, HCS, HX⟩ : ∃ cur : Array Value, Hid (Has w g 216 cur) ∧ m + 1 ≤ cap ∧ cap ≤ maxLen ∧ Hid (cur.size = cap * 2) ∧ Hid (cur.toList.take ((m + 1) * 2) = xs) := by
  rcases own.2 with ⟨h1, h2⟩ | ⟨g', cap', cur, h1, hb, hg, hnc, hcm, hcs, htk⟩
  ·cases h1
  ·injection h1 with h1 _ h3;injection h1 with h1;injection h1 with h1;subst h1 h3;exact ⟨cur, hg, hnc, hcm, hcs, htk⟩
 clear own;unfold maxLen at hcm;obtain ⟨i0, hi0, hz0, hz1, hz2⟩ := info_parts Zdv;have e1 : ¬ i = i + 1 := by omega
 have e2 : ((i : Int) == (i : Int) + 1) = false := by rw [beq_eq_false_iff_ne]; omega
 have g2 : (0 : Int) ≤ (i : Int) + 1 := by omega
 have g3 : ((i : Int) + 1).toNat = i + 1 := by omega
 have g4 : (i : Int) + 1 ≤ (m : Int) + 1 := by omega
 have g5 : (i : Int) ≤ (i : Int) + 1 := by omega
 have g6 : i + 1 ≤ m + 1 := by omega
 have g7 : i ≤ cap := by omega
 have g8 : i + 1 ≤ cap := by omega
 have g9 : (m : Int) ≤ (m : Int) + 1 := by omega
 have g10 : ((m : Int) + 1).toNat = m + 1 := by omega
 have g11 : ¬ cap = m := by omega
 have g12 : ¬ m = cap := by omega
 have g13 : ¬ cap ≤ m := by omega
 have hcell : ∀ j u, xs[j]? = some u → w.cell? ⟨g, j, none⟩ = some u := by
  intro j u hj;rw [HG.out.cell j];have hlt : j < (m + 1) * 2 := by rw [← hxl]; exact (List.getElem?_eq_some_iff.1 hj).1
  rw [← HX.out, List.getElem?_take_of_lt hlt] at hj;simpa using hj
 obtain ⟨AD, hAD, hsrc⟩ : ∃ AD : Addr, (if cap = i + 1 then some (⟨g, 0, none⟩ : Addr) else some ⟨g, (i + 1) * 2, none⟩) = some AD ∧ Hid (∀ j u, (xs.drop ((i + 1) * 2))[j]? = some u → w.drew.cell? (AD.add j) = some u) := by
  by_cases h : cap = i + 1
  ·refine ⟨_, if_pos h, fun j u hj => ?_⟩
   rw [List.getElem?_drop] at hj;have := (List.getElem?_eq_some_iff.1 hj).1;omega
  ·refine ⟨_, if_neg h, fun j u hj => ?_⟩
   rw [List.getElem?_drop] at hj;have h0 := hcell _ _ hj;rw [show (⟨g, (i + 1) * 2, none⟩ : Addr).add j = ⟨g, (i + 1) * 2 + j, none⟩ from by unfold Addr.add; split <;> simp_all]
   exact h0
 clear hcell
 go_enter Tryz.func159, Tryz.ntmps159
 go_wp2_with fail
 go_still_tail 6, (by kernel_rfl)
 change wpList _ _ _ _ _ w.drew;refine ZcG rfl (.tmp 22) (.tmp 25) 177 rfl 216 i0 2 Tryz.underlying177 hi0 hz1 g 0 i cap AD (m - i) (cap - (i + 1)) rfl (by simp [Act.eval, hAD]) cur.toList 216 (by simpa using HG.out.drew) (xs.drop ((i + 1) * 2)) (by simp [hxl]; omega) hsrc.out (by simp [hxl, HCS.out]; omega) (fun v hv => hx1 v (List.mem_of_mem_drop hv)) (by omega) ?_
 rw [show i + (m - i) = m by omega]
 intro w2 hg2 hU2;have hl1 : (splice cur.toList (0 + i * 2) (xs.drop ((i + 1) * 2))).length = cap * 2 := by rw [length_splice _ _ _ (by simp [hxl, HCS.out]; omega)]; simp [HCS.out]
 have HL := Lib.hid hl1;clear hl1;have hcl := fun ty => Ze3 (P := Tryz.prog) w2 177 ty 216 (.agg #[.string ⟨#[]⟩, .slice none 0 0]) Tryz.underlying177 Zl5 g (m * 2) 1 (cap - m) (by decide) [.string ⟨#[]⟩, .slice none 0 0] Zkt _ 216 hg2.out (by rw [List.size_toArray, HL.out]; simp; omega) (by simp [Value.oneCell'])
 obtain ⟨k1, k2⟩ := Zcc (off := m * 2) (cs := [.string ⟨#[]⟩, .slice none 0 0]) hg2.out;generalize w2.setRow g _ = w3 at hcl k1 k2;have hg3 := Lib.hid k1;have hU3 := Lib.hid k2;clear k1 k2;go_wp2;go_ret;have hUd : Upd (fun b => b = g) w w3 := (((Upd.refl _ w).drew).trans hU2.out).trans hU3.out
 have hdl : (xs.drop ((i + 1) * 2)).length = (m - i) * 2 := by rw [List.length_drop, hxl]; omega
 refine ⟨rfl, ⟨?_, .inr ⟨g, cap, _, rfl, Nat.zero_le _, hg3.out, by omega, hcm, ?_, ?_⟩⟩, hUd⟩
 ·rw [List.length_append, hdl, List.length_take, hxl];omega
 ·rw [List.size_toArray, length_splice _ _ _ (by rw [HL.out]; simp; omega), HL.out]
 ·have hA : cur.toList.take (i * 2) = xs.take (i * 2) := by rw [← HX.out, List.take_take, Nat.min_eq_left (by omega)]
  have h2 : (splice cur.toList (0 + i * 2) (xs.drop ((i + 1) * 2))).take (m * 2) = xs.take (i * 2) ++ xs.drop ((i + 1) * 2) := by
   unfold splice;rw [Nat.zero_add, hA];have hl : (xs.take (i * 2) ++ xs.drop ((i + 1) * 2)).length = m * 2 := by rw [List.length_append, hdl, List.length_take, hxl]; omega
   rw [← List.append_assoc, List.take_append_of_le_length (by rw [hl]; exact Nat.le_refl _), List.take_of_length_le (by rw [hl]; exact Nat.le_refl _)]
  rw [← h2];generalize splice cur.toList (0 + i * 2) (xs.drop ((i + 1) * 2)) = L at HL ⊢;have hL : m * 2 ≤ L.length := by rw [HL.out]; omega
  unfold splice;rw [List.take_append_of_le_length (by rw [List.length_take]; omega), List.take_take, Nat.min_self]
def ZbG {α : Type} (r : Nat) (f : Nat → α) : Nat → α := fun i => if i < r then f i else f (i + 1)
theorem Ziw {n r : Nat} {key : Nat → ByteArray} {val : Nat → Value} (hr : r ≤ n) : (Zao (n + 1) key val).take (r * 2) ++ (Zao (n + 1) key val).drop ((r + 1) * 2) = Zao n (ZbG r key) (ZbG r val) := by
 have hl := ZaK (n + 1) key val;have hl2 := ZaK n (ZbG r key) (ZbG r val);apply List.ext_getElem?;intro j
 by_cases hj : j < n * 2
 ·obtain ⟨i, hi⟩ : ∃ i, j = i * 2 ∨ j = i * 2 + 1 := ⟨j / 2, by omega⟩
  have hin : i < n := by omega
  obtain ⟨a1, a2⟩ := ZaA (key := ZbG r key) (val := ZbG r val) hin
  by_cases hir : i < r
  ·obtain ⟨b1, b2⟩ := ZaA (key := key) (val := val) (n := n + 1) (i := i) (by omega)
   rw [List.getElem?_append_left (by rw [List.length_take]; omega), List.getElem?_take_of_lt (by omega)]
   rcases hi with rfl | rfl
   ·rw [a1, b1, ZbG, if_pos hir]
   ·rw [a2, b2, ZbG, if_pos hir]
  ·obtain ⟨b1, b2⟩ := ZaA (key := key) (val := val) (n := n + 1) (i := i + 1) (by omega)
   rw [List.getElem?_append_right (by rw [List.length_take]; omega), List.length_take, Nat.min_eq_left (by omega), List.getElem?_drop]
   rcases hi with rfl | rfl
   ·rw [a1, show (r + 1) * 2 + (i * 2 - r * 2) = (i + 1) * 2 by omega, b1, ZbG, if_neg hir]
   ·rw [a2, show (r + 1) * 2 + (i * 2 + 1 - r * 2) = (i + 1) * 2 + 1 by omega, b2, ZbG, if_neg hir]
 ·rw [List.getElem?_eq_none (by rw [List.length_append, List.length_take, List.length_drop]; omega), List.getElem?_eq_none (by omega)]
theorem Zr4 {w : World} {O m r : Nat} {mv : Value} {key : Nat → ByteArray} {val : Nat → Value} (h : OMap w O mv (m + 1) key val) (hag : mv.ownBlock ≠ some O) (hr : r ≤ m) (hlt : ∀ i, i < r → Zah (key i) (key r) = true) (hv : ∀ i, i < m + 1 → (val i).oneCell' = true) :
 Calls Tryz.prog 101 #[.pointer (some ⟨O, 0, none⟩), .string (key r)] w fun e w' => (∃ v, e = .returned v) ∧ ∃ mv', OMap w' O mv' m (ZbG r key) (ZbG r val) ∧ Upd (fun b => b = O ∨ mv.ownBlock = some b) w w' ∧ ∀ b, mv'.ownBlock = some b → mv.ownBlock = some b := by
 have hb : ∀ i, r ≤ i → i < m + 1 → Zah (key i) (key r) = false := fun i hi hi2 => by
  cases hq : Zah (key i) (key r) with
  | false => rfl
  | true =>
   have := h.sorted (key r) r i hi hi2 hq;rw [ZaB] at this;cases this
 have uniq : ∀ r', r' ≤ m + 1 → (∀ i, i < r' → Zah (key i) (key r) = true) → (∀ i, r' ≤ i → i < m + 1 → Zah (key i) (key r) = false) → r' = r := fun r' h1 h2 h3 => by
  rcases Nat.lt_trichotomy r' r with h4 | h4 | h4
  ·have := hlt r' h4;rw [h3 r' (Nat.le_refl _) (by omega)] at this
   cases this
  ·exact h4
  ·have := h2 r h4;rw [hb r (Nat.le_refl _) (by omega)] at this
   cases this
 obtain ⟨t, hO⟩ := h.made;rcases h.at with ⟨_, h2, _⟩ | ⟨B, c, rfl, hM⟩
 ·omega
 have hBO : B ≠ O := fun e => hag (by rw [e]; rfl)
 have HG : Hid (∀ W, Old w W → Calls Tryz.prog 98 #[.pointer (some ⟨O, 0, none⟩), .string (key r)] W fun e w' => e = .returned (.tuple #[val r, .bool true]) ∧ Old W w') := fun W U => by
  refine (ZrV (k := key r) (hM.old U)).mono ?_;rintro e w' ⟨r', h1, h2, h3, hU, ⟨h4, h5, rfl⟩ | ⟨h4, rfl⟩⟩
  ·rw [uniq r' h1 h2 h3]; exact ⟨rfl, hU⟩
  ·have := uniq r' h1 h2 h3;subst this;exact absurd ⟨by omega, rfl⟩ h4
 have HR : Hid (∀ W, Old w W → Calls Tryz.prog 158 #[.pointer (some ⟨O, 0, none⟩), .string (key r)] W fun e w' => e = .returned (.int .i64 ((r : Nat) : Int)) ∧ Old W w') := fun W U => by
  refine (ZqZ (k := key r) (hM.old U)).mono ?_;rintro e w' ⟨r', h1, rfl, h2, h3, hU⟩;rw [uniq r' h1 h2 h3]; exact ⟨rfl, hU⟩
 have HD : Hid (∀ W, Old w W → Calls Tryz.prog 159 #[.slice (some ⟨B, 0, none⟩) (m + 1) c, .int .i64 ((r : Nat) : Int), .int .i64 ((r : Int) + 1)] W fun e w' =>
  e = .returned (.slice (some ⟨B, 0, none⟩) m c) ∧ w'.ownsRow 0 216 2 (.slice (some ⟨B, 0, none⟩) m c) m (Zao m (ZbG r key) (ZbG r val)) ∧ Upd (fun b => b = B) W w') := fun W U => by
  have := Zr3 (i := r) (Upd.own U h.own (fun _ _ x => x)) (Zhl hv) (by have := h.few; omega) hr
  rwa [Ziw hr] at this
 have HH := Lib.hid h;have o1 : w.cell? ⟨O, 1, none⟩ = some (.slice (some ⟨B, 0, none⟩) (m + 1) c) := hO.cell 1;have HO := Lib.hid hO;have hfew := h.few;have hOl := hO.lt;clear h hO hM uniq hb hlt
 go_enter Tryz.func101, Tryz.ntmps101
 go_wp2_with (first | (go_at_call 98; refine (HG.out _ (Upd.refl _ _)).mono ?_; rintro e w1 ⟨rfl, hU⟩; have H1 := Lib.hid hU; clear hU) | (go_at_call 158; refine (HR.out _ H1.out).mono ?_; rintro e w2 ⟨rfl, hU⟩; have H2 := Lib.hid (show Old w w2 from Upd.trans H1.out hU); have p1 := Old.cellOf' H2.out o1; have f1 : w2.frozen? ⟨O, 1, none⟩ = false := (Old.has H2.out HO.out).frozen 1; clear hU) | (go_at_call 159; refine (HD.out _ H2.out).mono ?_; rintro e w3 ⟨rfl, hown, hU⟩; have hO3 := Upd.has hU (Old.has H2.out HO.out) (fun e => hBO e.symm); have f3 := hO3.frozen 1; have c3 : w3.cell? ⟨O, 1, none⟩ = some (.slice (some ⟨B, 0, none⟩) (m + 1) c) := hO3.cell 1; have H3 := Lib.hid (And.intro hown (And.intro hU hO3)); clear hown hU hO3))
 go_ret2;obtain ⟨hown, hU, hO3⟩ := H3.out;refine ⟨⟨_, rfl⟩, .slice (some ⟨B, 0, none⟩) m c, ⟨⟨t, ?_⟩, ?_, ?_, by omega⟩, ?_, fun b hb => hb⟩
 ·have := hO3.set 1 (.slice (some ⟨B, 0, none⟩) m c);simpa using this
 ·have U3 : Upd (fun b => b = O) w3 (w3.setCell ⟨O, 1, none⟩ (.slice (some ⟨B, 0, none⟩) m c)) := (Upd.refl _ _).setCell _ _ (.inl rfl)
  exact Upd.own U3 hown (fun b hb e => hBO (by simp [Value.ownBlock] at hb; rw [hb, e]))
 ·intro k' i j hij hj h;have hs := HH.out.sorted k';unfold ZbG at h ⊢
  by_cases h1 : i < r
  ·rw [if_pos h1]
   by_cases h2 : j < r
   ·rw [if_pos h2] at h; exact hs i j hij (by omega) h
   ·rw [if_neg h2] at h; exact hs i (j + 1) (by omega) (by omega) h
  ·rw [if_neg h1];rw [if_neg (by omega)] at h
   exact hs (i + 1) (j + 1) (by omega) (by omega) h
 ·exact ((Upd.mono H2.out (fun _ _ x => x.elim)).trans (hU.mono (fun b _ e => .inr (by rw [e]; rfl)))).setCell _ _ (.inl (.inl rfl))
end Go.M
namespace Go.M
open Go.Proofs Go.RowKit Go.Shelf
set_option linter.unusedSimpArgs false
def ZaR (x y : Ent) : Bool := (((((decide (x.seq = y.seq) && decide (x.key = y.key)) && (x.del == y.del)) && decide (x.slot = y.slot)) && decide (x.off = y.off)) && decide (x.size = y.size))
theorem ZqJ (x y : Ent) (w : World) : (binOp .eql 111 x.val y.val).run Tryz.prog w = .ok (.bool (ZaR x y)) w := by
 unfold Ent.val;rw [run_eql_struct, run_equalIn_agg w 9999 111 _ _ (by kernel_rfl) (by kernel_rfl)]
 simp only [Program.fieldsOf, Tryz.underlying111];simp [Op.eqFields, go_sem];unfold ZaR
 repeat' split
 all_goals (try simp_all [ZmG])
 all_goals (intros; omega)
theorem Zco (x y : Ent) : ZaR x y = true ↔ x = y := by
 cases x; cases y;simp [ZaR, and_assoc]
theorem drop1 {w : World} {EB : Nat} {t : TypeId} {e y : Ent} (h : Has w EB t #[.int .i64 ((e.seq : Nat) : Int), .string e.key, .bool e.del, .int .i64 ((e.slot : Nat) : Int), .int .i64 ((e.off : Nat) : Int), .int .i64 ((e.size : Nat) : Int)]) :
 Calls Tryz.prog 100 #[y.val, .pointer (some ⟨EB, 0, none⟩)] w fun en w' => en = .returned (.bool (ZaR y e)) ∧ Old w w' := by
 have c0 : w.cell? ⟨EB, 0, none⟩ = some (.int .i64 ((e.seq : Nat) : Int)) := h.cell 0;have c1 : w.cell? ⟨EB, 1, none⟩ = some (.string e.key) := h.cell 1;have c2 : w.cell? ⟨EB, 2, none⟩ = some (.bool e.del) := h.cell 2;have c3 : w.cell? ⟨EB, 3, none⟩ = some (.int .i64 ((e.slot : Nat) : Int)) := h.cell 3;have c4 : w.cell? ⟨EB, 4, none⟩ = some (.int .i64 ((e.off : Nat) : Int)) := h.cell 4;have c5 : w.cell? ⟨EB, 5, none⟩ = some (.int .i64 ((e.size : Nat) : Int)) := h.cell 5;have hq := ZqJ y e;have hl := h.lt;clear h;unfold Ent.val at hq ⊢
 go_enter Tryz.func100, Tryz.ntmps100
 go_wp2;go_ret;exact ⟨rfl, (Upd.refl _ w).alloc _⟩
theorem ZrC {w : World} {EB g cap : Nat} {zs : List Ent} {e : Ent} (hE : ∀ W, Old w W → ∀ y : Ent, Calls Tryz.prog 100 #[y.val, .pointer (some ⟨EB, 0, none⟩)] W fun en w' => en = .returned (.bool (ZaR y e)) ∧ Old W w')
 (hc : ∀ i x, zs[i]? = some x → ∀ j u, x.cells[j]? = some u → w.cell? ⟨g, i * 6 + j, none⟩ = some u) (hl : zs.length ≤ 10000) :
 Calls Tryz.prog 157 #[.slice (some ⟨g, 0, none⟩) zs.length cap, .func (.func 100) #[] #[.pointer (some ⟨EB, 0, none⟩)]] w fun en w' => Old w w' ∧
  ∃ r : Int, en = .returned (.int .i64 r) ∧ ((r = -1 ∧ ∀ y ∈ zs, ZaR y e = false) ∨ ∃ (k : Nat) (x : Ent), r = k ∧ zs[k]? = some x ∧ ZaR x e = true ∧ ∀ j y, j < k → zs[j]? = some y → ZaR y e = false) := by
 have HE := Lib.hid hE;have HC := Lib.hid hc;clear hE hc
 go_enter Tryz.func157, Tryz.ntmps157
 go_wp2
 go_loopw [8] (fun i wr => ∃ k : Nat, k ≤ zs.length ∧ i = .int .i64 k ∧ Old w wr ∧ ∀ j y, j < k → zs[j]? = some y → ZaR y e = false) (fun i _ => zs.length - (intOf i).toNat)
 case atStart => exact ⟨0, Nat.zero_le _, rfl, Upd.refl _ _, fun j y hj => by omega⟩
 case round =>
  obtain ⟨k, hk, rfl, hU, hno⟩ := hrel
  by_cases hlt : k < zs.length
  ·obtain ⟨x, hx⟩ : ∃ x, zs[k]? = some x := ⟨zs[k], List.getElem?_eq_getElem _⟩;have a0 : wr.cell? ⟨g, k * 6, none⟩ = some (.int .i64 ((x.seq : Nat) : Int)) := Old.cellOf' hU (HC.out k x hx 0 _ rfl);have a1 : wr.cell? ⟨g, k * 6 + 1, none⟩ = some (.string x.key) := Old.cellOf' hU (HC.out k x hx 1 _ rfl);have a2 : wr.cell? ⟨g, k * 6 + 2, none⟩ = some (.bool x.del) := Old.cellOf' hU (HC.out k x hx 2 _ rfl);have a3 : wr.cell? ⟨g, k * 6 + 3, none⟩ = some (.int .i64 ((x.slot : Nat) : Int)) := Old.cellOf' hU (HC.out k x hx 3 _ rfl);have a4 : wr.cell? ⟨g, k * 6 + 4, none⟩ = some (.int .i64 ((x.off : Nat) : Int)) := Old.cellOf' hU (HC.out k x hx 4 _ rfl);have a5 : wr.cell? ⟨g, k * 6 + 5, none⟩ = some (.int .i64 ((x.size : Nat) : Int)) := Old.cellOf' hU (HC.out k x hx 5 _ rfl);have HD := Lib.hid (HE.out wr hU x);unfold Ent.val at HD;have g0 : ((k : Nat) : Int) < (zs.length : Int) := by omega
   have HU := Lib.hid hU;have HNO := Lib.hid hno;clear hU hno
   go_wp2_with (first | (go_at_call 100; refine HD.out.mono ?_; rintro en w1 ⟨rfl, hU⟩; have H1 := Lib.hid (show Old w w1 from Upd.trans HU.out hU); clear hU; refine Hid.out ?_))
   obtain ⟨b, hb⟩ : ∃ b, ZaR x e = b := ⟨_, rfl⟩;rw [hb];cases b with
   | true =>
    refine Lib.hid ?_;go_wp2;go_ret;exact ⟨H1.out, _, rfl, .inr ⟨k, x, rfl, hx, hb, HNO.out⟩⟩
   | false =>
    refine Lib.hid ?_;go_wp2
    go_roundw
    case rel => exact ⟨k + 1, by omega, by simp, H1.out, fun j y hj hy => by
     by_cases e : j = k
     ·subst e; rw [hx] at hy; cases hy; exact hb
     ·exact HNO.out j y (by omega) hy⟩
    case measure => simp [intOf]; omega
  ·obtain rfl : k = zs.length := by omega
   go_wp2;go_ret;refine ⟨hU, _, rfl, .inl ⟨rfl, fun y hy => ?_⟩⟩
   obtain ⟨j, hj, rfl⟩ := List.getElem_of_mem hy;exact hno j _ hj (List.getElem?_eq_getElem hj)
theorem Zix {C cs : List Value} {o : Nat} (h : o ≤ C.length) : (splice C o cs).take o = C.take o := by
 unfold splice;rw [List.take_append_of_le_length (by rw [List.length_take]; omega), List.take_take, Nat.min_self]
theorem Zhy {C cs : List Value} {o : Nat} (h : o ≤ C.length) : (splice C o cs).take (o + cs.length) = C.take o ++ cs := by
 unfold splice;have hl : (C.take o ++ cs).length = o + cs.length := by rw [List.length_append, List.length_take]; omega
 rw [← List.append_assoc, List.take_append_of_le_length (by rw [hl]; exact Nat.le_refl _), List.take_of_length_le (by rw [hl]; exact Nat.le_refl _)]
theorem Zhz {C cs : List Value} {o p : Nat} (h : o + cs.length ≤ C.length) (hp : o + cs.length ≤ p) : (splice C o cs)[p]? = C[p]? := by
 unfold splice;have hl : (C.take o ++ cs).length = o + cs.length := by rw [List.length_append, List.length_take]; omega
 rw [← List.append_assoc, List.getElem?_append_right (by rw [hl]; exact hp), hl, List.getElem?_drop]
 congr 1
 omega
theorem Ziy {P : Program} (w : World) (g o : Nat) (ty : TypeId) (cs : List Value) (cur : List Value) (tg : TypeId) (hg : Has w g tg cur.toArray) (hi : (P.info? ty).map (·.size) = some cs.length) (hfit : o + cs.length ≤ cur.length) (h1 : ∀ v ∈ cs, v.oneCell' = true) :
 (storeVar ty ⟨g, o, none⟩ (.agg cs.toArray)).run P w = .ok () (w.setRow g (cur.toArray.toList.take o ++ cs ++ cur.toArray.toList.drop (o + cs.length)).toArray) := by
 have hst := run_storeCells_at P g o tg cs 0 cur.toArray w hg (by simpa using hfit) h1
 simp only [Nat.add_zero] at hst;cases hq : P.info? ty with
 | none => simp [hq] at hi
 | some i =>
  have hs : cs.length = i.size := by simp [hq] at hi; omega
  simp [storeVar, sizeOf, typeInfo, hq, Value.cells, hs, hst]
theorem Zff {P : Program} {w : World} {ops : Array Oper} {rest : List Oper} {o : Oper} {a : Act} {Q : Exit → Act → World → Prop} (hgd : o.guard = none) (ty : TypeId) (x y : Operand) (ho : o.op = .store ty x y)
 (g off : Nat) (cs : List Value) (hx : a.eval x = .pointer (some ⟨g, off, none⟩)) (hy : a.eval y = .agg cs.toArray) (cur : List Value) (tg : TypeId) (hg : Has w g tg cur.toArray) (hi : (P.info? ty).map (·.size) = some cs.length) (hfit : off + cs.length ≤ cur.length) (h1 : ∀ v ∈ cs, v.oneCell' = true)
 (h : ∀ w', Hid (Has w' g tg (splice cur off cs).toArray) → Hid (Upd (fun b => b = g) w w') → wpList P ops Q rest (a.put o.dst undef) w') : wpList P ops Q (o :: rest) a w := by
 refine wpList_plain hgd fun K hK => ?_
 obtain ⟨k1, k2⟩ := Zcc (off := off) (cs := cs) hg;have h2 := h _ k1 k2;unfold Oper.wp execOp;simp only [ho, hx, hy, Instr.storeAt, Instr.sureAddr, Sem.run_bind, Sem.run_pure, Result.andThen_ok, Ziy w g off ty cs cur tg hg hi hfit h1];exact hK _ _ h2
theorem Zl6 : (Tryz.prog.info? 111).map (·.size) = some 6 := by kernel_rfl
structure DfR (W : World) (g cap i j : Nat) (zs : List Ent) (p : Ent → Bool) (C : List Value) : Prop where
 has : Has W g 111 C.toArray
 len : C.length = cap * 6
 ij : i < j
 cnt : ((zs.take j).filter p).length = i
 kept : C.take (i * 6) = rowOf ((zs.take j).filter p)
 rest : ∀ t x, j ≤ t → zs[t]? = some x → ∀ q u, x.cells[q]? = some u → C[t * 6 + q]? = some u
theorem ZrD {w : World} {EB g n cap : Nat} {zs : List Ent} {e : Ent} (own : w.ownsRow 0 111 6 (.slice (some ⟨g, 0, none⟩) n cap) n (rowOf zs)) (hn : zs.length = n) (hl : n ≤ 1000)
 (hE : ∀ W, Upd (fun b => b = g) w W → ∀ y : Ent, Calls Tryz.prog 100 #[y.val, .pointer (some ⟨EB, 0, none⟩)] W fun en w' => en = .returned (.bool (ZaR y e)) ∧ Old W w') :
 Calls Tryz.prog 99 #[.slice (some ⟨g, 0, none⟩) n cap, .func (.func 100) #[] #[.pointer (some ⟨EB, 0, none⟩)]] w fun en w' =>
  ∃ zs', zs' = zs.filter (fun y => !ZaR y e) ∧ en = .returned (.slice (some ⟨g, 0, none⟩) zs'.length cap) ∧ w'.ownsRow 0 111 6 (.slice (some ⟨g, 0, none⟩) zs'.length cap) zs'.length (rowOf zs') ∧ Upd (fun b => b = g) w w' := by
 subst hn;have HOWN := Lib.hid own;obtain ⟨cur, HG, hnc, hcm, HCS, HX⟩ : ∃ cur : Array Value, Hid (Has w g 111 cur) ∧ zs.length ≤ cap ∧ cap ≤ maxLen ∧ Hid (cur.size = cap * 6) ∧ Hid (cur.toList.take (zs.length * 6) = rowOf zs) := by
  rcases own.2 with ⟨h1, h2⟩ | ⟨g', cap', cur, h1, hb, hg, hnc, hcm, hcs, htk⟩
  ·cases h1
  ·injection h1 with h1 _ h3;injection h1 with h1;injection h1 with h1;subst h1 h3;exact ⟨cur, hg, hnc, hcm, hcs, htk⟩
 have HE := Lib.hid hE
 have HI := Lib.hid (ZrC (cap := cap) (g := g) (fun W U y => hE W (U.mono (fun _ _ x => x.elim)) y) (fun i x hx j u hu => by
  have := own.cells (g := g) rfl _ _ (Zba hx hu)
  rwa [show (⟨g, 0, none⟩ : Addr).add (i * 6 + j) = ⟨g, i * 6 + j, none⟩ from by unfold Addr.add; split <;> simp_all] at this) (by omega))
 clear own hE;unfold maxLen at hcm
 go_enter Tryz.func99, Tryz.ntmps99
 go_wp2_with (first | (go_at_call 157; refine HI.out.mono ?_; rintro en w1 ⟨hU, rr, rfl, hq⟩; have H1 := Lib.hid hU; clear hU; refine Hid.out ?_))
 rcases hq with ⟨rfl, hno⟩ | ⟨k, x, rfl, hx, hxe, hno⟩
 ·refine Lib.hid ?_;go_wp2;go_ret;refine ⟨zs, (List.filter_eq_self.2 (fun y hy => by rw [hno y hy]; rfl)).symm, rfl, Upd.own H1.out HOWN.out (fun _ _ x => x), H1.out.mono (fun _ _ x => x.elim)⟩
 ·have hkl : k < zs.length := (List.getElem?_eq_some_iff.1 hx).1;have hF0 : (zs.take (k + 1)).filter (fun y => !ZaR y e) = zs.take k := by
   rw [List.take_add_one, hx];simp only [Option.toList_some, List.filter_append]
   rw [List.filter_eq_self.2 (fun y hy => by
    obtain ⟨j, hj, rfl⟩ := List.getElem_of_mem hy;rw [List.length_take] at hj;rw [hno j _ (by omega) (by rw [List.getElem_take]; exact List.getElem?_eq_getElem _)]
    rfl)]
   simp [hxe]
  have hk1 : ¬ ((k : Int) == -1) = true := by simp
  have HF0 := Lib.hid hF0;have HD : Hid (∀ W, Upd (fun b => b = g) w W → ∀ y : Ent, Calls Tryz.prog 100 #[.agg #[.int .i64 ((y.seq : Nat) : Int), .string y.key, .bool y.del, .int .i64 ((y.slot : Nat) : Int), .int .i64 ((y.off : Nat) : Int), .int .i64 ((y.size : Nat) : Int)], .pointer (some ⟨EB, 0, none⟩)] W fun en w' => en = .returned (.bool (ZaR y e)) ∧ Old W w') := HE.out
  clear hF0 hxe hno hx;refine Lib.hid ?_;go_wp2
  go_loopw [5, 6] (fun i j wr => ∃ (a b : Nat) (C : List Value), i = .int .i64 a ∧ j = .int .i64 b ∧ b ≤ zs.length ∧ DfR wr g cap a b zs (fun y => !ZaR y e) C ∧ Upd (fun b => b = g) w wr) (fun _ j _ => zs.length - (intOf j).toNat)
  case atStart =>
   refine ⟨k, k + 1, cur.toList, rfl, by simp, by omega, ⟨by have := Old.has H1.out HG.out; simpa using this, by simpa using HCS.out, by omega, ?_, ?_, ?_⟩, H1.out.mono (fun _ _ x => x.elim)⟩
   ·rw [HF0.out, List.length_take]; omega
   ·rw [HF0.out];have h := HX.out;have e2 : rowOf zs = rowOf (zs.take k) ++ rowOf (zs.drop k) := by rw [← Zbf, List.take_append_drop]
    have h2 : (cur.toList.take (zs.length * 6)).take (k * 6) = cur.toList.take (k * 6) := by rw [List.take_take, Nat.min_eq_left (by omega)]
    rw [← h2, h, e2, List.take_append_of_le_length (by rw [Zbe, List.length_take]; omega), List.take_of_length_le (by rw [Zbe, List.length_take]; omega)]
   ·intro t x _ hx q u hu;have h := Zba hx hu;rw [← HX.out] at h;have hlt : t * 6 + q < zs.length * 6 := by
     have h1 := (List.getElem?_eq_some_iff.1 hx).1;have h2 := (List.getElem?_eq_some_iff.1 hu).1;have h3 : x.cells.length = 6 := rfl;omega
    rwa [List.getElem?_take_of_lt hlt] at h
  case round =>
   obtain ⟨a, b, C, rfl, rfl, hb, hR, hU⟩ := hrel
   by_cases hlt : b < zs.length
   ·obtain ⟨y, hy⟩ : ∃ y, zs[b]? = some y := ⟨zs[b], List.getElem?_eq_getElem _⟩;have hc : ∀ q u, y.cells[q]? = some u → wr.cell? ⟨g, b * 6 + q, none⟩ = some u := fun q u hu => by
     rw [hR.has.cell];have := hR.rest b y (Nat.le_refl _) hy q u hu;simpa using this
    have a0 : wr.cell? ⟨g, b * 6, none⟩ = some (.int .i64 ((y.seq : Nat) : Int)) := hc 0 _ rfl;have a1 : wr.cell? ⟨g, b * 6 + 1, none⟩ = some (.string y.key) := hc 1 _ rfl;have a2 : wr.cell? ⟨g, b * 6 + 2, none⟩ = some (.bool y.del) := hc 2 _ rfl;have a3 : wr.cell? ⟨g, b * 6 + 3, none⟩ = some (.int .i64 ((y.slot : Nat) : Int)) := hc 3 _ rfl;have a4 : wr.cell? ⟨g, b * 6 + 4, none⟩ = some (.int .i64 ((y.off : Nat) : Int)) := hc 4 _ rfl;have a5 : wr.cell? ⟨g, b * 6 + 5, none⟩ = some (.int .i64 ((y.size : Nat) : Int)) := hc 5 _ rfl;have g0 : ((b : Nat) : Int) < (zs.length : Int) := by omega
    have hab := hR.ij;have g1 : ((a : Nat) : Int) < (zs.length : Int) := by omega
    have hF : (zs.take (b + 1)).filter (fun y => !ZaR y e) = (zs.take b).filter (fun y => !ZaR y e) ++ (if ZaR y e then [] else [y]) := by
     rw [List.take_add_one, hy];simp only [Option.toList_some, List.filter_append]
     congr 1
     cases hq : ZaR y e <;> simp [hq]
    have HR := Lib.hid hR;have HU := Lib.hid hU;have HFF := Lib.hid hF;have hV := Has.new wr 111 #[.int .i64 ((y.seq : Nat) : Int), .string y.key, .bool y.del, .int .i64 ((y.slot : Nat) : Int), .int .i64 ((y.off : Nat) : Int), .int .i64 ((y.size : Nat) : Int)];have HV := Lib.hid hV;clear hc hR hU hF hV
    go_wp2_with (first | (go_at_call 100; refine (HD.out _ ?_ y).mono ?_; (exact HU.out.alloc _); rintro en w2 ⟨rfl, hU⟩; have H2 := Lib.hid (show Old wr w2 from Upd.trans ((Upd.refl _ wr).alloc _) hU); have HV2 := Lib.hid (Old.has hU HV.out); clear hU; refine Hid.out ?_))
    obtain ⟨bb, hbb⟩ : ∃ bb, ZaR y e = bb := ⟨_, rfl⟩;rw [hbb] at HFF ⊢;have v0 : w2.cell? ⟨wr.heap.size, 0, none⟩ = some (.int .i64 ((y.seq : Nat) : Int)) := HV2.out.cell 0;have v1 : w2.cell? ⟨wr.heap.size, 1, none⟩ = some (.string y.key) := HV2.out.cell 1;have v2 : w2.cell? ⟨wr.heap.size, 2, none⟩ = some (.bool y.del) := HV2.out.cell 2;have v3 : w2.cell? ⟨wr.heap.size, 3, none⟩ = some (.int .i64 ((y.slot : Nat) : Int)) := HV2.out.cell 3;have v4 : w2.cell? ⟨wr.heap.size, 4, none⟩ = some (.int .i64 ((y.off : Nat) : Int)) := HV2.out.cell 4;have v5 : w2.cell? ⟨wr.heap.size, 5, none⟩ = some (.int .i64 ((y.size : Nat) : Int)) := HV2.out.cell 5;clear HV2 HV;cases bb with
    | true =>
     refine Lib.hid ?_;go_wp2
     go_roundw
     case rel =>
      have hf : (zs.take (b + 1)).filter (fun y => !ZaR y e) = (zs.take b).filter (fun y => !ZaR y e) := by rw [HFF.out]; simp
      exact ⟨a, b + 1, C, rfl, by simp, by omega, ⟨Old.has H2.out HR.out.has, HR.out.len, by omega, by rw [hf]; exact HR.out.cnt, by rw [hf]; exact HR.out.kept, fun t x ht hx => HR.out.rest t x (by omega) hx⟩, HU.out.after H2.out (fun _ _ x => x.elim)⟩
     case measure => simp [intOf]; omega
    | false =>
     have hlen := HR.out.len;have hcl : y.cells.length = 6 := rfl;have hG2 := Lib.hid (Old.has H2.out HR.out.has);refine Lib.hid ?_
     go_wp2_with (first | (refine Zff rfl 111 (.tmp 33) (.tmp 32) rfl g (a * 6) y.cells rfl rfl C 111 hG2.out Zl6 (by rw [hcl]; omega) (ZdL y) ?_; intro w3 hG3 hU3))
     go_roundw
     case rel =>
      have hf : (zs.take (b + 1)).filter (fun y => !ZaR y e) = (zs.take b).filter (fun y => !ZaR y e) ++ [y] := by rw [HFF.out]; simp
      have hs : (splice C (a * 6) y.cells).length = cap * 6 := by rw [length_splice _ _ _ (by rw [hcl]; omega), hlen]
      refine ⟨a + 1, b + 1, splice C (a * 6) y.cells, by simp, by simp, by omega, ⟨hG3.out, hs, by omega, by rw [hf, List.length_append, HR.out.cnt]; rfl, ?_, fun t x ht hx q u hu => ?_⟩, (HU.out.after H2.out (fun _ _ x => x.elim)).trans hU3.out⟩
      ·have h := Zhy (C := C) (cs := y.cells) (o := a * 6) (by omega)
       rw [hcl] at h;rw [show (a + 1) * 6 = a * 6 + 6 by omega, h, hf, Zbf, HR.out.kept]
       simp [rowOf]
      ·rw [Zhz (by rw [hcl]; omega) (by rw [hcl]; omega)]
       exact HR.out.rest t x (by omega) hx q u hu
     case measure => simp [intOf]; omega
   ·obtain rfl : b = zs.length := by omega
    have hab := hR.ij;have hlen := hR.len;have hcnt := hR.cnt;have hkept := hR.kept;rw [List.take_length] at hcnt hkept;have hzl : (Builtin.zeroCells (Value.agg #[.int .i64 0, .string ⟨#[]⟩, .bool false, .int .i64 0, .int .i64 0, .int .i64 0]).cells (zs.length - a)).toList.length = (zs.length - a) * 6 := by
     simp [Builtin.zeroCells, Value.cells]
    have hz1 : ∀ v ∈ (Builtin.zeroCells (Value.agg #[.int .i64 0, .string ⟨#[]⟩, .bool false, .int .i64 0, .int .i64 0, .int .i64 0]).cells (zs.length - a)).toList, v.oneCell' = true := by
     intro v hv;simp only [Builtin.zeroCells, Array.toList_map, List.mem_map] at hv;obtain ⟨q, _, rfl⟩ := hv;have : q % 6 < 6 := Nat.mod_lt _ (by decide)
     have hh : ∀ r, r < 6 → ((Value.agg #[.int .i64 0, .string ⟨#[]⟩, .bool false, .int .i64 0, .int .i64 0, .int .i64 0]).cells[r]!).oneCell' = true := by decide
     exact hh _ this
    have hcl := fun ty => Ze3 (P := Tryz.prog) wr 105 ty 111 (.agg #[.int .i64 0, .string ⟨#[]⟩, .bool false, .int .i64 0, .int .i64 0, .int .i64 0]) Tryz.underlying105 Tryz.zeroValue111 g (a * 6) (zs.length - a) (cap - a) (by omega) _ rfl _ 111 hR.has (by rw [List.size_toArray, hzl]; omega) hz1
    obtain ⟨k1, k2⟩ := Zcc (off := a * 6) (cs := (Builtin.zeroCells (Value.agg #[.int .i64 0, .string ⟨#[]⟩, .bool false, .int .i64 0, .int .i64 0, .int .i64 0]).cells (zs.length - a)).toList) hR.has;generalize wr.setRow g _ = w3 at hcl k1 k2;have hg3 := Lib.hid k1;have hU3 := Lib.hid k2;have HR := Lib.hid hR;have HU := Lib.hid hU;have g1 : ((a : Nat) : Int) ≤ (zs.length : Int) := by omega
    have g2 : ¬ cap = a := by omega
    have g3 : ¬ a = cap := by omega
    have g4 : a ≤ cap := by omega
    have g5 : ((a : Nat) : Int) ≤ (cap : Int) := by omega
    have g6 : ¬ cap ≤ a := by omega
    clear k1 k2 hR hU;go_wp2;go_ret;refine ⟨_, rfl, by rw [hcnt]; rfl, ?_, HU.out.trans hU3.out⟩
    rw [hcnt];refine ⟨?_, .inr ⟨g, cap, _, rfl, Nat.zero_le _, hg3.out, by omega, hcm, ?_, ?_⟩⟩
    ·rw [Zbe, hcnt]
    ·rw [List.size_toArray, length_splice _ _ _ (by rw [hzl]; omega), hlen]
    ·rw [List.toList_toArray, Zix (by omega), hkept]
end Go.M
