/- Walks 9. -/
import Derived.Test.YtnmkiflnonafbaaGreatDoorProg
import Derived.Test.YtnmkiflnonafbaaGreatDoorK8
import Derived.Test.YtnmkiflnonafbaaGreatDoorK5
import Derived.Test.YtnmkiflnonafbaaGreatDoorK6
set_option linter.unusedVariables false
set_option linter.unusedSimpArgs false
set_option maxRecDepth 100000
namespace Go.M
open Go.Proofs Go.RowKit
theorem ZmG (a b : ByteArray) : a.toList = b.toList ↔ a = b := by
 rw [ByteArray.toList_eq, ByteArray.toList_eq];constructor
 ·intro h;exact ByteArray.ext (Array.toList_inj.1 h)
 ·rintro rfl;rfl
theorem Zq0 {w : World} {O B n c : Nat} {k : ByteArray} {key : Nat → ByteArray} {val : Nat → Value} (h : MapAt w O B n c key val) :
 Calls Tryz.prog 150 #[.pointer (some ⟨O, 0, none⟩), .string k] w fun e w' => ∃ (r : Nat) (b : Bool), r ≤ n ∧ e = .returned (.tuple #[.int .i64 ((r : Nat) : Int), .bool b]) ∧ (b = true ↔ r < n ∧ key r = k) ∧ (∀ i, i < r → Zah (key i) k = true) ∧ (∀ i, r ≤ i → i < n → Zah (key i) k = false) ∧ Old w w' := by
 have HR := Lib.hid (fun (w' : World) (U : Old w w') => ZqZ (k := k) (h.old U))
 have HI := Lib.hid (fun (w' : World) (U : Old w w') => Zeb (h.old U).made (h.old U).list)
 have hM := Lib.hid h;clear h
 go_enter Tryz.func150, Tryz.ntmps150
 go_wp2_with (first | (go_at_call 158; refine (HR.out _ (Upd.refl _ _)).mono ?_; rintro e w1 ⟨r, hr, rfl, ha, hb, hO⟩; have M1 := hM.out.old hO; have HO := Lib.hid hO; clear hO) | (go_at_call 191; refine (HI.out _ HO.out).mono ?_; rintro e w2 ⟨rfl, rfl⟩; have HA := Lib.hid ha; have HB := Lib.hid hb; clear ha hb))
 by_cases hrn : r < n
 ·have g1 : (r : Int) < (n : Int) := by omega
  have cr := M1.ks r hrn;clear M1
  go_quiet (fail)
  go_wp2;go_ret2;refine ⟨r, _, hr, rfl, ?_, HA.out, HB.out, HO.out.drewN _⟩;simp [hrn, ZmG]
 ·have g1 : ¬ ((r : Int) < (n : Int)) := by omega
  clear M1
  go_quiet (fail)
  go_wp2;go_ret2;exact ⟨r, hr, .inl ⟨rfl, fun h => absurd h hrn, HA.out, HB.out, HO.out.drewN _⟩⟩
def Zn0 (w : World) (n : Nat) (k : ByteArray) (key : Nat → ByteArray) (e : Ending) (w' : World) : Prop := ∃ (r : Nat) (b : Bool), r ≤ n ∧ e = .returned (.tuple #[.int .i64 ((r : Nat) : Int), .bool b]) ∧ (b = true ↔ r < n ∧ key r = k) ∧ (∀ i, i < r → Zah (key i) k = true) ∧ (∀ i, r ≤ i → i < n → Zah (key i) k = false) ∧ Old w w'
def ZmH (w : World) (n : Nat) (k : ByteArray) (key : Nat → ByteArray) (val : Nat → Value) (e : Ending) (w' : World) : Prop := ∃ (r : Nat), r ≤ n ∧ (∀ i, i < r → Zah (key i) k = true) ∧ (∀ i, r ≤ i → i < n → Zah (key i) k = false) ∧ Old w w' ∧ ((r < n ∧ key r = k ∧ e = .returned (.tuple #[val r, .bool true])) ∨ (¬ (r < n ∧ key r = k) ∧ e = .returned (.tuple #[.slice none 0 0, .bool false])))
theorem ZrV {w : World} {O B n c : Nat} {k : ByteArray} {key : Nat → ByteArray} {val : Nat → Value} (h : MapAt w O B n c key val) :
 Calls Tryz.prog 98 #[.pointer (some ⟨O, 0, none⟩), .string k] w (ZmH w n k key val) := by
 have HF := Lib.hid (show Calls _ _ _ _ (Zn0 w n k key) from Zq0 (k := k) h)
 have hM := Lib.hid h;clear h
 go_enter Tryz.func98, Tryz.ntmps98
 go_wp2_with (first | (go_at_call 150; refine HF.out.mono ?_; rintro e w1 ⟨r, b, hr, rfl, hb, ha, hb2, hO⟩; have M1 := hM.out.old hO; have HO := Lib.hid hO; have HA := Lib.hid ha; have HB := Lib.hid hb2; clear hO ha hb2; refine Hid.out ?_))
 cases b with
 | false =>
  have hb' : ¬ (r < n ∧ key r = k) := fun h => by have := hb.2 h; cases this
  clear hb M1;refine Lib.hid ?_;go_wp2;go_ret2;exact ⟨r, hr, HA.out, HB.out, HO.out, .inr ⟨hb', rfl⟩⟩
 | true =>
  have hb' := hb.1 rfl;have g1 : (r : Int) < (n : Int) := by omega
  have g2 : r < n := hb'.1;have c0 := M1.list;have c1 := M1.vs r g2;have HK := Lib.hid hb';clear hb M1 hb';refine Lib.hid ?_;go_wp2;go_ret2;exact ⟨r, hr, HA.out, HB.out, HO.out, .inl ⟨HK.out.1, HK.out.2, rfl⟩⟩
theorem ZfQ {w : World} :
 Calls Tryz.prog 90 #[.slice none 0 0] w (Zcf w 111 6 0 []) := by
 have hq : ∀ w : World, (binOp .eql 105 (.slice none 0 0) (.slice none 0 0)).run Tryz.prog w = .ok (.bool true) w := fun w => Lib.run_eql_slice_nil w _ _ _ _ _ _ _ Tryz.underlying105
 go_enter Tryz.func90, Tryz.ntmps90
 go_wp2;go_ret;exact ⟨_, rfl, World.ownsRow_nil _ _ _ _, Upd.refl _ _, fun b hb => by cases hb⟩
theorem Ze8 {w : World} {ad : Addr} {n c : Nat} {xs : List Value} (hl : xs.length = n * 6) (he : ∀ j u, xs[j]? = some u → w.cell? (ad.add j) = some u) (h1 : ∀ u ∈ xs, u.oneCell' = true) (hn : n ≤ 1000) :
 Calls Tryz.prog 90 #[.slice (some ad) n c] w (Zcf w 111 6 n xs) := by
 obtain ⟨i0, hi0, hz0, hz1, hz2⟩ := info_parts Zeq;have hq : ∀ w : World, (binOp .eql 105 (.slice (some ad) n c) (.slice none 0 0)).run Tryz.prog w = .ok (.bool false) w := fun w => Lib.run_eql_slice_nil w _ _ _ _ _ _ _ Tryz.underlying105
 have HE := Lib.hid he;have HW : ∀ o : Obj, Hid (∀ j u, xs[j]? = some u → (w.alloc o).cell? (ad.add j) = some u) := fun o j u hj => Old.cellOf' ((Upd.refl _ w).alloc o) (he j u hj)
 have HL := Lib.hid hl;clear he hl
 go_enter Tryz.func90, Tryz.ntmps90
 go_wp2_with (first | (at_builtin; refine Zam rfl (.tmp 5) (.tmp 6) 105 rfl 111 i0 (.agg #[.int .i64 0, .string ⟨#[]⟩, .bool false, .int .i64 0, .int .i64 0, .int .i64 0]) 6 56 Tryz.underlying105 hi0 hz0 hz1 hz2 rfl (by decide) (.slice (some ⟨w.heap.size, 0, none⟩) 0 0) 0 [] rfl ?c0 ad n c xs rfl (by rw [HL.out]) (by exact (HW _).out) h1 (by unfold maxLen; omega) (by omega) ?_))
 case c0 => exact ⟨rfl, .inr ⟨w.heap.size, 0, #[], rfl, Nat.zero_le _, heap_alloc_new _ _, Nat.le_refl _, Nat.zero_le _, rfl, rfl⟩⟩
 intro v' w1 hown' hgrow hnil hfresh;go_wp2;go_ret;refine ⟨_, rfl, by simpa using hown', ((Upd.refl _ w).alloc _).grown hgrow (fun k hk => .inr ?_), fun b hb => ?_⟩
 ·simp [Value.ownBlock] at hk; omega
 ·rcases hfresh b hb with h | h
  ·have : w.heap.size = b := by simpa [Value.ownBlock] using h
   omega
  ·exact Nat.le_trans (by simp) h
structure Ent where
 seq : Nat
 key : ByteArray
 del : Bool
 slot : Nat
 off : Nat
 size : Nat
def Ent.cells (e : Ent) : List Value := [.int .i64 ((e.seq : Nat) : Int), .string e.key, .bool e.del, .int .i64 ((e.slot : Nat) : Int), .int .i64 ((e.off : Nat) : Int), .int .i64 ((e.size : Nat) : Int)]
def Ent.val (e : Ent) : Value := .agg #[.int .i64 ((e.seq : Nat) : Int), .string e.key, .bool e.del, .int .i64 ((e.slot : Nat) : Int), .int .i64 ((e.off : Nat) : Int), .int .i64 ((e.size : Nat) : Int)]
def ZoB (a b : Int) : Int := if a < b then -1 else if b < a then 1 else 0
theorem ZmI {a b : Int} (h : a = b) : Ending.returned (.int .i64 a) = .returned (.int .i64 b) := by rw [h]
theorem ZpP {w : World} {a b : Int} :
 Calls Tryz.prog 189 #[.int .i64 a, .int .i64 b] w fun e w' => e = .returned (.int .i64 (ZoB a b)) ∧ w = w' := by
 go_enter Tryz.func189, Tryz.ntmps189
 go_wp2
 all_goals
  go_ret;refine ⟨ZmI ?_, rfl⟩;unfold ZoB
  (try split) <;> (try split) <;> omega
theorem ZmJ {w : World} {a b : Int} :
 Calls Tryz.prog 129 #[.int .i64 a, .int .i64 b] w fun e w' => e = .returned (.int .i64 (ZoB a b)) ∧ w = w' := by
 go_enter Tryz.func129, Tryz.ntmps129
 go_wp2
 all_goals
  go_ret;refine ⟨ZmI ?_, rfl⟩;unfold ZoB
  (try split) <;> (try split) <;> omega
theorem Zn1 {w : World} {b : Nat} {x : Int} (h : w.cell? ⟨b, 0, none⟩ = some (.int .i64 x)) (hx : (x == 0) = false) :
 Calls Tryz.prog 188 #[.slice (some ⟨b, 0, none⟩) 2 2] w fun e w' => e = .returned (.int .i64 x) ∧ w = w' := by
 go_enter Tryz.func188, Tryz.ntmps188
 go_wp2
 go_loopw [8] (fun i wr => i = .int .i64 0 ∧ w = wr) (fun _ _ => 0)
 case atStart => exact ⟨rfl, rfl⟩
 case round =>
  obtain ⟨rfl, rfl⟩ := hrel;go_wp2;go_ret;exact ⟨rfl, rfl⟩
theorem ZjF {w : World} {a b : Ent} (h : a.seq < b.seq) :
 Calls Tryz.prog 132 #[a.val, b.val] w fun e w' => e = .returned (.int .i64 1) ∧ Old w w' := by
 have hc : ZoB (b.seq : Int) (a.seq : Int) = 1 := by unfold ZoB; rw [if_neg (by omega), if_pos (by omega)]
 have HC : ∀ w : World, Hid (Calls Tryz.prog 189 #[.int .i64 b.seq, .int .i64 a.seq] w fun e w' => e = .returned (.int .i64 1) ∧ w = w') := fun w => by have := ZpP (w := w) (a := b.seq) (b := a.seq); rw [hc] at this; exact this
 clear hc h;unfold Ent.val
 go_enter Tryz.func132, Tryz.ntmps132
 go_wp2_with (first | (fail))
 have a0 := Has.new w 111 #[.int .i64 a.seq, .string a.key, .bool a.del, .int .i64 a.slot, .int .i64 a.off, .int .i64 a.size];have a1 := a0.alloc (.cells #[.int .i64 b.seq, .string b.key, .bool b.del, .int .i64 b.slot, .int .i64 b.off, .int .i64 b.size] 111);have b1 := Has.new (w.alloc (.cells #[.int .i64 a.seq, .string a.key, .bool a.del, .int .i64 a.slot, .int .i64 a.off, .int .i64 a.size] 111)) 111 #[.int .i64 b.seq, .string b.key, .bool b.del, .int .i64 b.slot, .int .i64 b.off, .int .i64 b.size];have hO : Old w ((w.alloc (.cells #[.int .i64 a.seq, .string a.key, .bool a.del, .int .i64 a.slot, .int .i64 a.off, .int .i64 a.size] 111)).alloc (.cells #[.int .i64 b.seq, .string b.key, .bool b.del, .int .i64 b.slot, .int .i64 b.off, .int .i64 b.size] 111)) := ((Upd.refl _ w).alloc _).alloc _;generalize hW : World.alloc (World.alloc w _) _ = W at a1 b1 hO ⊢;rw [World.size_alloc] at b1;clear hW a0;have c0 := a1.cell 0;have c3 := a1.cell 3;have d0 := b1.cell 0;have d3 := b1.cell 3;simp only [List.getElem?_toArray, List.getElem?_cons_zero, List.getElem?_cons_succ] at c0 c3 d0 d3;clear a1 b1;have HO := Lib.hid hO;clear hO
 go_region_held3 (fun x => x.cell? ⟨w.heap.size, 0, none⟩ = some (.int .i64 a.seq) ∧ x.cell? ⟨w.heap.size, 3, none⟩ = some (.int .i64 a.slot) ∧ x.cell? ⟨w.heap.size + 1, 0, none⟩ = some (.int .i64 b.seq) ∧ x.cell? ⟨w.heap.size + 1, 3, none⟩ = some (.int .i64 b.slot))
  (first | go_keep)
  (first | (go_at_call 189; refine (HC _).out.mono ?_; rintro e w1 ⟨rfl, rfl⟩) | (go_at_call 129; refine ZmJ.mono ?_; rintro e w1 ⟨rfl, rfl⟩) | (go_at_call 188; refine (Zn1 (x := 1) (by simp) rfl).mono ?_; rintro e w1 ⟨rfl, rfl⟩))
 go_wp2;go_ret;exact ⟨rfl, (HO.out.alloc _).drew⟩
def rowOf (es : List Ent) : List Value := es.flatMap Ent.cells
theorem Zbe (es : List Ent) : (rowOf es).length = es.length * 6 := by
 induction es with
 | nil => rfl
 | cons e es ih => simp [rowOf, Ent.cells] at ih ⊢; omega
theorem Zbf (a b : List Ent) : rowOf (a ++ b) = rowOf a ++ rowOf b := by simp [rowOf]
theorem Zba {es : List Ent} {i j : Nat} {e : Ent} {u : Value} (h : es[i]? = some e) (hj : e.cells[j]? = some u) : (rowOf es)[i * 6 + j]? = some u := by
 induction es generalizing i with
 | nil => simp at h
 | cons a es ih =>
  have hl : j < 6 := by have := (List.getElem?_eq_some_iff.1 hj).1; simpa [Ent.cells] using this
  have hr : rowOf (a :: es) = a.cells ++ rowOf es := by simp [rowOf]
  have ha : a.cells.length = 6 := rfl;cases i with
  | zero =>
   simp at h;subst h;rw [hr, List.getElem?_append_left (by omega)]
   simpa using hj
  | succ i =>
   rw [hr, List.getElem?_append_right (by omega), ha, show (i + 1) * 6 + j - 6 = i * 6 + j by omega]
   exact ih (by simpa using h)
theorem ZhP {es : List Ent} : ∀ u ∈ rowOf es, u.oneCell' = true := by
 intro u hu;simp only [rowOf, List.mem_flatMap] at hu;obtain ⟨e, -, hu⟩ := hu;simp [Ent.cells] at hu;rcases hu with rfl | rfl | rfl | rfl | rfl | rfl <;> rfl
def Zcu (w : World) (v : Value) (es : List Ent) : Prop :=
 (v = .slice none 0 0 ∧ es = []) ∨ ∃ g c, v = .slice (some ⟨g, 0, none⟩) es.length c ∧ ∀ i e, es[i]? = some e → ∀ j u, e.cells[j]? = some u → w.cell? ⟨g, i * 6 + j, none⟩ = some u
theorem Zcu.of_own {w : World} {v : Value} {es : List Ent} (h : w.ownsRow 0 111 6 v es.length (rowOf es)) : Zcu w v es := by
 rcases h.2 with ⟨h1, h2⟩ | ⟨g, c, cur, h1, _⟩
 ·exact .inl ⟨h1, List.eq_nil_of_length_eq_zero h2⟩
 ·refine .inr ⟨g, c, h1, fun i e hi j u hj => ?_⟩
  have := h.cells (g := g) (by rw [h1]; rfl) _ _ (Zba hi hj)
  rwa [show (⟨g, 0, none⟩ : Addr).add (i * 6 + j) = ⟨g, i * 6 + j, none⟩ from by unfold Addr.add; split <;> simp_all] at this
theorem Zcu.old {w w' : World} {v : Value} {es : List Ent} (h : Zcu w v es) (O : Old w w') : Zcu w' v es := by
 rcases h with h | ⟨g, c, h1, h2⟩
 ·exact .inl h
 ·exact .inr ⟨g, c, h1, fun i e hi j u hj => Old.cellOf' O (h2 i e hi j u hj)⟩
theorem Zq1 {w : World} {g c off : Nat} {es : List Ent} (h : ∀ i e, es[i]? = some e → ∀ j u, e.cells[j]? = some u → w.cell? ⟨g, i * 6 + j, none⟩ = some u) (hn : es.length ≤ 1000) (hlt : ∀ e ∈ es, e.off < off) :
 Calls Tryz.prog 127 #[.slice (some ⟨g, 0, none⟩) es.length c, .int .i64 ((off : Nat) : Int), .func (.func 128) #[] #[]] w fun e w' => e = .returned (.tuple #[.int .i64 ((es.length : Nat) : Int), .bool false]) ∧ Old w w' := by
 have HE := Lib.hid h;have HL := Lib.hid hlt;clear h hlt
 go_enter Tryz.func127, Tryz.ntmps127
 go_wp2
 go_loopw [9, 10] (fun l h wr => ∃ lo hi : Nat, lo ≤ hi ∧ hi = es.length ∧ l = .int .i64 lo ∧ h = .int .i64 hi ∧ Old w wr) (fun l h _ => (intOf h).toNat - (intOf l).toNat)
 case atStart => exact ⟨0, es.length, Nat.zero_le _, rfl, rfl, rfl, Upd.refl _ w⟩
 case round =>
  obtain ⟨lo, hi, hlh, rfl, rfl, rfl, hO⟩ := hrel;generalize hN : es.length = hi at *
  have HO := Lib.hid hO;clear hO
  by_cases hlt : lo < hi
  ·have g1 : IntKind.i64.wrap ((lo : Int) + (hi : Int)) = ((lo + hi : Nat) : Int) := IntWalk.i64_in _ (by omega)
   have hm1 : lo ≤ (lo + hi) / 2 := by omega
   have hm2 : (lo + hi) / 2 < hi := by omega
   have g2 : ((lo : Int) + (hi : Int)) / 2 = (((lo + hi) / 2 : Nat) : Int) := by omega
   generalize (lo + hi) / 2 = m at *
   have g4 : (m : Int) < (hi : Int) := by omega
   obtain ⟨x, hx⟩ : ∃ x, es[m]? = some x := ⟨es[m]'(by omega), List.getElem?_eq_getElem _⟩
   have hxo := HL.out x (List.mem_of_getElem? hx);have c0 : wr.cell? ⟨g, m * 6, none⟩ = some (.int .i64 ((x.seq : Nat) : Int)) := Old.cellOf' HO.out (HE.out m x hx 0 _ rfl);have c1 := Old.cellOf' HO.out (HE.out m x hx 1 _ rfl);have c2 := Old.cellOf' HO.out (HE.out m x hx 2 _ rfl);have c3 := Old.cellOf' HO.out (HE.out m x hx 3 _ rfl);have c4 := Old.cellOf' HO.out (HE.out m x hx 4 _ rfl);have c5 := Old.cellOf' HO.out (HE.out m x hx 5 _ rfl);have HC : ∀ w : World, Hid (Calls Tryz.prog 129 #[.int .i64 x.off, .int .i64 off] w fun e w' => e = .returned (.int .i64 (-1)) ∧ w = w') := fun w => by
    have := ZmJ (w := w) (a := x.off) (b := off);rw [show ZoB (x.off : Int) (off : Int) = -1 by unfold ZoB; rw [if_pos (by omega)]] at this
    exact this
   clear hxo
   go_wp2_with (first | (go_at_call 129; refine (HC _).out.mono ?_; rintro e w1 ⟨rfl, rfl⟩) | go_in)
   exact ⟨⟨m + 1, hi, by omega, rfl, by go_num, rfl, (HO.out.alloc _)⟩, by simp [intOf]; omega⟩
  ·obtain rfl : lo = hi := by omega
   go_wp2;go_ret2;rw [hN];exact ⟨rfl, HO.out⟩
theorem ZkJ {w : World} {off : Nat} :
 Calls Tryz.prog 127 #[.slice none 0 0, .int .i64 ((off : Nat) : Int), .func (.func 128) #[] #[]] w fun e w' => e = .returned (.tuple #[.int .i64 0, .bool false]) ∧ w = w' := by
 go_enter Tryz.func127, Tryz.ntmps127
 go_wp2
 go_loopw [9, 10] (fun l h wr => l = .int .i64 0 ∧ h = .int .i64 0 ∧ w = wr) (fun l h _ => 0)
 case atStart => exact ⟨rfl, rfl, rfl⟩
 case round =>
  obtain ⟨rfl, rfl, rfl⟩ := hrel;go_wp2;go_ret2;exact ⟨rfl, rfl⟩
theorem Zq2 {w : World} {g c : Nat} {t : Ent} {es : List Ent} (h : ∀ i e, es[i]? = some e → ∀ j u, e.cells[j]? = some u → w.cell? ⟨g, i * 6 + j, none⟩ = some u) (hn : es.length ≤ 1000) (hlt : ∀ e ∈ es, e.seq < t.seq) :
 Calls Tryz.prog 131 #[.slice (some ⟨g, 0, none⟩) es.length c, t.val, .func (.func 132) #[] #[]] w fun e w' => e = .returned (.tuple #[.int .i64 0, .bool false]) ∧ Old w w' := by
 have HE := Lib.hid h;have HL := Lib.hid hlt;clear h hlt
 go_enter Tryz.func131, Tryz.ntmps131
 unfold Ent.val;go_wp2;have HT := Lib.hid (Has.new w 111 #[.int .i64 ((t.seq : Nat) : Int), .string t.key, .bool t.del, .int .i64 ((t.slot : Nat) : Int), .int .i64 ((t.off : Nat) : Int), .int .i64 ((t.size : Nat) : Int)]);have HO := Lib.hid ((Upd.refl (fun _ => False) w).alloc (.cells #[.int .i64 ((t.seq : Nat) : Int), .string t.key, .bool t.del, .int .i64 ((t.slot : Nat) : Int), .int .i64 ((t.off : Nat) : Int), .int .i64 ((t.size : Nat) : Int)] 111))
 generalize hW : World.alloc w _ = W at HT HO ⊢;clear hW;generalize hN : es.length = n at *
 go_loopw [9, 10] (fun l h wr => ∃ hi : Nat, hi ≤ n ∧ l = .int .i64 0 ∧ h = .int .i64 hi ∧ Old W wr) (fun l h _ => (intOf h).toNat - (intOf l).toNat)
 case atStart => exact ⟨n, Nat.le_refl _, rfl, rfl, Upd.refl _ W⟩
 case round =>
  obtain ⟨hi, hhn, rfl, rfl, hO⟩ := hrel;have t0 : wr.cell? ⟨w.heap.size, 0, none⟩ = some (.int .i64 ((t.seq : Nat) : Int)) := Old.cellOf' hO (HT.out.cell 0);have t1 : wr.cell? ⟨w.heap.size, 1, none⟩ = some (.string t.key) := Old.cellOf' hO (HT.out.cell 1);have t2 : wr.cell? ⟨w.heap.size, 2, none⟩ = some (.bool t.del) := Old.cellOf' hO (HT.out.cell 2);have t3 : wr.cell? ⟨w.heap.size, 3, none⟩ = some (.int .i64 ((t.slot : Nat) : Int)) := Old.cellOf' hO (HT.out.cell 3);have t4 : wr.cell? ⟨w.heap.size, 4, none⟩ = some (.int .i64 ((t.off : Nat) : Int)) := Old.cellOf' hO (HT.out.cell 4);have t5 : wr.cell? ⟨w.heap.size, 5, none⟩ = some (.int .i64 ((t.size : Nat) : Int)) := Old.cellOf' hO (HT.out.cell 5)
  by_cases hlt : 0 < hi
  ·have g1 : IntKind.i64.wrap (hi : Int) = (hi : Int) := IntWalk.i64_in _ (by omega)
   have hm2 : hi / 2 < hi := by omega
   have g2 : ((hi : Int)) / 2 = ((hi / 2 : Nat) : Int) := by omega
   generalize hi / 2 = m at *
   have g4 : (m : Int) < (n : Int) := by omega
   obtain ⟨x, hx⟩ : ∃ x, es[m]? = some x := ⟨es[m]'(by omega), List.getElem?_eq_getElem _⟩
   have HNW := Lib.hid (fun w' : World => ZjF (w := w') (HL.out x (List.mem_of_getElem? hx)))
   unfold Ent.val at HNW;have c0 : wr.cell? ⟨g, m * 6, none⟩ = some (.int .i64 ((x.seq : Nat) : Int)) := Old.cellOf' hO (Old.cellOf' HO.out (HE.out m x hx 0 _ rfl));have c1 := Old.cellOf' hO (Old.cellOf' HO.out (HE.out m x hx 1 _ rfl));have c2 := Old.cellOf' hO (Old.cellOf' HO.out (HE.out m x hx 2 _ rfl));have c3 := Old.cellOf' hO (Old.cellOf' HO.out (HE.out m x hx 3 _ rfl));have c4 := Old.cellOf' hO (Old.cellOf' HO.out (HE.out m x hx 4 _ rfl));have c5 := Old.cellOf' hO (Old.cellOf' HO.out (HE.out m x hx 5 _ rfl));have HR := Lib.hid hO;clear hO;go_wp2
   go_still_tail 6, (by kernel_rfl)
   change wpList _ _ _ _ _ wr.drew
   go_wp2_with (first | (go_at_call 132; refine (HNW.out _).mono ?_; rintro e w1 ⟨rfl, hO1⟩))
   exact ⟨⟨m, by omega, rfl, rfl, HR.out.drew.trans hO1⟩, by simp [intOf]; omega⟩
  ·obtain rfl : hi = 0 := by omega
   by_cases hn0 : 0 < n
   ·obtain ⟨x, hx⟩ : ∃ x, es[0]? = some x := ⟨es[0]'(by omega), List.getElem?_eq_getElem _⟩
    have HNW := Lib.hid (fun w' : World => ZjF (w := w') (HL.out x (List.mem_of_getElem? hx)))
    unfold Ent.val at HNW;have c0 : wr.cell? ⟨g, 0, none⟩ = some (.int .i64 ((x.seq : Nat) : Int)) := Old.cellOf' hO (Old.cellOf' HO.out (HE.out 0 x hx 0 _ rfl));have c1 : wr.cell? ⟨g, 1, none⟩ = some (.string x.key) := Old.cellOf' hO (Old.cellOf' HO.out (HE.out 0 x hx 1 _ rfl));have c2 : wr.cell? ⟨g, 2, none⟩ = some (.bool x.del) := Old.cellOf' hO (Old.cellOf' HO.out (HE.out 0 x hx 2 _ rfl));have c3 : wr.cell? ⟨g, 3, none⟩ = some (.int .i64 ((x.slot : Nat) : Int)) := Old.cellOf' hO (Old.cellOf' HO.out (HE.out 0 x hx 3 _ rfl));have c4 : wr.cell? ⟨g, 4, none⟩ = some (.int .i64 ((x.off : Nat) : Int)) := Old.cellOf' hO (Old.cellOf' HO.out (HE.out 0 x hx 4 _ rfl));have c5 : wr.cell? ⟨g, 5, none⟩ = some (.int .i64 ((x.size : Nat) : Int)) := Old.cellOf' hO (Old.cellOf' HO.out (HE.out 0 x hx 5 _ rfl));have HR := Lib.hid hO;clear hO;go_wp2
    go_region_held3 (fun x' => x'.cell? ⟨g, 0, none⟩ = some (.int .i64 ((x.seq : Nat) : Int)) ∧ x'.cell? ⟨g, 1, none⟩ = some (.string x.key) ∧ x'.cell? ⟨g, 2, none⟩ = some (.bool x.del) ∧ x'.cell? ⟨g, 3, none⟩ = some (.int .i64 ((x.slot : Nat) : Int)) ∧ x'.cell? ⟨g, 4, none⟩ = some (.int .i64 ((x.off : Nat) : Int)) ∧ x'.cell? ⟨g, 5, none⟩ = some (.int .i64 ((x.size : Nat) : Int)) ∧ x'.cell? ⟨w.heap.size, 0, none⟩ = some (.int .i64 ((t.seq : Nat) : Int)) ∧ x'.cell? ⟨w.heap.size, 1, none⟩ = some (.string t.key) ∧ x'.cell? ⟨w.heap.size, 2, none⟩ = some (.bool t.del) ∧ x'.cell? ⟨w.heap.size, 3, none⟩ = some (.int .i64 ((t.slot : Nat) : Int)) ∧ x'.cell? ⟨w.heap.size, 4, none⟩ = some (.int .i64 ((t.off : Nat) : Int)) ∧ x'.cell? ⟨w.heap.size, 5, none⟩ = some (.int .i64 ((t.size : Nat) : Int)))
     (first | go_keep | (exact ⟨Old.cellOf' hO1 c0, Old.cellOf' hO1 c1, Old.cellOf' hO1 c2, Old.cellOf' hO1 c3, Old.cellOf' hO1 c4, Old.cellOf' hO1 c5, Old.cellOf' hO1 t0, Old.cellOf' hO1 t1, Old.cellOf' hO1 t2, Old.cellOf' hO1 t3, Old.cellOf' hO1 t4, Old.cellOf' hO1 t5⟩))
     (first | (go_at_call 132; refine (HNW.out _).mono ?_; rintro e w1 ⟨rfl, hO1⟩))
    all_goals
     go_wp2;go_ret2;exact ⟨rfl, (HO.out.trans HR.out).drew.trans hO1⟩
   ·obtain rfl : n = 0 := by omega
    have HR := Lib.hid hO;clear hO;go_wp2
    go_quiet (fail)
    go_wp2;go_ret2;exact ⟨rfl, (HO.out.trans HR.out).drewN _⟩
theorem ZkK {w : World} {t : Ent} :
 Calls Tryz.prog 131 #[.slice none 0 0, t.val, .func (.func 132) #[] #[]] w fun e w' => e = .returned (.tuple #[.int .i64 0, .bool false]) ∧ Old w w' := by
 go_enter Tryz.func131, Tryz.ntmps131
 unfold Ent.val;go_wp2;have HO := Lib.hid ((Upd.refl (fun _ => False) w).alloc (.cells #[.int .i64 ((t.seq : Nat) : Int), .string t.key, .bool t.del, .int .i64 ((t.slot : Nat) : Int), .int .i64 ((t.off : Nat) : Int), .int .i64 ((t.size : Nat) : Int)] 111))
 generalize hW : World.alloc w _ = W at HO ⊢;clear hW
 go_loopw [9, 10] (fun l h wr => l = .int .i64 0 ∧ h = .int .i64 0 ∧ W = wr) (fun l h _ => 0)
 case atStart => exact ⟨rfl, rfl, rfl⟩
 case round =>
  obtain ⟨rfl, rfl, rfl⟩ := hrel;go_wp2
  go_quiet (fail)
  go_wp2;go_ret2;exact ⟨rfl, HO.out.drewN _⟩
theorem ZkL {w : World} {v : Value} {off : Nat} {es : List Ent} (h : Zcu w v es) (hn : es.length ≤ 1000) (hlt : ∀ e ∈ es, e.off < off) :
 Calls Tryz.prog 127 #[v, .int .i64 ((off : Nat) : Int), .func (.func 128) #[] #[]] w fun e w' => e = .returned (.tuple #[.int .i64 ((es.length : Nat) : Int), .bool false]) ∧ Old w w' := by
 rcases h with ⟨rfl, rfl⟩ | ⟨g, c, rfl, h⟩
 ·exact ZkJ.mono fun e w' ⟨h1, h2⟩ => ⟨h1, h2 ▸ Upd.refl _ _⟩
 ·exact Zq1 h hn hlt
theorem ZkM {w : World} {v : Value} {t : Ent} {es : List Ent} (h : Zcu w v es) (hn : es.length ≤ 1000) (hlt : ∀ e ∈ es, e.seq < t.seq) :
 Calls Tryz.prog 131 #[v, t.val, .func (.func 132) #[] #[]] w fun e w' => e = .returned (.tuple #[.int .i64 0, .bool false]) ∧ Old w w' := by
 rcases h with ⟨rfl, rfl⟩ | ⟨g, c, rfl, h⟩
 ·exact ZkK
 ·exact Zq2 h hn hlt
structure EntOk1 (e : Ent) : Prop where
 key : ZhM e.key
 s1 : 1 ≤ e.seq
 s2 : e.seq ≤ 1099511627776
 z1 : 16 + e.key.size ≤ e.size
 z2 : e.size = 16 + e.key.size ∨ e.del = false
 z3 : e.off + e.size ≤ 8192
theorem Zq3 {w : World} {e : Ent} (h : EntOk1 e) :
 Calls Tryz.prog 125 #[e.val] w fun en w' => en = .returned (.bool true) ∧ Old w w' := by
 obtain ⟨hk, s1, s2, z1, z2, z3⟩ := h;have HK := Lib.hid (fun w : World => Ze6 (w := w) hk.1 hk.2.1 hk.2.2)
 have k2 := hk.2.1;clear hk;obtain ⟨seq, key, del, slot, off, size⟩ := e;unfold Ent.val;simp only at *
 have E : Hid (∀ w' : World, Old (w.alloc (.cells #[.int .i64 ((seq : Nat) : Int), .string key, .bool del, .int .i64 ((slot : Nat) : Int), .int .i64 ((off : Nat) : Int), .int .i64 ((size : Nat) : Int)] 111)) w' → w'.cell? ⟨w.heap.size, 0, none⟩ = some (.int .i64 ((seq : Nat) : Int)) ∧ w'.cell? ⟨w.heap.size, 1, none⟩ = some (.string key) ∧ w'.cell? ⟨w.heap.size, 2, none⟩ = some (.bool del) ∧ w'.cell? ⟨w.heap.size, 4, none⟩ = some (.int .i64 ((off : Nat) : Int)) ∧ w'.cell? ⟨w.heap.size, 5, none⟩ = some (.int .i64 ((size : Nat) : Int)) ∧ Old w w') :=
  fun w' O => ⟨Old.cellOf' O (by simp), Old.cellOf' O (by simp), Old.cellOf' O (by simp), Old.cellOf' O (by simp), Old.cellOf' O (by simp), ((Upd.refl _ w).alloc _).trans O⟩
 have hb : (decide ((size : Int) = 16 + (key.size : Int)) || !del) = true := by
  rcases z2 with h | rfl
  ·simp; left; omega
  ·simp
 go_enter Tryz.func125, Tryz.ntmps125
 go_wp2_with (first | (go_at_call 174; refine (HK.out _).mono ?_; rintro e w1 ⟨rfl, hO⟩; obtain ⟨c0, c1, c2, c4, c5, hO1⟩ := E.out _ hO; have HO := Lib.hid hO1; clear hO hO1))
 ·go_ret;refine ⟨congrArg Ending.returned (congrArg Value.bool ?_), HO.out⟩;simp; omega
 ·exfalso;rcases z2 with h | h
  ·omega
  ·simp_all
 ·go_ret;refine ⟨congrArg Ending.returned (congrArg Value.bool ?_), HO.out⟩;simp; omega
end Go.M
