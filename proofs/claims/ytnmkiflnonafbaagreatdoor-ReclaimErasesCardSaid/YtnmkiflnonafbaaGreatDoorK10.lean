/- Walks 10. -/
import Derived.Test.YtnmkiflnonafbaaGreatDoorProg
import Derived.Test.YtnmkiflnonafbaaGreatDoorK9
import Derived.Test.YtnmkiflnonafbaaGreatDoorK5
import Derived.RangeFuncNested
import Derived.RangeFuncBound
import Derived.RangeFuncCalls
import Derived.RangeFuncLeaves
import Derived.RangeFuncBox
import Derived.Shelf.Abstract
import Derived.Shelf.RegionOpen
import Derived.OwnWalkIn
import Derived.TacticsInMore
import Derived.LoopNIn
import Derived.LoopIn
import Derived.Deep.RegionWith
import Derived.Test.YtnmkiflnonafbaaGreatDoorK6
import Derived.Maps.AppendAt
set_option linter.unusedVariables false
set_option linter.unusedSimpArgs false
set_option maxRecDepth 100000
namespace Go.M
open Go.Proofs Go.RowKit
theorem Zkh {w : World} {P : Nat} :
 Calls Tryz.prog 201 #[.slice none 0 0, .func (.func 202) #[] #[.pointer (some ⟨P, 0, none⟩)]] w fun e w' => e = .returned (.int .i64 0) ∧ w = w' := by
 go_enter Tryz.func201, Tryz.ntmps201
 go_wp2
 go_loopw [5, 6] (fun l h wr => l = .int .i64 0 ∧ h = .int .i64 0 ∧ w = wr) (fun l h _ => 0)
 case atStart => exact ⟨rfl, rfl, rfl⟩
 case round =>
  obtain ⟨rfl, rfl, rfl⟩ := hrel;go_wp2;go_ret;exact ⟨rfl, rfl⟩
theorem ZlR {w : World} {O : Nat} {k : ByteArray} (h0 : w.cell? ⟨O, 0, none⟩ = some (.bool true)) (h1 : w.cell? ⟨O, 1, none⟩ = some (.slice none 0 0)) :
 Calls Tryz.prog 158 #[.pointer (some ⟨O, 0, none⟩), .string k] w fun e w' => e = .returned (.int .i64 0) ∧ Old w w' := by
 have O1 : Old w (w.alloc (.cells #[.string k] 9)) := (Upd.refl _ w).alloc _;have HI := Lib.hid (Zeb (Old.cellOf' O1 h0) (Old.cellOf' O1 h1));have HO := Lib.hid O1;clear O1 h0 h1
 go_enter Tryz.func158, Tryz.ntmps158
 go_wp2_with (first | (go_at_call 191; refine HI.out.mono ?_; rintro e w1 ⟨rfl, rfl⟩) | (go_at_call 201; refine Zkh.mono ?_; rintro e w2 ⟨rfl, rfl⟩))
 go_ret;exact ⟨rfl, HO.out⟩
theorem Zhj {w : World} {O : Nat} {k : ByteArray} (h0 : w.cell? ⟨O, 0, none⟩ = some (.bool true)) (h1 : w.cell? ⟨O, 1, none⟩ = some (.slice none 0 0)) :
 Calls Tryz.prog 150 #[.pointer (some ⟨O, 0, none⟩), .string k] w fun e w' => e = .returned (.tuple #[.int .i64 0, .bool false]) ∧ Old w w' := by
 have HI := Lib.hid (fun (w' : World) (U : Old w w') => Zeb (Old.cellOf' U h0) (Old.cellOf' U h1))
 have HR := Lib.hid (ZlR (k := k) h0 h1);clear h0 h1
 go_enter Tryz.func150, Tryz.ntmps150
 go_wp2_with (first | (go_at_call 158; refine HR.out.mono ?_; rintro e w1 ⟨rfl, hO⟩; have HO := Lib.hid hO; clear hO) | (go_at_call 191; refine (HI.out _ HO.out).mono ?_; rintro e w2 ⟨rfl, rfl⟩))
 go_quiet (fail)
 go_wp2;go_ret2;exact ⟨rfl, HO.out.drewN _⟩
def Zqu (w : World) (n : Nat) (k : ByteArray) (key : Nat → ByteArray) (e : Ending) (w' : World) : Prop := ∃ (r : Nat) (b : Bool), r ≤ n ∧ e = .returned (.tuple #[.int .i64 ((r : Nat) : Int), .bool b]) ∧ (b = true ↔ r < n ∧ key r = k) ∧ (∀ i, i < r → Zah (key i) k = true) ∧ (∀ i, r ≤ i → i < n → Zah (key i) k = false) ∧ Old w w'
def Zao (n : Nat) (key : Nat → ByteArray) (val : Nat → Value) : List Value := (List.range n).flatMap fun i => [.string (key i), val i]
structure OMap (w : World) (O : Nat) (mv : Value) (n : Nat) (key : Nat → ByteArray) (val : Nat → Value) : Prop where
 made : ∃ t, Has w O t #[.bool true, mv]
 own : w.ownsRow 0 216 2 mv n (Zao n key val)
 sorted : ∀ k i j, i ≤ j → j < n → Zah (key j) k = true → Zah (key i) k = true
 few : n ≤ 1000
theorem ZaK (n : Nat) (key : Nat → ByteArray) (val : Nat → Value) : (Zao n key val).length = n * 2 := by
 induction n with
 | zero => rfl
 | succ n ih => simp only [Zao, List.range_succ, List.flatMap_append, List.length_append] at ih ⊢; rw [ih]; simp; omega
theorem ZaA {n : Nat} {key : Nat → ByteArray} {val : Nat → Value} {i : Nat} (h : i < n) : (Zao n key val)[i * 2]? = some (.string (key i)) ∧ (Zao n key val)[i * 2 + 1]? = some (val i) := by
 induction n with
 | zero => omega
 | succ n ih =>
  have hl := ZaK n key val;have he : Zao (n + 1) key val = Zao n key val ++ [.string (key n), val n] := by simp [Zao, List.range_succ]
  rw [he]
  by_cases hi : i < n
  ·rw [List.getElem?_append_left (by omega), List.getElem?_append_left (by omega)]
   exact ih hi
  ·obtain rfl : i = n := by omega
   rw [List.getElem?_append_right (by omega), List.getElem?_append_right (by omega), hl]
   simp
theorem OMap.at {w : World} {O : Nat} {mv : Value} {n : Nat} {key : Nat → ByteArray} {val : Nat → Value} (h : OMap w O mv n key val) :
 (mv = .slice none 0 0 ∧ n = 0 ∧ w.cell? ⟨O, 0, none⟩ = some (.bool true) ∧ w.cell? ⟨O, 1, none⟩ = some (.slice none 0 0)) ∨ ∃ B c, mv = .slice (some ⟨B, 0, none⟩) n c ∧ MapAt w O B n c key val := by
 obtain ⟨⟨t, hO⟩, own, hs, hf⟩ := h;rcases own.2 with ⟨h1, h2⟩ | ⟨g, c, cur, h1, _⟩
 ·exact .inl ⟨h1, h2, hO.cell 0, by rw [hO.cell 1, h1]; rfl⟩
 ·refine .inr ⟨g, c, h1, hO.cell 0, by rw [hO.cell 1, h1]; rfl, fun i hi => ?_, fun i hi => ?_, hs, by omega⟩
  ·have := own.cells (g := g) (by rw [h1]; rfl) _ _ (ZaA (key := key) (val := val) hi).1
   rwa [show (⟨g, 0, none⟩ : Addr).add (i * 2) = ⟨g, i * 2, none⟩ from by unfold Addr.add; split <;> simp_all] at this
  ·have := own.cells (g := g) (by rw [h1]; rfl) _ _ (ZaA (key := key) (val := val) hi).2
   rwa [show (⟨g, 0, none⟩ : Addr).add (i * 2 + 1) = ⟨g, i * 2 + 1, none⟩ from by unfold Addr.add; split <;> simp_all] at this
theorem Zni {w : World} {O : Nat} {mv : Value} {n : Nat} {k : ByteArray} {key : Nat → ByteArray} {val : Nat → Value} (h : OMap w O mv n key val) :
 Calls Tryz.prog 150 #[.pointer (some ⟨O, 0, none⟩), .string k] w (Zqu w n k key) := by
 rcases h.at with ⟨rfl, rfl, h0, h1⟩ | ⟨B, c, rfl, hM⟩
 ·exact (Zhj h0 h1).mono fun e w' ⟨h2, h3⟩ => ⟨0, false, Nat.le_refl _, h2, by simp, fun i hi => by omega, fun i h1 h2 => by omega, h3⟩
 ·exact Zq0 hM
theorem ZeQ {w : World} {O : Nat} {mv : Value} {n : Nat} {k : ByteArray} {key : Nat → ByteArray} {val : Nat → Value} (h : OMap w O mv n key val) :
 Calls Tryz.prog 98 #[.pointer (some ⟨O, 0, none⟩), .string k] w (ZmH w n k key val) := by
 rcases h.at with ⟨rfl, rfl, h0, h1⟩ | ⟨B, c, rfl, hM⟩
 ·have HF := Lib.hid (Zhj (k := k) h0 h1);clear h h0 h1
  go_enter Tryz.func98, Tryz.ntmps98
  go_wp2_with (first | (go_at_call 150; refine HF.out.mono ?_; rintro e w1 ⟨rfl, hO⟩; have HO := Lib.hid hO; clear hO))
  go_ret2;exact ⟨0, Nat.le_refl _, fun i hi => by omega, fun i h1 h2 => by omega, HO.out, .inr ⟨fun h => by omega, rfl⟩⟩
 ·exact ZrV hM
theorem Znj {w : World} {O B n c r vn vc : Nat} {va : Option Addr} {k : ByteArray} {key : Nat → ByteArray} {val : Nat → Value} {t : TypeId} {cur : Array Value} (h : MapAt w O B n c key val) (hB : Has w B t cur) (hr : r < n) (hk : key r = k)
 (hF : Calls Tryz.prog 150 #[.pointer (some ⟨O, 0, none⟩), .string k] w fun e w2 => e = .returned (.tuple #[.int .i64 ((r : Nat) : Int), .bool true]) ∧ Old w w2) :
 Calls Tryz.prog 89 #[.pointer (some ⟨O, 0, none⟩), .string k, .slice va vn vc] w fun e w' => e = .returned (.tuple #[val r, .bool true, .int .i64 0]) ∧ ∃ w1, Old w w1 ∧ Old (w1.setCell ⟨B, r * 2 + 1, none⟩ (.slice va vn vc)) w' := by
 have HF := Lib.hid hF;have E : Hid (∀ w', Old w w' → w'.cell? ⟨O, 0, none⟩ = some (.bool true) ∧ w'.cell? ⟨O, 1, none⟩ = some (.slice (some ⟨B, 0, none⟩) n c) ∧ w'.cell? ⟨B, r * 2, none⟩ = some (.string k) ∧ w'.cell? ⟨B, r * 2 + 1, none⟩ = some (val r) ∧ w'.frozen? ⟨B, r * 2 + 1, none⟩ = false) :=
  fun w' U => ⟨Old.cellOf' U h.made, Old.cellOf' U h.list, by rw [← hk]; exact Old.cellOf' U (h.ks r hr), Old.cellOf' U (h.vs r hr), (U.has hB).frozen _⟩
 obtain ⟨c0, -⟩ := E.out _ (Upd.refl _ _);clear hF h hB;have g1 : (r : Int) < (n : Int) := by omega
 go_enter Tryz.func89, Tryz.ntmps89
 go_wp2_with (first | (go_at_call 150; refine HF.out.mono ?_; rintro e w1 ⟨rfl, hO⟩; obtain ⟨d0, d1, d2, d3, d4⟩ := E.out _ hO; have HO := Lib.hid hO; clear hO))
 go_still_tail 17, (by kernel_rfl)
 change wpList _ _ _ _ _ w1.drew;go_wp2;refine bodyPost_ret (results_tmp3 rfl _ _ _) rfl ?_;exact ⟨rfl, w1.drew, HO.out.drew, Upd.refl _ _⟩
theorem Znk {w : World} {O n r vn vc : Nat} {va : Option Addr} {mv : Value} {k : ByteArray} {xs : List Value} {t : TypeId} (hO : Has w O t #[.bool true, mv]) (own : w.ownsRow 0 216 2 mv n xs) (hx1 : ∀ u ∈ xs, u.oneCell' = true) (hn : n ≤ 1000) (hr : r ≤ n) (hag : mv.ownBlock ≠ some O)
 (hF : Calls Tryz.prog 150 #[.pointer (some ⟨O, 0, none⟩), .string k] w fun e w2 => e = .returned (.tuple #[.int .i64 ((r : Nat) : Int), .bool false]) ∧ Old w w2) :
 Calls Tryz.prog 89 #[.pointer (some ⟨O, 0, none⟩), .string k, .slice va vn vc] w fun e w' => e = .returned (.tuple #[.slice none 0 0, .bool false, .int .i64 0]) ∧ ∃ w1 v', Upd (fun b => mv.ownBlock = some b) w w1 ∧ w1.ownsRow 0 216 2 v' (n + 1) (xs.take (r * 2) ++ [.string k, .slice va vn vc] ++ xs.drop (r * 2)) ∧ (∀ b, v'.ownBlock = some b → mv.ownBlock = some b ∨ w.heap.size ≤ b) ∧ w' = w1.setCell ⟨O, 1, none⟩ v' := by
 have HF := Lib.hid hF;have HO := Lib.hid hO;have HW := Lib.hid own;clear hF hO own;have c0 : w.cell? ⟨O, 0, none⟩ = some (.bool true) := HO.out.cell 0;have hOl := HO.out.lt;have HI : ∀ w' : World, Old w w' → Hid (Calls Tryz.prog 151 #[mv, .int .i64 ((r : Nat) : Int), .slice (some ⟨w'.heap.size, 0, none⟩) 1 1] (w'.alloc (.cells #[.string k, .slice va vn vc] 216)) (ZbW (w'.alloc (.cells #[.string k, .slice va vn vc] 216)) mv 216 2 (n + 1) (xs.take (r * 2) ++ [.string k, .slice va vn vc] ++ xs.drop (r * 2)))) := by
  intro w' U;refine Zr6 (Upd.own (U.alloc _) HW.out (fun _ _ x => x)) rfl ?_ ?_ hx1 hn hr (Has.new _ _ _) ?_
  ·intro j u hj;rw [show (⟨w'.heap.size, 0, none⟩ : Addr).add j = ⟨w'.heap.size, j, none⟩ from by unfold Addr.add; split <;> simp_all]
   rw [(Has.new w' 216 #[.string k, .slice va vn vc]).cell j];simpa using hj
  ·intro u hu;simp at hu;rcases hu with rfl | rfl <;> rfl
  ·intro h;have := (HW.out.lt _ h).2;have := U.size;omega
 go_enter Tryz.func89, Tryz.ntmps89
 go_wp2_with (first | (go_at_call 150; refine HF.out.mono ?_; rintro e w1 ⟨rfl, hU⟩; have d1 : w1.cell? ⟨O, 1, none⟩ = some mv := Old.cellOf' hU (HO.out.cell 1); have HI1 := HI _ hU; have HU := Lib.hid hU; clear hU HI HF) | (go_at_call 151; refine HI1.out.mono ?_; rintro e w2 ⟨v', rfl, hown, hU2, hfr⟩; have e3 := (hU2.has (Has.alloc (HU.out.has HO.out) _) hag).frozen 1; have e4 : w2.cell? ⟨O, 1, none⟩ = some mv := (hU2.has (Has.alloc (HU.out.has HO.out) _) hag).cell 1; obtain ⟨va', vc', rfl⟩ := Zac hown; have HW2 := Lib.hid hown; have HU2 := Lib.hid hU2; have HFR := Lib.hid hfr; clear hown hU2 hfr))
 refine bodyPost_ret (results_tmp3 rfl _ _ _) rfl ?_;refine ⟨rfl, w2, _, (Upd.mono (HU.out.alloc _) (G := fun b => mv.ownBlock = some b) (fun _ _ x => x.elim)).trans HU2.out, HW2.out, fun b hb => ?_, rfl⟩
 rcases HFR.out b hb with h | h
 ·exact .inl h
 ·have := HU.out.size;simp at h;exact .inr (by omega)
theorem Zbu (a b : UInt8) (x y : List UInt8) : Op.bytesLess (a :: x) (b :: y) = true ↔ a.toNat < b.toNat ∨ (a.toNat = b.toNat ∧ Op.bytesLess x y = true) := by
 simp only [Op.bytesLess, Bool.or_eq_true, Bool.and_eq_true, decide_eq_true_eq, beq_iff_eq, UInt8.lt_iff_toNat_lt, ← UInt8.toNat_inj]
theorem Zc1 : ∀ (a b c : List UInt8), Op.bytesLess b a = false → Op.bytesLess b c = true → Op.bytesLess a c = true
 | a, b, [], h1, h2 => by cases b <;> simp [Op.bytesLess] at h2
 | [], b, c :: y, h1, h2 => by simp [Op.bytesLess]
 | a :: x, [], c :: y, h1, h2 => by simp [Op.bytesLess] at h1
 | a :: x, b :: z, c :: y, h1, h2 => by
  have ih := Zc1 x z y;rw [Zbu] at h2 ⊢;have h1' : ¬ (b.toNat < a.toNat ∨ (b.toNat = a.toNat ∧ Op.bytesLess z x = true)) := by rw [← Zbu, h1]; simp
  have hz : Op.bytesLess z x = false ∨ Op.bytesLess z x = true := by cases Op.bytesLess z x <;> simp
  rcases h2 with h2 | ⟨h2, h3⟩
  ·exact .inl (by omega)
  ·by_cases he : b.toNat = a.toNat
   ·rcases hz with hz | hz
    ·exact .inr ⟨by omega, ih hz h3⟩
    ·exact absurd (.inr ⟨he, hz⟩) h1'
   ·exact .inl (by omega)
theorem Zc2 : ∀ (a b : List UInt8), Op.bytesLess a b = true → Op.bytesLess b a = false
 | a, [], h => by cases a <;> simp [Op.bytesLess] at h
 | [], b :: y, h => by simp [Op.bytesLess]
 | a :: x, b :: y, h => by
  have ih := Zc2 x y;rw [Zbu] at h;rw [Bool.eq_false_iff, Ne, Zbu];intro h2;rcases h with h | ⟨h, h3⟩
  ·omega
  ·rcases h2 with h2 | ⟨h2, h4⟩
   ·omega
   ·rw [ih h3] at h4;cases h4
theorem Zhk : ∀ (a b : List UInt8), Op.bytesLess a b = false → Op.bytesLess b a = false → a = b
 | [], [], _, _ => rfl
 | [], b :: y, h, _ => by simp [Op.bytesLess] at h
 | a :: x, [], _, h => by simp [Op.bytesLess] at h
 | a :: x, b :: y, h1, h2 => by
  have h1' : ¬ (a.toNat < b.toNat ∨ (a.toNat = b.toNat ∧ Op.bytesLess x y = true)) := by rw [← Zbu, h1]; simp
  have h2' : ¬ (b.toNat < a.toNat ∨ (b.toNat = a.toNat ∧ Op.bytesLess y x = true)) := by rw [← Zbu, h2]; simp
  have e : a.toNat = b.toNat := by omega
  have ih := Zhk x y (by cases hq : Op.bytesLess x y; rfl; exact absurd (.inr ⟨e, hq⟩) h1') (by cases hq : Op.bytesLess y x; rfl; exact absurd (.inr ⟨e.symm, hq⟩) h2')
  rw [ih, UInt8.toNat_inj.1 e]
theorem ZaB (a : ByteArray) : Zah a a = false := by
 cases h : Zah a a with
 | false => rfl
 | true => exact (Zc2 _ _ h).symm.trans h |>.symm ▸ rfl
theorem Zdo {a b : ByteArray} (h1 : Zah a b = false) (h2 : Zah b a = false) : a = b := (ZmG a b).1 (Zhk _ _ h1 h2)
theorem Znl {a b c : ByteArray} (h1 : Zah b a = false) (h2 : Zah b c = true) : Zah a c = true := Zc1 _ _ _ h1 h2
theorem ZeR {a b c : ByteArray} (h1 : Zah a b = true) (h2 : Zah b c = true) : Zah a c = true := Zc1 _ _ _ (Zc2 _ _ h1) h2
def ZbC {α : Type} (r : Nat) (x : α) (f : Nat → α) : Nat → α := fun i => if i < r then f i else if i = r then x else f (i - 1)
theorem ZaO (n : Nat) (key : Nat → ByteArray) (val : Nat → Value) : Zao (n + 1) key val = Zao n key val ++ [.string (key n), val n] := by simp [Zao, List.range_succ]
theorem Zdp {n : Nat} {key key' : Nat → ByteArray} {val val' : Nat → Value} (h : ∀ i, i < n → key i = key' i ∧ val i = val' i) : Zao n key val = Zao n key' val' := by
 induction n with
 | zero => rfl
 | succ n ih => rw [ZaO, ZaO, ih (fun i hi => h i (by omega)), (h n (by omega)).1, (h n (by omega)).2]
theorem Zij {n r : Nat} (hr : r ≤ n) (key : Nat → ByteArray) (val : Nat → Value) (k : ByteArray) (v : Value) :
 (Zao n key val).take (r * 2) ++ [.string k, v] ++ (Zao n key val).drop (r * 2) = Zao (n + 1) (ZbC r k key) (ZbC r v val) := by
 induction n with
 | zero =>
  obtain rfl : r = 0 := by omega
  simp [Zao, ZbC]
 | succ n ih =>
  have hl := ZaK n key val
  by_cases h : r = n + 1
  ·subst h;have hl2 := ZaK (n + 1) key val;rw [List.take_of_length_le (by omega), List.drop_eq_nil_of_le (by omega), List.append_nil, ZaO (n + 1)]
   have e1 : Zao (n + 1) (ZbC (n + 1) k key) (ZbC (n + 1) v val) = Zao (n + 1) key val := Zdp fun i hi => by simp [ZbC, hi]
   rw [e1];simp [ZbC]
  ·have hr' : r ≤ n := by omega
   rw [ZaO n key val, List.take_append_of_le_length (by omega), List.drop_append_of_le_length (by omega), ZaO (n + 1), ← ih hr']
   simp [ZbC, show ¬ n + 1 < r by omega, show ¬ n + 1 = r by omega]
theorem Zik {n r : Nat} (hr : r < n) (key : Nat → ByteArray) (val : Nat → Value) (v : Value) :
 (Zao n key val).set (r * 2 + 1) v = Zao n key (fun i => if i = r then v else val i) := by
 induction n with
 | zero => omega
 | succ n ih =>
  have hl := ZaK n key val;rw [ZaO, ZaO]
  by_cases h : r = n
  ·subst h;rw [List.set_append_right _ _ (by omega), hl, show r * 2 + 1 - r * 2 = 1 by omega]
   rw [Zdp (key' := key) (val' := fun i => if i = r then v else val i) (fun i hi => ⟨rfl, by rw [if_neg (by omega)]⟩)]
   simp
  ·rw [List.set_append_left _ _ (by omega), ih (by omega)]
   simp [show ¬ n = r by omega]
theorem Zki {n r : Nat} {key : Nat → ByteArray} {k : ByteArray} (hr : r ≤ n) (hs : ∀ k i j, i ≤ j → j < n → Zah (key j) k = true → Zah (key i) k = true)
 (ha : ∀ i, i < r → Zah (key i) k = true) (hb : ∀ i, r ≤ i → i < n → Zah (key i) k = false) : ∀ k' i j, i ≤ j → j < n + 1 → Zah (ZbC r k key j) k' = true → Zah (ZbC r k key i) k' = true := by
 intro k' i j hij hj h;unfold ZbC at h ⊢
 by_cases h1 : i < r
 ·rw [if_pos h1]
  by_cases h2 : j < r
  ·rw [if_pos h2] at h; exact hs k' i j hij (by omega) h
  ·rw [if_neg h2] at h
   by_cases h3 : j = r
   ·rw [if_pos h3] at h; exact ZeR (ha i h1) h
   ·rw [if_neg h3] at h; exact hs k' i (j - 1) (by omega) (by omega) h
 ·rw [if_neg h1];rw [if_neg (show ¬ j < r by omega)] at h
  by_cases h3 : i = r
  ·rw [if_pos h3]
   by_cases h4 : j = r
   ·rwa [if_pos h4] at h
   ·rw [if_neg h4] at h;exact Znl (hb (j - 1) (by omega) (by omega)) h
  ·rw [if_neg h3];rw [if_neg (show ¬ j = r by omega)] at h
   exact hs k' (i - 1) (j - 1) (by omega) (by omega) h
theorem Zhl {n : Nat} {key : Nat → ByteArray} {val : Nat → Value} (hv : ∀ i, i < n → (val i).oneCell' = true) : ∀ u ∈ Zao n key val, u.oneCell' = true := by
 intro u hu;simp only [Zao, List.mem_flatMap, List.mem_range] at hu;obtain ⟨i, hi, hu⟩ := hu;simp at hu;rcases hu with rfl | rfl
 ·rfl
 ·exact hv i hi
def Zo9 (w : World) (O n : Nat) (mv v : Value) (k : ByteArray) (key : Nat → ByteArray) (val : Nat → Value) (e : Ending) (w' : World) : Prop :=
 (∃ u b, e = .returned (.tuple #[u, b, .int .i64 0])) ∧ ∃ (mv' : Value) (n' : Nat) (key' : Nat → ByteArray) (val' : Nat → Value), OMap w' O mv' n' key' val' ∧ Upd (fun b => b = O ∨ mv.ownBlock = some b) w w' ∧
   (∀ b, mv'.ownBlock = some b → mv.ownBlock = some b ∨ w.heap.size ≤ b) ∧ n' ≤ n + 1 ∧ ∀ i, i < n' → (val' i = v ∧ key' i = k) ∨ ∃ j, j < n ∧ val' i = val j ∧ key' i = key j
theorem Zkj {w : World} {e : TypeId} {size n g c j : Nat} {xs : List Value} {u : Value} (own : w.ownsRow 0 e size (.slice (some ⟨g, 0, none⟩) n c) n xs) (hj : j < n * size) :
 (w.setCell ⟨g, j, none⟩ u).ownsRow 0 e size (.slice (some ⟨g, 0, none⟩) n c) n (xs.set j u) := by
 refine ⟨by rw [List.length_set]; exact own.1, ?_⟩
 rcases own.2 with ⟨h1, h2⟩ | ⟨g', cap, cur, h1, hb, hg, hnc, hcm, hcs, htk⟩
 ·cases h1
 ·refine .inr ⟨g', cap, cur.setIfInBounds j u, h1, hb, ?_, hnc, hcm, by simpa using hcs, ?_⟩
  ·have : g' = g := by
    injection h1 with h1 _ _;injection h1 with h1;injection h1 with h1;exact h1.symm
   subst this;exact Has.set (t := e) hg j u
  ·rw [Array.toList_setIfInBounds, List.take_set, htk]
theorem Zcb {key : Nat → ByteArray} {k : ByteArray} : ∀ n, (∀ i j, i ≤ j → j < n → Zah (key j) k = true → Zah (key i) k = true) → ∃ r, r ≤ n ∧ (∀ i, i < r → Zah (key i) k = true) ∧ (∀ i, r ≤ i → i < n → Zah (key i) k = false)
 | 0, _ => ⟨0, Nat.le_refl _, fun i h => by omega, fun i h1 h2 => by omega⟩
 | n + 1, hs => by
  obtain ⟨r, hr, ha, hb⟩ := Zcb n (fun i j h1 h2 => hs i j h1 (by omega))
  by_cases h : r = n
  ·subst h;cases hq : Zah (key r) k with
   | true => exact ⟨r + 1, Nat.le_refl _, fun i hi => by by_cases e : i = r; (· rw [e]; exact hq); (· exact ha i (by omega)), fun i h1 h2 => by omega⟩
   | false => exact ⟨r, by omega, ha, fun i h1 h2 => by by_cases e : i = r; (· rw [e]; exact hq); (· exact hb i h1 (by omega))⟩
  ·refine ⟨r, by omega, ha, fun i h1 h2 => ?_⟩
   by_cases e : i = n
   ·cases hq : Zah (key i) k with
    | false => rfl
    | true =>
     have := hs r i h1 (by omega) hq
     rw [hb r (Nat.le_refl _) (by omega)] at this
     cases this
   ·exact hb i h1 (by omega)
def ZdK (n : Nat) (k : ByteArray) (v : Value) (key : Nat → ByteArray) (val : Nat → Value) (n' : Nat) (key' : Nat → ByteArray) (val' : Nat → Value) : Prop :=
 ∃ r, r ≤ n ∧ (∀ i, i < r → Zah (key i) k = true) ∧ ((r < n ∧ key r = k ∧ n' = n ∧ key' = key ∧ val' = fun i => if i = r then v else val i) ∨ ((∀ i, i < n → key i ≠ k) ∧ n' = n + 1 ∧ key' = ZbC r k key ∧ val' = ZbC r v val))
def Znm (w : World) (O n : Nat) (mv v : Value) (k : ByteArray) (key : Nat → ByteArray) (val : Nat → Value) (e : Ending) (w' : World) : Prop :=
 (∃ u b, e = .returned (.tuple #[u, b, .int .i64 0])) ∧ ∃ (mv' : Value) (n' : Nat) (key' : Nat → ByteArray) (val' : Nat → Value), OMap w' O mv' n' key' val' ∧ Upd (fun b => b = O ∨ mv.ownBlock = some b) w w' ∧
   (∀ b, mv'.ownBlock = some b → mv.ownBlock = some b ∨ w.heap.size ≤ b) ∧ ZdK n k v key val n' key' val'
theorem ZeS {w : World} {O n vn vc : Nat} {va : Option Addr} {mv : Value} {k : ByteArray} {key : Nat → ByteArray} {val : Nat → Value} (h : OMap w O mv n key val) (hag : mv.ownBlock ≠ some O) (hv : ∀ i, i < n → (val i).oneCell' = true) (hn : n < 1000) :
 Calls Tryz.prog 89 #[.pointer (some ⟨O, 0, none⟩), .string k, .slice va vn vc] w (Znm w O n mv (.slice va vn vc) k key val) := by
 obtain ⟨t, hO⟩ := h.made;obtain ⟨r, hr, ha, hb⟩ := Zcb (key := key) (k := k) n (h.sorted k);have hF : ∀ b, (b = true ↔ r < n ∧ key r = k) → Calls Tryz.prog 150 #[.pointer (some ⟨O, 0, none⟩), .string k] w fun e w2 => e = .returned (.tuple #[.int .i64 ((r : Nat) : Int), .bool b]) ∧ Old w w2 := by
  intro b hbb;refine (Zni (k := k) h).mono ?_;rintro e w2 ⟨r', b', hr', rfl, hb', ha', hbb', hU⟩;have e1 : r' = r := by
   rcases Nat.lt_trichotomy r' r with h1 | h1 | h1
   ·have := ha r' h1;rw [hbb' r' (Nat.le_refl _) (by omega)] at this
    cases this
   ·exact h1
   ·have := ha' r h1;rw [hb r (Nat.le_refl _) (by omega)] at this
    cases this
  subst e1;have e2 : b' = b := by rw [Bool.eq_iff_iff, hb', hbb]
  subst e2;exact ⟨rfl, hU⟩
 by_cases hk : r < n ∧ key r = k
 ·have hF1 := hF true (by simp [hk])
  rcases h.at with ⟨rfl, rfl, h0, h1⟩ | ⟨B, c, rfl, hM⟩
  ·omega
  ·obtain ⟨cur, hcur⟩ : ∃ cur, Has w B 216 cur := by
    rcases h.own.2 with ⟨h1, h2⟩ | ⟨g', cap, cur, h1, hb, hg, _⟩
    ·cases h1
    ·injection h1 with h1 _ _;injection h1 with h1;injection h1 with h1;subst h1;exact ⟨cur, hg⟩
   have hBO : B ≠ O := fun e => hag (by rw [e]; rfl)
   refine (Znj (va := va) (vn := vn) (vc := vc) hM hcur hk.1 hk.2 hF1).mono ?_;rintro e w' ⟨rfl, w1, U1, U2⟩;refine ⟨⟨_, _, rfl⟩, .slice (some ⟨B, 0, none⟩) n c, n, key, fun i => if i = r then .slice va vn vc else val i, ?_, ?_, fun b hb => .inl hb, ⟨r, hr, ha, .inl ⟨hk.1, hk.2, rfl, rfl, rfl⟩⟩⟩
   ·refine ⟨⟨t, U2.has ((U1.has hO).setOther (by exact hBO) _)⟩, ?_, h.sorted, h.few⟩
    rw [← Zik hk.1];exact Upd.own U2 (Zkj (Upd.own U1 h.own (fun _ _ x => x)) (by omega)) (fun _ _ x => x)
   ·exact (((Upd.mono U1 (fun _ _ x => x.elim)).setCell _ _ (.inl (.inr rfl))).after U2 (fun _ _ x => x.elim))
 ·have hF1 := hF false (by simp [hk])
  have hne : ∀ i, i < n → key i ≠ k := fun i hi e => by
   have hri : r ≤ i := Nat.le_of_not_lt (fun h => by have := ha i h; rw [e, ZaB] at this; cases this)
   refine hk ⟨by omega, Zdo (hb r (Nat.le_refl _) (by omega)) ?_⟩
   cases hq : Zah k (key r) with
   | false => rfl
   | true =>
    have := h.sorted (key r) r i hri hi (by rw [e]; exact hq)
    rw [ZaB] at this;cases this
  refine (Znk (va := va) (vn := vn) (vc := vc) hO h.own (Zhl hv) (by omega) hr hag hF1).mono ?_
  rintro e w' ⟨rfl, w1, v', U1, hown, hfr, rfl⟩;have hv'O : v'.ownBlock ≠ some O := fun e => by
   rcases hfr O e with h1 | h1
   ·exact hag h1
   ·have := hO.lt;omega
  refine ⟨⟨_, _, rfl⟩, v', n + 1, ZbC r k key, ZbC r (.slice va vn vc) val, ?_, ?_, hfr, ⟨r, hr, ha, .inr ⟨hne, rfl, rfl, rfl⟩⟩⟩
  ·refine ⟨⟨t, ?_⟩, ?_, Zki hr h.sorted ha hb, by omega⟩
   ·have := (U1.has hO hag).set 1 v';simpa using this
   ·rw [← Zij hr];have U3 : Upd (fun b => b = O) w1 (w1.setCell ⟨O, 1, none⟩ v') := (Upd.refl _ _).setCell _ _ (.inl rfl)
    exact Upd.own U3 hown (fun b hb e => hv'O (by rw [hb, e]))
  ·exact (Upd.mono U1 (fun _ _ x => .inr x)).setCell _ _ (.inl (.inl rfl))
theorem ZdK.each {n : Nat} {k : ByteArray} {v : Value} {key : Nat → ByteArray} {val : Nat → Value} {n' : Nat} {key' : Nat → ByteArray} {val' : Nat → Value} (h : ZdK n k v key val n' key' val') : n' ≤ n + 1 ∧ ∀ i, i < n' → (val' i = v ∧ key' i = k) ∨ ∃ j, j < n ∧ val' i = val j ∧ key' i = key j := by
 obtain ⟨r, hr, -, ⟨h1, h2, rfl, rfl, rfl⟩ | ⟨h1, rfl, rfl, rfl⟩⟩ := h
 ·refine ⟨by omega, fun i hi => ?_⟩
  by_cases e : i = r
  ·exact .inl ⟨if_pos e, by rw [e]; exact h2⟩
  ·exact .inr ⟨i, hi, if_neg e, rfl⟩
 ·refine ⟨Nat.le_refl _, fun i hi => ?_⟩
  unfold ZbC
  by_cases h1 : i < r
  ·exact .inr ⟨i, by omega, by rw [if_pos h1], by rw [if_pos h1]⟩
  ·by_cases h2 : i = r
   ·exact .inl ⟨by rw [if_neg h1, if_pos h2], by rw [if_neg h1, if_pos h2]⟩
   ·exact .inr ⟨i - 1, by omega, by rw [if_neg h1, if_neg h2], by rw [if_neg h1, if_neg h2]⟩
theorem Zpa {w : World} {O n vn vc : Nat} {va : Option Addr} {mv : Value} {k : ByteArray} {key : Nat → ByteArray} {val : Nat → Value} (h : OMap w O mv n key val) (hag : mv.ownBlock ≠ some O) (hv : ∀ i, i < n → (val i).oneCell' = true) (hn : n < 1000) :
 Calls Tryz.prog 89 #[.pointer (some ⟨O, 0, none⟩), .string k, .slice va vn vc] w (Zo9 w O n mv (.slice va vn vc) k key val) := by
 refine (ZeS h hag hv hn).mono ?_;rintro e w' ⟨h1, mv', n', key', val', h2, h3, h4, h5⟩;exact ⟨h1, mv', n', key', val', h2, h3, h4, h5.each⟩
end Go.M
namespace Go.M
open Go.Proofs Go.RowKit Go.Shelf
attribute [local go_sem] Oper.semAt_some
def ZaL {q : Ent → Prop} (n₀ : Nat) (W : World) (sv : Value) (zs : List {x : Ent // q x}) : Prop :=
 (sv = .slice none 0 0 ∧ zs = []) ∨ ∃ b cap, sv = .slice (some ⟨b, 0, none⟩) zs.length cap ∧ b < n₀ ∧ ∀ i e, zs[i]? = some e → ∀ j u, e.1.cells[j]? = some u → W.cell? ⟨b, i * 6 + j, none⟩ = some u
theorem ZaL.below {q : Ent → Prop} {n₀ : Nat} {A B : World} (h : Below n₀ A B) {sv : Value} {zs : List {x : Ent // q x}} : ZaL n₀ A sv zs → ZaL n₀ B sv zs
 | .inl e => .inl e
 | .inr ⟨b, cap, e, hb, hc⟩ => .inr ⟨b, cap, e, hb, fun i e he j u hj => (h.cell (p := ⟨b, i * 6 + j, none⟩) hb).trans (hc i e he j u hj)⟩
def ZeT (q : Ent → Prop) (es : List Ent) (h : ∀ e ∈ es, q e) : List {x : Ent // q x} := es.attachWith q h
theorem Zcn (q : Ent → Prop) (es : List Ent) (h : ∀ e ∈ es, q e) : (ZeT q es h).map (·.1) = es := by simp [ZeT]
theorem ZaL.of_own {q : Ent → Prop} {w : World} {v : Value} {es : List Ent} (h : w.ownsRow 0 111 6 v es.length (rowOf es)) (zs : List {x : Ent // q x}) (hz : zs.map (·.1) = es) : ZaL w.heap.size w v zs := by
 have hl : zs.length = es.length := by rw [← hz, List.length_map]
 rcases h.2 with ⟨h1, h2⟩ | ⟨g, c, cur, h1, hb, hg, _⟩
 ·exact .inl ⟨h1, List.eq_nil_of_length_eq_zero (by omega)⟩
 ·refine .inr ⟨g, c, by rw [hl]; exact h1, Has.lt (t := 111) hg, fun i e hi j u hj => ?_⟩
  have hi' : es[i]? = some e.1 := by rw [← hz, List.getElem?_map, hi]; rfl
  have := h.cells (g := g) (by rw [h1]; rfl) _ _ (Zba hi' hj)
  rwa [show (⟨g, 0, none⟩ : Addr).add (i * 6 + j) = ⟨g, i * 6 + j, none⟩ from by unfold Addr.add; split <;> simp_all] at this
theorem Znn {q : Ent → Prop} (F : Fence) (n : Nat) (h7 : F.fn 108) (hro : F.round = none) (hn : 1 ≤ n) (l Bs n₀ b cap : Nat) (zs : List {x : Ent // q x}) (hreach : zs.length ≤ 1000) (hb : b < n₀) (J Jx : List {x : Ent // q x} → World → Prop)
 (hY : ∀ pre x W, J pre W → pre.length < zs.length → YieldAt F (n - 1) Tryz.prog l #[x.1.val] W fun e W' =>
   (e = .returned (.bool true) ∧ J (pre ++ [x]) W' ∧ Below n₀ W W') ∨ (e = .returned (.bool false) ∧ Jx (pre ++ [x]) W'))
 (W : World) (hJ : AbidesFrom W.heap.size J) (hn0 : n₀ ≤ W.heap.size) (hBs : W.cell? ⟨Bs, 0, none⟩ = some (.slice (some ⟨b, 0, none⟩) zs.length cap)) (hc : ∀ i e, zs[i]? = some e → ∀ j u, e.1.cells[j]? = some u → W.cell? ⟨b, i * 6 + j, none⟩ = some u) (h0 : J [] W) :
 CallsIn F n Tryz.prog 108 #[.func (.yield l) #[] #[], .pointer (some ⟨Bs, 0, none⟩)] W fun e W' => (∃ v, e = .returned v) ∧
  ((∃ ys, ys = zs ∧ J ys W') ∨ (∃ pre, (∃ k, k ≤ zs.length ∧ pre = zs.take k) ∧ Jx pre W')) := by
 refine callsIn_of_wp Tryz.func108 rfl h7 ?_ hro;simp only [Tryz.ntmps108, List.size_toArray, List.length_cons, List.length_nil, Nat.reduceAdd, Nat.reduceSub, Array.replicate_succ, Array.replicate_zero, List.push_toArray, List.append_toArray, List.nil_append, List.cons_append];have HC := Lib.hid hc;have HY := Lib.hid hY;have HJ := Lib.hid hJ;clear hc hY hJ
 gi_wp2
 gi_loopw [7] (fun i wr => ∃ k : Nat, k ≤ zs.length ∧ i = .int .i64 k ∧ J (zs.take k) wr ∧ Below n₀ W wr)
  (fun i _ => zs.length - (intOf i).toNat)
 case atStart => exact ⟨0, Nat.zero_le _, rfl, by simpa using h0, Below.refl _ _⟩
 case round =>
  obtain ⟨k, hk, rfl, hJs, hnx⟩ := hrel
  by_cases hlt : k < zs.length
  ·obtain ⟨x, hx⟩ : ∃ x, zs[k]? = some x := ⟨zs[k]'(by omega), List.getElem?_eq_getElem _⟩
   have c0 : wr.cell? ⟨b, k * 6, none⟩ = some (.int .i64 ((x.1.seq : Nat) : Int)) := (hnx.cell (p := ⟨b, k * 6, none⟩) hb).trans (HC.out k x hx 0 _ rfl);have c1 : wr.cell? ⟨b, k * 6 + 1, none⟩ = some (.string x.1.key) := (hnx.cell (p := ⟨b, k * 6 + 1, none⟩) hb).trans (HC.out k x hx 1 _ rfl);have c2 : wr.cell? ⟨b, k * 6 + 2, none⟩ = some (.bool x.1.del) := (hnx.cell (p := ⟨b, k * 6 + 2, none⟩) hb).trans (HC.out k x hx 2 _ rfl);have c3 : wr.cell? ⟨b, k * 6 + 3, none⟩ = some (.int .i64 ((x.1.slot : Nat) : Int)) := (hnx.cell (p := ⟨b, k * 6 + 3, none⟩) hb).trans (HC.out k x hx 3 _ rfl);have c4 : wr.cell? ⟨b, k * 6 + 4, none⟩ = some (.int .i64 ((x.1.off : Nat) : Int)) := (hnx.cell (p := ⟨b, k * 6 + 4, none⟩) hb).trans (HC.out k x hx 4 _ rfl);have c5 : wr.cell? ⟨b, k * 6 + 5, none⟩ = some (.int .i64 ((x.1.size : Nat) : Int)) := (hnx.cell (p := ⟨b, k * 6 + 5, none⟩) hb).trans (HC.out k x hx 5 _ rfl);obtain ⟨fn, tmps, assign, body, hy, hR⟩ := HY.out (zs.take k) x (wr.alloc (.cells #[.int .i64 ((x.1.seq : Nat) : Int), .string x.1.key, .bool x.1.del, .int .i64 ((x.1.slot : Nat) : Int), .int .i64 ((x.1.off : Nat) : Int), .int .i64 ((x.1.size : Nat) : Int)] 111)) (HJ.out _ _ _ none hJs (World.grownBy_alloc _ _ none) (fun r e => by cases e)) (by rw [List.length_take]; omega)
   unfold Ent.val at hy;have hnx1 := hnx.alloc (Nat.le_trans hn0 hnx.size) (.cells #[.int .i64 ((x.1.seq : Nat) : Int), .string x.1.key, .bool x.1.del, .int .i64 ((x.1.slot : Nat) : Int), .int .i64 ((x.1.off : Nat) : Int), .int .i64 ((x.1.size : Nat) : Int)] 111);have hts : zs.take k ++ [x] = zs.take (k + 1) := by rw [List.take_add_one, hx]; rfl
   gi_wp2
   refine hR.mono ?_;rintro e W3 (⟨rfl, hJ3, hk3⟩ | ⟨rfl, hJx3⟩)
   ·gi_wp2
    go_roundw
    case rel => exact ⟨k + 1, by omega, by simp, by rw [← hts]; exact hJ3, hnx1.trans hk3⟩
    case measure => simp [intOf]; omega
   ·gi_wp2
    refine bodyPost_ret (results_none rfl _ _ _) rfl ?_;exact ⟨⟨_, rfl⟩, .inr ⟨_, ⟨k + 1, by omega, hts⟩, hJx3⟩⟩
  ·obtain rfl : k = zs.length := by omega
   gi_wp2
   go_end0
   exact ⟨⟨_, rfl⟩, .inl ⟨_, rfl, by simpa using hJs⟩⟩
theorem Zhm {q : Ent → Prop} (F : Fence) (n : Nat) (h7 : F.fn 108) (hro : F.round = none) (l Bs : Nat) (J : List {x : Ent // q x} → World → Prop) (W : World) (hBs : W.cell? ⟨Bs, 0, none⟩ = some (.slice none 0 0)) (h0 : J [] W) :
 CallsIn F n Tryz.prog 108 #[.func (.yield l) #[] #[], .pointer (some ⟨Bs, 0, none⟩)] W fun e W' => (∃ v, e = .returned v) ∧ J [] W' := by
 refine callsIn_of_wp Tryz.func108 rfl h7 ?_ hro;simp only [Tryz.ntmps108, List.size_toArray, List.length_cons, List.length_nil, Nat.reduceAdd, Nat.reduceSub, Array.replicate_succ, Array.replicate_zero, List.push_toArray, List.append_toArray, List.nil_append, List.cons_append]
 gi_wp2
 gi_loopw [7] (fun i wr => i = .int .i64 0 ∧ J [] wr) (fun _ _ => 0)
 case atStart => exact ⟨rfl, h0⟩
 case round =>
  obtain ⟨rfl, hJs⟩ := hrel
  gi_wp2
  go_end0
  exact ⟨⟨_, rfl⟩, hJs⟩
theorem values_in {w : World} {v : Value} (hv : ∃ a n c, v = .slice a n c) :
 Calls Tryz.prog 54 #[v] w fun e w' => e = .returned (.func (.func 108) #[] #[.pointer (some ⟨w.heap.size, 0, none⟩)]) ∧ w.alloc (.cells #[v] 105) = w' := by
 obtain ⟨a, n, c, rfl⟩ := hv
 go_enter Tryz.func54, Tryz.ntmps54
 go_wp2;go_ret;exact ⟨rfl, rfl⟩
theorem Zdq {w w' : World} {row : Option Nat} (h : w.grownBy w' row) : w.grownBy w'.drew row := ⟨h.os, h.tape, h.output, h.size, h.block⟩
def Came {q : Ent → Prop} (J Jx : List {x : Ent // q x} → World → Prop) (zs : List {x : Ent // q x}) (e : Ending) (W' : World) : Prop := (∃ v, e = .returned v) ∧ ((∃ ys, ys = zs ∧ J ys W') ∨ (∃ pre, pre <+: zs ∧ Jx pre W'))
theorem Zgj {q : Ent → Prop} (n : Nat) (hn : 1 ≤ n) (l Bs n₀ : Nat) (sv : Value) (zs : List {x : Ent // q x}) (hreach : zs.length ≤ 1000) (J Jx : List {x : Ent // q x} → World → Prop)
 (hY : ∀ pre x W, J pre W → pre.length < zs.length → YieldAt Fence.wide (n - 1) Tryz.prog l #[x.1.val] W fun e W' =>
   (e = .returned (.bool true) ∧ J (pre ++ [x]) W' ∧ Below n₀ W W') ∨ (e = .returned (.bool false) ∧ Jx (pre ++ [x]) W'))
 (W : World) (hJ : AbidesFrom W.heap.size J) (hn0 : n₀ ≤ W.heap.size) (hBs : W.cell? ⟨Bs, 0, none⟩ = some sv) (hE : ZaL n₀ W sv zs) (h0 : J [] W) :
 Calls Tryz.prog 108 #[.func (.yield l) #[] #[], .pointer (some ⟨Bs, 0, none⟩)] W (Came J Jx zs) := by
 refine callsIn_wide (n := n) |>.1 ?_
 rcases hE with ⟨rfl, rfl⟩ | ⟨b, cap, rfl, hb, hcs⟩
 ·exact (Zhm Fence.wide n trivial rfl l Bs J W hBs h0).mono fun e W' ⟨he, hj⟩ => ⟨he, .inl ⟨_, rfl, hj⟩⟩
 ·refine (Znn Fence.wide n trivial rfl hn l Bs n₀ b cap zs hreach hb J Jx hY W hJ hn0 hBs hcs h0).mono ?_;rintro e W' ⟨he, ⟨ys, rfl, hj⟩ | ⟨pre, ⟨k, hk, rfl⟩, hj⟩⟩
  ·exact ⟨he, .inl ⟨_, rfl, hj⟩⟩
  ·exact ⟨he, .inr ⟨_, List.take_prefix _ _, hj⟩⟩
set_option maxHeartbeats 2000000 in
theorem ZlS {q : Ent → Prop} (n : Nat) (hn : 1 ≤ n) (l PX PS X S i m c n₀ : Nat) (sv : Value) (O : Value) (zs : List {x : Ent // q x}) (hreach : zs.length ≤ 1000) (J Jx : List {x : Ent // q x} → World → Prop)
 (hY : ∀ pre x W, J pre W → pre.length < zs.length → YieldAt Fence.wide (n - 1) Tryz.prog l #[x.1.val] W fun e W' =>
   (e = .returned (.bool true) ∧ J (pre ++ [x]) W' ∧ Below n₀ W W') ∨ (e = .returned (.bool false) ∧ Jx (pre ++ [x]) W'))
 (W : World) (hJ : AbidesFrom W.heap.size J) (hn0 : n₀ ≤ W.heap.size) (hPX : W.cell? ⟨PX, 0, none⟩ = some (.pointer (some ⟨X, 0, none⟩))) (hPS : W.cell? ⟨PS, 0, none⟩ = some (.int .i64 ((i : Nat) : Int)))
 (hX1 : W.cell? ⟨X, 1, none⟩ = some (.slice (some ⟨S, 0, none⟩) m c)) (hS : W.cell? ⟨S, i, none⟩ = some sv) (him : i < m) (hE : ZaL n₀ W sv zs) (h0 : J [] W) :
 Calls Tryz.prog 52 #[.func (.yield l) #[] #[], .pointer (some ⟨PX, 0, none⟩), .pointer (some ⟨PS, 0, none⟩)] W (Came J Jx zs) := by
 have g1 : ¬ ((i : Int) < 0) := by omega
 have g2 : (i : Int) < (m : Int) := by omega
 have g3 : ¬ ((m : Int) ≤ (i : Int)) := by omega
 have g4 : 0 < m := by omega
 have hsv : ∃ a n c, sv = .slice a n c := by rcases hE with ⟨h, _⟩ | ⟨b, cap, h, _⟩ <;> exact ⟨_, _, _, h⟩
 have HV : Hid (∀ W1 : World, W.grownBy W1 none → W1.cell? ⟨W.heap.size, 0, none⟩ = some sv → Calls Tryz.prog 108 #[.func (.yield l) #[] #[], .pointer (some ⟨W.heap.size, 0, none⟩)] W1 (Came J Jx zs)) := fun W1 hg hb =>
  Zgj n hn l W.heap.size n₀ sv zs hreach J Jx hY W1 (fun s A B row hs hg' hr => hJ s A B row hs hg' (fun r e => ⟨Nat.le_trans hg.size (hr r e).1, (hr r e).2⟩)) (Nat.le_trans hn0 hg.size) hb (hE.below ((Below.refl n₀ W).grown hg hn0 (fun k e => by cases e))) (hJ _ _ _ none h0 hg (fun r e => by cases e))
 have HVI := Lib.hid (fun w : World => values_in (w := w) hsv)
 clear hE hJ h0 hY;obtain ⟨sa, sn, sc, rfl⟩ := hsv
 go_enter Tryz.func52, Tryz.ntmps52
 go_wp2_with (first | go_in)
 ·have HG : W.grownBy ((W.alloc (.cells #[.slice sa sn sc] 105)).drew) none := Zdq (World.grownBy_alloc _ _ none);have HB : ((W.alloc (.cells #[.slice sa sn sc] 105)).drew).cell? ⟨W.heap.size, 0, none⟩ = some (.slice sa sn sc) := by simp
  go_region_with (first | (go_at_call 54; refine (HVI.out _).mono ?_; rintro e w1 ⟨rfl, rfl⟩) | (go_at_call 108; refine (HV.out ((W.alloc (.cells #[.slice sa sn sc] 105)).drew) HG HB).mono ?_; rintro e w2 ⟨⟨v, rfl⟩, hC⟩))
  all_goals
   go_end0
   exact ⟨⟨_, rfl⟩, hC⟩
end Go.M
namespace Go.M
open Go.Proofs Go.RowKit Go.Shelf
attribute [local go_sem] Oper.semAt_some
theorem OMap.old {w w' : World} {O n : Nat} {mv : Value} {key : Nat → ByteArray} {val : Nat → Value} (h : OMap w O mv n key val) (U : Old w w') : OMap w' O mv n key val := by
 obtain ⟨⟨t, hO⟩, own, hs, hf⟩ := h;exact ⟨⟨t, U.has hO⟩, Upd.own U own (fun _ _ x => x), hs, hf⟩
theorem ZaL.old {q : Ent → Prop} {n₀ : Nat} {A B : World} (h : Old A B) {sv : Value} {zs : List {x : Ent // q x}} : ZaL n₀ A sv zs → ZaL n₀ B sv zs
 | .inl e => .inl e
 | .inr ⟨b, cap, e, hb, hc⟩ => .inr ⟨b, cap, e, hb, fun i e he j u hj => Old.cellOf' h (hc i e he j u hj)⟩
theorem Zno {n r : Nat} {k : ByteArray} {key : Nat → ByteArray} (hs : ∀ k i j, i ≤ j → j < n → Zah (key j) k = true → Zah (key i) k = true) (ha : ∀ i, i < r → Zah (key i) k = true) (hb : ∀ i, r ≤ i → i < n → Zah (key i) k = false) (hk : ¬ (r < n ∧ key r = k)) : ∀ i, i < n → key i ≠ k := fun i hi e => by
 have hri : r ≤ i := Nat.le_of_not_lt (fun h => by have := ha i h; rw [e, ZaB] at this; cases this)
 refine hk ⟨by omega, Zdo (hb r (Nat.le_refl _) (by omega)) ?_⟩
 cases hq : Zah k (key r) with
 | false => rfl
 | true =>
  have := hs (key r) r i hri hi (by rw [e]; exact hq)
  rw [ZaB] at this;cases this
def Zil (Q : Nat → List Ent → Prop) (ky : ByteArray) (key : Nat → ByteArray) (L : Nat) (q : Ent → Prop) (n₀ : Nat) (mn : Nat) (val : Nat → Value) (w : World) (e : Ending) (w' : World) : Prop := ∃ (a : Option Addr) (n c : Nat) (b : Bool) (zs : List {x : Ent // q x}), e = .returned (.tuple #[.slice a n c, .bool b]) ∧ zs.length ≤ L ∧ ZaL n₀ w' (.slice a n c) zs ∧ Old w w' ∧ ((a = none ∧ n = 0 ∧ c = 0 ∧ zs = [] ∧ ∀ r, r < mn → key r ≠ ky) ∨ ∃ r, r < mn ∧ val r = .slice a n c ∧ key r = ky ∧ Q r (zs.map (·.1)))
theorem Zjo {Q : Nat → List Ent → Prop} {L : Nat} {q : Ent → Prop} {n₀ O mn : Nat} {w : World} {mv : Value} {ky : ByteArray} {key : Nat → ByteArray} {val : Nat → Value} (hM : OMap w O mv mn key val)
 (hE : ∀ r, r < mn → ∃ zs : List {x : Ent // q x}, zs.length ≤ L ∧ ZaL n₀ w (val r) zs ∧ Q r (zs.map (·.1))) :
 Calls Tryz.prog 98 #[.pointer (some ⟨O, 0, none⟩), .string ky] w (Zil Q ky key L q n₀ mn val w) := by
 refine (ZeQ (k := ky) hM).mono ?_;rintro e w' ⟨r, hr, ha, hb, hO, ⟨h1, h2, rfl⟩ | ⟨h1, rfl⟩⟩
 ·obtain ⟨zs, hl, hz, hQ⟩ := hE r h1;have hz' := hz.old hO;obtain ⟨a, n, c, hv⟩ : ∃ a n c, val r = .slice a n c := by rcases hz with ⟨h, _⟩ | ⟨b, cap, h, _⟩ <;> exact ⟨_, _, _, h⟩
  rw [hv] at hz' ⊢;exact ⟨a, n, c, true, zs, rfl, hl, hz', hO, .inr ⟨r, h1, hv, h2, hQ⟩⟩
 ·exact ⟨none, 0, 0, false, [], rfl, Nat.zero_le _, .inl ⟨rfl, rfl⟩, hO, .inl ⟨rfl, rfl, rfl, rfl, Zno hM.sorted ha hb h1⟩⟩
set_option maxHeartbeats 2000000 in
theorem Zpb {q : Ent → Prop} (n : Nat) (hn : 1 ≤ n) (l PX PK X O S m c n₀ : Nat) (mv : Value) (ky : ByteArray) (key : Nat → ByteArray) (val : Nat → Value) (J Jx : List {x : Ent // q x} → World → Prop)
 (W : World) (hJ : AbidesFrom W.heap.size J) (hn0 : n₀ ≤ W.heap.size) (hPX : W.cell? ⟨PX, 0, none⟩ = some (.pointer (some ⟨X, 0, none⟩))) (hPK : W.cell? ⟨PK, 0, none⟩ = some (.string ky))
 (hX0 : W.cell? ⟨X, 0, none⟩ = some (.pointer (some ⟨O, 0, none⟩))) (hX1 : W.cell? ⟨X, 1, none⟩ = some (.slice (some ⟨S, 0, none⟩) m c)) (hm : 0 < m) (mn : Nat) (hM : OMap W O mv mn key val)
 (hE : ∀ r, r < mn → ∃ zs : List {x : Ent // q x}, zs.length ≤ 500 ∧ ZaL n₀ W (val r) zs)
 (hY : ∀ (N : Nat), N ≤ 1000 → ∀ pre x W, J pre W → pre.length < N → YieldAt Fence.wide (n - 1) Tryz.prog l #[x.1.val] W fun e W' =>
   (e = .returned (.bool true) ∧ J (pre ++ [x]) W' ∧ Below n₀ W W') ∨ (e = .returned (.bool false) ∧ Jx (pre ++ [x]) W')) (h0 : J [] W) :
 Calls Tryz.prog 184 #[.func (.yield l) #[] #[], .pointer (some ⟨PX, 0, none⟩), .pointer (some ⟨PK, 0, none⟩)] W fun e W' => (∃ v, e = .returned v) ∧ ((∃ ys, J ys W') ∨ ∃ pre, Jx pre W') := by
 have HG : Hid (Calls Tryz.prog 98 #[.pointer (some ⟨O, 0, none⟩), .string ky] W.drew (Zil (fun _ _ => True) ky key 500 q n₀ mn val W.drew)) := Zjo (hM.old ((Upd.refl _ W).drew)) (fun r hr => by obtain ⟨zs, h1, h2⟩ := hE r hr; exact ⟨zs, h1, h2.old ((Upd.refl _ W).drew), trivial⟩)
 have HVI := Lib.hid (fun (w : World) (a : Option Addr) (n c : Nat) => values_in (w := w) (v := .slice a n c) ⟨_, _, _, rfl⟩)
 have g4 : (0 : Int) < (m : Int) := by omega
 have HJ := Lib.hid hJ;have HY := Lib.hid hY
 have HB0 : Hid (∀ w1 w2 : World, Old W.drew w1 → ∀ (a : Option Addr) (sn sc : Nat) (zs : List {x : Ent // q x}), zs.length ≤ 500 → ZaL n₀ w1 (.slice a sn sc) zs → w1.alloc (.cells #[.slice a sn sc] 105) = w2 →
  Calls Tryz.prog 108 #[.func (.yield l) #[] #[], .pointer (some ⟨w1.heap.size, 0, none⟩)] w2 fun e W' => (∃ v, e = .returned v) ∧ ((∃ ys, J ys W') ∨ ∃ pre, Jx pre W')) := by
  rintro w1 w2 U a sn sc zs hl hz rfl
  have hg : W.grownBy (w1.alloc (.cells #[.slice a sn sc] 105)) none := ⟨U.os, U.tape, U.out, Nat.le_trans U.size (by simp), fun k hk _ => by
   have h1 : k < w1.heap.size := Nat.lt_of_lt_of_le hk U.size
   exact ((World.grownBy_alloc w1 _ none).block k h1 (by simp)).trans (U.keep k hk (fun x => x))⟩
  refine (Zgj n hn l w1.heap.size n₀ (.slice a sn sc) zs (by omega) J Jx (hY _ (by omega)) _ (fun s A B row hs hg' hr => hJ s A B row hs hg' (fun r e => ⟨Nat.le_trans hg.size (hr r e).1, (hr r e).2⟩)) (Nat.le_trans hn0 hg.size) (by simp) (hz.old ((Upd.refl _ _).alloc _)) (hJ _ _ _ none h0 hg (fun r e => by cases e))).mono ?_
  rintro e W' ⟨h1, ⟨ys, rfl, h2⟩ | ⟨pre, _, h2⟩⟩
  ·exact ⟨h1, .inl ⟨_, h2⟩⟩
  ·exact ⟨h1, .inr ⟨_, h2⟩⟩
 clear hM hE hJ h0 hY
 go_enter Tryz.func184, Tryz.ntmps184
 go_wp2_with (first | go_in)
 go_region_held3 (fun x => x.cell? ⟨PX, 0, none⟩ = some (.pointer (some ⟨X, 0, none⟩)) ∧ x.cell? ⟨PK, 0, none⟩ = some (.string ky) ∧ x.cell? ⟨X, 0, none⟩ = some (.pointer (some ⟨O, 0, none⟩)))
  (first | go_keep | (exact ⟨Old.cellOf' hU.drew (by simpa using hPX), Old.cellOf' hU (by simpa using hPK), Old.cellOf' hU (by simpa using hX0)⟩))
  (first | (go_at_call 98; refine HG.out.mono ?_; rintro e w1 ⟨a, sn, sc, b, zs, rfl, hl, hz, hU, -⟩))
 have HBX := Lib.hid (fun w2 h => HB0.out _ w2 (by exact hU) a sn sc zs hl hz h)
 clear HB0
 go_wp2_with (first | (go_at_call 54; refine (HVI.out _ _ _ _).mono ?_; rintro e w2 ⟨rfl, hw2⟩; have HB1 := HBX.out w2 hw2) | (go_at_call 108; refine HB1.mono ?_; rintro e w3 ⟨⟨v, rfl⟩, hC⟩))
 go_end0
 exact ⟨⟨_, rfl⟩, hC⟩
end Go.M
namespace Go.M
open Go.Proofs Go.RowKit Go.Shelf
attribute [local go_sem] Oper.semAt_some
theorem Zed {P : Program} (w : World) (d : Nat) (t : TypeId) (ds : TypeDesc) (f : Fn) (b : Array Value) (h : P.underlying t = some ds) (hd : (match ds with | .func .. => true | _ => false) = true) : (Op.equalIn (d + 1) t (.func f #[] b) .nilFunc).run P w = .ok false w := by
 cases ds <;> simp at hd
 simp [Op.equalIn, run_underlying h]
theorem Zhn {P : Program} (w : World) (t : TypeId) (ds : TypeDesc) (f : Fn) (b : Array Value) (h : P.underlying t = some ds) (hd : (match ds with | .func .. => true | _ => false) = true) : (binOp .eql t (.func f #[] b) .nilFunc).run P w = .ok (.bool false) w := by
 simp only [binOp];simp [Op.equal, Op.maxDepth, Zed w 9999 t ds f b h hd]
theorem ZlT {w : World} {f : Nat} {b : Array Value} :
 Calls Tryz.prog 167 #[.func (.func f) #[] b] w fun e w' => e = .returned (.func (.func f) #[] b) ∧ w = w' := by
 have hq : ∀ w : World, (binOp .eql 56 (.func (.func f) #[] b) .nilFunc).run Tryz.prog w = .ok (.bool false) w := fun w => Zhn w _ _ _ _ Tryz.underlying56 rfl
 go_enter Tryz.func167, Tryz.ntmps167
 go_wp2;go_ret;exact ⟨rfl, rfl⟩
theorem Znp {w : World} {e : TypeId} {base size n : Nat} {v : Value} {xs : List Value} (own : w.ownsRow base e size v n xs) : w.ownsRow 0 e size v n xs := by
 refine ⟨own.1, ?_⟩;rcases own.2 with h | ⟨g, cap, cur, h1, h2, h3⟩
 ·exact .inl h
 ·exact .inr ⟨g, cap, cur, h1, Nat.zero_le _, h3⟩
theorem Znq {w : World} {e : TypeId} {base size n : Nat} {v : Value} {xs : List Value} (own : w.ownsRow base e size v n xs) : ∀ b, v.ownBlock = some b → base ≤ b := by
 intro b hb;rcases own.2 with ⟨h1, h2⟩ | ⟨g, cap, cur, h1, h2, h3⟩
 ·rw [h1] at hb; cases hb
 ·rw [h1] at hb;simp [Value.ownBlock] at hb;omega
theorem ZaI {w w' : World} (h : Below w.heap.size w w') : Old w w' := ⟨h.size, fun b hb _ => h.block b hb, h.tape, h.os, h.output⟩
theorem ZbU {β : Type} (B : Nat) (t : TypeId) (f : β → Array Value) : Own (fun s W => Has W B t (f s)) := fun s X Y row hs hg hrow => by
 have h : some B ≠ row := fun e' => by
  obtain ⟨o, ho, hc⟩ := hrow B e'.symm;unfold Has at hs;rw [hs] at ho; cases ho; cases hc
 unfold Has at *
 exact (hg.block B (Has.lt (t := t) hs) h).trans hs
theorem Zgk (w : World) (x : Ent) (t : TypeId) : ∀ j u, x.cells[j]? = some u → (w.alloc (.cells #[.int .i64 ((x.seq : Nat) : Int), .string x.key, .bool x.del, .int .i64 ((x.slot : Nat) : Int), .int .i64 ((x.off : Nat) : Int), .int .i64 ((x.size : Nat) : Int)] t)).cell? ((⟨w.heap.size, 0, none⟩ : Addr).add j) = some u := by
 intro j u hj;rw [show (⟨w.heap.size, 0, none⟩ : Addr).add j = ⟨w.heap.size, j, none⟩ from by unfold Addr.add; split <;> simp_all]
 rw [(Has.new w t #[.int .i64 ((x.seq : Nat) : Int), .string x.key, .bool x.del, .int .i64 ((x.slot : Nat) : Int), .int .i64 ((x.off : Nat) : Int), .int .i64 ((x.size : Nat) : Int)]).cell j];simpa [Ent.cells] using hj
theorem ZdL (x : Ent) : ∀ u ∈ x.cells, u.oneCell' = true := by
 intro u hu;simp [Ent.cells] at hu;rcases hu with rfl | rfl | rfl | rfl | rfl | rfl <;> rfl
theorem ZfD {q : Ent → Prop} (n : Nat) (hn : 1 ≤ n) (PX PS X S i m c n₀ : Nat) (sv : Value) (zs : List {x : Ent // q x}) (hreach : zs.length ≤ 1000) (w : World) (hn0 : n₀ ≤ w.heap.size) (hPX : w.cell? ⟨PX, 0, none⟩ = some (.pointer (some ⟨X, 0, none⟩))) (hPS : w.cell? ⟨PS, 0, none⟩ = some (.int .i64 ((i : Nat) : Int)))
 (hX1 : w.cell? ⟨X, 1, none⟩ = some (.slice (some ⟨S, 0, none⟩) m c)) (hS : w.cell? ⟨S, i, none⟩ = some sv) (him : i < m) (hE : ZaL n₀ w sv zs) :
 SeqStopsK Fence.wide n Tryz.prog 52 #[.pointer (some ⟨PX, 0, none⟩), .pointer (some ⟨PS, 0, none⟩)] (fun x : {x : Ent // q x} => #[x.1.val]) (Below n₀) (fun ys => ys = zs) (fun pre => pre <+: zs) zs.length w := fun l J Jx W hW hJ hJx hY h0 => by
 have b1 := World.block_lt_of_cell? w _ hPX;have b2 := World.block_lt_of_cell? w _ hPS;have b3 := World.block_lt_of_cell? w _ hX1;have b4 := World.block_lt_of_cell? w _ hS;exact callsIn_wide.2 (ZlS n hn l PX PS X S i m c n₀ sv sv zs hreach J Jx hY W hJ (Nat.le_trans hn0 hW.size) ((hW.cell b1).trans hPX) ((hW.cell b2).trans hPS) ((hW.cell b3).trans hX1) ((hW.cell b4).trans hS) him (hE.below (hW.mono hn0)) h0)
theorem Zho : (Tryz.prog.info? 111).map (fun i => (i.zero, i.size, i.bytes)) = some (some (.agg #[.int .i64 0, .string ⟨#[]⟩, .bool false, .int .i64 0, .int .i64 0, .int .i64 0]), 6, 56) := by kernel_rfl
set_option maxHeartbeats 2000000 in
theorem Zru {w : World} {PP X S i m c : Nat} {O sv : Value} {es : List Ent} (hP : w.cell? ⟨PP, 9, none⟩ = some (.pointer (some ⟨X, 0, none⟩))) (hX1 : w.cell? ⟨X, 1, none⟩ = some (.slice (some ⟨S, 0, none⟩) m c)) (hS : w.cell? ⟨S, i, none⟩ = some sv) (him : i < m) (hm : m ≤ 10)
 (own : w.ownsRow 0 111 6 sv es.length (rowOf es)) (hl : es.length ≤ 500) :
 Calls Tryz.prog 112 #[.pointer (some ⟨PP, 0, none⟩), .int .i64 ((i : Nat) : Int)] w (Zcf w 111 6 es.length (rowOf es)) := by
 refine (callsIn_wide (n := 8)).1 ?_;refine callsIn_of_wp_marks Tryz.func112 rfl trivial ?_ rfl;simp only [Tryz.ntmps112, List.size_toArray, List.length_cons, List.length_nil, Nat.reduceAdd, Nat.reduceSub, Array.replicate_succ, Array.replicate_zero, List.push_toArray, List.append_toArray, List.nil_append, List.cons_append];refine wpIn_wide.2 ?_;have hPl : PP < w.heap.size := World.block_lt_of_cell? w _ hP;have hXl : X < w.heap.size := World.block_lt_of_cell? w _ hX1;have hSl : S < w.heap.size := World.block_lt_of_cell? w _ hS;have HW := Lib.hid own;clear own
 go_wp2_with (first | (go_at_call 167; refine ZlT.mono ?_; rintro e w1 ⟨rfl, rfl⟩) | go_in)
 have bO := Boxed.new w 83 (.slice none 0 0);have hO3 : Old w (((w.alloc (.cells #[.slice none 0 0] 83)).alloc (.cells #[.pointer (some ⟨X, 0, none⟩)] 33)).alloc (.cells #[.int .i64 ((i : Nat) : Int)] 3)) := (((Upd.refl _ w).alloc _).alloc _).alloc _;have bO3 := (bO.alloc (.cells #[.pointer (some ⟨X, 0, none⟩)] 33)).alloc (.cells #[.int .i64 ((i : Nat) : Int)] 3);have bX := (Boxed.new (w.alloc (.cells #[.slice none 0 0] 83)) 33 (.pointer (some ⟨X, 0, none⟩))).alloc (.cells #[.int .i64 ((i : Nat) : Int)] 3);have bI := Boxed.new ((w.alloc (.cells #[.slice none 0 0] 83)).alloc (.cells #[.pointer (some ⟨X, 0, none⟩)] 33)) 3 (.int .i64 ((i : Nat) : Int));have hB0 : Below w.heap.size w (((w.alloc (.cells #[.slice none 0 0] 83)).alloc (.cells #[.pointer (some ⟨X, 0, none⟩)] 33)).alloc (.cells #[.int .i64 ((i : Nat) : Int)] 3)) := (((Below.refl _ w).alloc (Nat.le_refl _) _).alloc (by simp) _).alloc (by simp; omega) _
 have hsz : (((w.alloc (.cells #[.slice none 0 0] 83)).alloc (.cells #[.pointer (some ⟨X, 0, none⟩)] 33)).alloc (.cells #[.int .i64 ((i : Nat) : Int)] 3)).heap.size = w.heap.size + 3 := by simp
 simp only [World.size_alloc] at bX bI;obtain ⟨W0, hW0⟩ : ∃ W0, (((w.alloc (.cells #[.slice none 0 0] 83)).alloc (.cells #[.pointer (some ⟨X, 0, none⟩)] 33)).alloc (.cells #[.int .i64 ((i : Nat) : Int)] 3)) = W0 := ⟨_, rfl⟩;rw [hW0] at bO3 bX bI hB0 hsz hO3 ⊢;clear hW0 bO;have hz := Zcn (fun _ => True) es (fun _ _ => trivial)
 have hE : ZaL w.heap.size w sv (ZeT (fun _ => True) es (fun _ _ => trivial)) := ZaL.of_own HW.out _ hz
 generalize ZeT (fun _ => True) es (fun _ _ => trivial) = zs at hz hE
 have hzl : zs.length = es.length := by rw [← hz, List.length_map]
 obtain ⟨i0, hi0, hz0, hz1, hz2⟩ := info_parts Zho;refine (wpIn_wide (n := 8)).1 ?_;refine wpIn_rangeFunc_ownH rfl (by omega) (gf := 52) (lb := #[.pointer (some ⟨w.heap.size + 1, 0, none⟩), .pointer (some ⟨w.heap.size + 1 + 1, 0, none⟩)]) rfl trivial (enters_of Tryz.func52 (by kernel_rfl) rfl)
  (ZfD 7 (by omega) (w.heap.size + 1) (w.heap.size + 1 + 1) X S i m c w.heap.size sv zs (by omega) W0 (by omega) bX.cell bI.cell (Old.cellOf' hO3 hX1) (Old.cellOf' hO3 hS) him (hE.old hO3)) belowK_t (belowK_b (by omega)) (Below.refl _ _) (fun _ => rfl)
  (fun (pre : List {x : Ent // True}) W => (∃ v, Boxed W w.heap.size 83 v ∧ W.ownsRow w.heap.size 111 6 v pre.length (rowOf (pre.map (·.1))) ∧ True) ∧ Below w.heap.size w W)
  (fun _ _ _ => False)
  (OwnFrom.and (Own.from (holdsRow_own w.heap.size w.heap.size 83 111 6 (fun (pre : List {x : Ent // True}) => pre.length) (fun (pre : List {x : Ent // True}) => rowOf (pre.map (·.1))) (fun _ _ => True)) _) (ownFrom_below (Nat.le_refl _) (by omega)))
  (fun _ _ _ _ _ hs _ _ => hs)
  ⟨⟨_, bO3, World.ownsRow_nil _ _ _ _, trivial⟩, hB0⟩
  (fun x a' W => ∃ Bx, w.heap.size < Bx ∧ Has W Bx 111 #[.int .i64 ((x.1.seq : Nat) : Int), .string x.1.key, .bool x.1.del, .int .i64 ((x.1.slot : Nat) : Int), .int .i64 ((x.1.off : Nat) : Int), .int .i64 ((x.1.size : Nat) : Int)] ∧ a' = { tmps := #[.pointer (some ⟨PP, 0, none⟩), .int .i64 ((i : Nat) : Int), undef, undef, .slice none 0 0, .pointer (some ⟨w.heap.size, 0, none⟩), .pointer (some ⟨Bx, 0, none⟩), .pointer (some ⟨PP, 0, none⟩), .pointer (some ⟨PP, 0, none⟩), .pointer (some ⟨PP, 9, none⟩), .pointer (some ⟨X, 0, none⟩), .int .i64 ((i : Nat) : Int), .func (.func 52) #[] #[.pointer (some ⟨w.heap.size + 1, 0, none⟩), .pointer (some ⟨w.heap.size + 1 + 1, 0, none⟩)], .func (.func 52) #[] #[.pointer (some ⟨w.heap.size + 1, 0, none⟩), .pointer (some ⟨w.heap.size + 1 + 1, 0, none⟩)], x.1.val, undef, undef, undef, undef, undef, undef, undef, undef], defers := [] })
  (fun x a' _ X Y row hs hg hr => by obtain ⟨Bx, h1, h2, h3⟩ := hs; exact ⟨Bx, h1, ZbU Bx _ (fun (_ : Unit) => #[.int .i64 ((x.1.seq : Nat) : Int), .string x.1.key, .bool x.1.del, .int .i64 ((x.1.slot : Nat) : Int), .int .i64 ((x.1.off : Nat) : Int), .int .i64 ((x.1.size : Nat) : Int)]) () X Y row h2 hg (fun r e => (hr r e).2), h3⟩)
  ?assign ?body ?done ?stop
 case assign =>
  rintro l pre x W K ⟨⟨v, hv, hrow, -⟩, hB1⟩ hK;unfold Ent.val
  gi_wp2
  exact hK _ _ ((KeepsOthers.alloc _ _).from _) ((Below.refl _ W).alloc hB1.size _) ⟨⟨v, hv.alloc _, hrow.alloc _, trivial⟩, hB1.alloc hB1.size _⟩ ⟨W.heap.size, hv.lt, Has.new W _ _, rfl⟩
 case body =>
  rintro l pre x a' W hl ⟨r, hr⟩ ⟨⟨v, hv, hrow, -⟩, hB1⟩ ⟨Bx, hBx, hX, rfl⟩ hlt;have hc := hv.cell;unfold Ent.val;have x0 : W.cell? ⟨Bx, 0, none⟩ = some (.int .i64 ((x.1.seq : Nat) : Int)) := hX.cell 0;have x1 : W.cell? ⟨Bx, 1, none⟩ = some (.string x.1.key) := hX.cell 1;have x2 : W.cell? ⟨Bx, 2, none⟩ = some (.bool x.1.del) := hX.cell 2;have x3 : W.cell? ⟨Bx, 3, none⟩ = some (.int .i64 ((x.1.slot : Nat) : Int)) := hX.cell 3;have x4 : W.cell? ⟨Bx, 4, none⟩ = some (.int .i64 ((x.1.off : Nat) : Int)) := hX.cell 4;have x5 : W.cell? ⟨Bx, 5, none⟩ = some (.int .i64 ((x.1.size : Nat) : Int)) := hX.cell 5
  gi_wp2_with (gi_at_builtin; refine wpListIn_append_own _ rfl _ _ 83 rfl w.heap.size 111 i0 (.agg #[.int .i64 0, .string ⟨#[]⟩, .bool false, .int .i64 0, .int .i64 0, .int .i64 0]) 6 56 Tryz.underlying83 hi0 hz0 hz1 hz2 rfl (by decide) _ _ _ rfl (hrow.alloc _) ⟨W.heap.size, 0, none⟩ 1 1 x.1.cells rfl rfl (Zgk W x.1 _) (ZdL x.1) (by unfold maxLen; omega) (by omega) (by have := hB1.size; simp; omega) ?_; intro v' w1 hown' hgrow _; obtain ⟨g', cap', rfl⟩ := ownsRow_succ hown'; obtain ⟨hv1, hv2, hr2, hk2, hb2⟩ := hv.appended (by decide) hrow hB1.size (Nat.le_refl _) hown' hgrow; have hc1 := hv1.cell; have hf1 := hv1.frozen)
  exact ⟨hk2.from _, hb2, ⟨_, hv2, by rw [List.map_append, Zbf, List.length_append]; simpa [rowOf] using hr2, trivial⟩, hB1.trans hb2⟩
 case done =>
  rintro D ys W hD rfl ⟨⟨v, hv, hrow, -⟩, hB⟩ hK;have hc := hv.cell;go_wp2;refine ⟨by simp, .inl ⟨_, _, rfl, run_takeDeferred hK, ?_⟩⟩
  have hrow' := ownsRow_putObj hrow (.deferred none) hK rfl;rw [hz, hzl] at hrow';exact ⟨_, results_tmp rfl _ _ _, v, rfl, Znp hrow', ZaI (hB.trans (belowK_b (w := w) (Nat.le_refl _) W D _ _ (by omega) hK rfl rfl)), Znq hrow'⟩
 case stop =>
  rintro D c pre W _ _ h _;exact h.elim
end Go.M
