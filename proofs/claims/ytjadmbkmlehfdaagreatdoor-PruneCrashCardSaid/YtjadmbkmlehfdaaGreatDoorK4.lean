/- Walks 4. -/
import Derived.Test.YtjadmbkmlehfdaaGreatDoorProg
import Derived.Test.YtjadmbkmlehfdaaGreatDoorK3
import Derived.Test.YtjadmbkmlehfdaaGreatDoorK2
set_option linter.unusedVariables false
set_option linter.unusedSimpArgs false
set_option maxRecDepth 100000
namespace Go.M
open Go.Proofs Go.RowKit
def rowOf (es : List Ent) : List Value := es.flatMap Ent.cells
theorem rowOf_length (es : List Ent) : (rowOf es).length = es.length * 6 := by
 induction es with
 | nil => rfl
 | cons e es ih => simp [rowOf, Ent.cells] at ih ⊢; omega
theorem rowOf_append (a b : List Ent) : rowOf (a ++ b) = rowOf a ++ rowOf b := by simp [rowOf]
theorem rowOf_cell {es : List Ent} {i j : Nat} {e : Ent} {u : Value} (h : es[i]? = some e) (hj : e.cells[j]? = some u) : (rowOf es)[i * 6 + j]? = some u := by
 induction es generalizing i with
 | nil => simp at h
 | cons a es ih =>
  have hl : j < 6 := by have := (List.getElem?_eq_some_iff.1 hj).1; simpa [Ent.cells] using this
  have hr : rowOf (a :: es) = a.cells ++ rowOf es := by simp [rowOf]
  have ha : a.cells.length = 6 := rfl
  cases i with
  | zero =>
   simp at h
   subst h
   rw [hr, List.getElem?_append_left (by omega)]
   simpa using hj
  | succ i =>
   rw [hr, List.getElem?_append_right (by omega), ha, show (i + 1) * 6 + j - 6 = i * 6 + j by omega]
   exact ih (by simpa using h)
theorem rowOf_one {es : List Ent} : ∀ u ∈ rowOf es, u.oneCell' = true := by
 intro u hu
 simp only [rowOf, List.mem_flatMap] at hu
 obtain ⟨e, -, hu⟩ := hu
 simp [Ent.cells] at hu
 rcases hu with rfl | rfl | rfl | rfl | rfl | rfl <;> rfl
def EntsAt (w : World) (v : Value) (es : List Ent) : Prop :=
 (v = .slice none 0 0 ∧ es = []) ∨ ∃ g c, v = .slice (some ⟨g, 0, none⟩) es.length c ∧ ∀ i e, es[i]? = some e → ∀ j u, e.cells[j]? = some u → w.cell? ⟨g, i * 6 + j, none⟩ = some u
theorem EntsAt.of_own {w : World} {v : Value} {es : List Ent} (h : w.ownsRow 0 47 6 v es.length (rowOf es)) : EntsAt w v es := by
 rcases h.2 with ⟨h1, h2⟩ | ⟨g, c, cur, h1, _⟩
 ·exact .inl ⟨h1, List.eq_nil_of_length_eq_zero h2⟩
 ·refine .inr ⟨g, c, h1, fun i e hi j u hj => ?_⟩
  have := h.cells (g := g) (by rw [h1]; rfl) _ _ (rowOf_cell hi hj)
  rwa [show (⟨g, 0, none⟩ : Addr).add (i * 6 + j) = ⟨g, i * 6 + j, none⟩ from by unfold Addr.add; split <;> simp_all] at this
theorem EntsAt.old {w w' : World} {v : Value} {es : List Ent} (h : EntsAt w v es) (O : Old w w') : EntsAt w' v es := by
 rcases h with h | ⟨g, c, h1, h2⟩
 ·exact .inl h
 ·exact .inr ⟨g, c, h1, fun i e hi j u hj => Old.cellOf' O (h2 i e hi j u hj)⟩
theorem bs_off {w : World} {g c off : Nat} {es : List Ent} (h : ∀ i e, es[i]? = some e → ∀ j u, e.cells[j]? = some u → w.cell? ⟨g, i * 6 + j, none⟩ = some u) (hn : es.length ≤ 1000) (hlt : ∀ e ∈ es, e.off < off) :
 Calls Tryz.prog 133 #[.slice (some ⟨g, 0, none⟩) es.length c, .int .i64 ((off : Nat) : Int), .func (.func 134) #[] #[]] w fun e w' => e = .returned (.tuple #[.int .i64 ((es.length : Nat) : Int), .bool false]) ∧ Old w w' := by
 have HE := Lib.hid h
 have HL := Lib.hid hlt
 clear h hlt
 go_enter Tryz.func133, Tryz.ntmps133
 go_wp2
 go_loopw [9, 10] (fun l h wr => ∃ lo hi : Nat, lo ≤ hi ∧ hi = es.length ∧ l = .int .i64 lo ∧ h = .int .i64 hi ∧ Old w wr) (fun l h _ => (intOf h).toNat - (intOf l).toNat)
 case atStart => exact ⟨0, es.length, Nat.zero_le _, rfl, rfl, rfl, Upd.refl _ w⟩
 case round =>
  obtain ⟨lo, hi, hlh, rfl, rfl, rfl, hO⟩ := hrel
  generalize hN : es.length = hi at *
  have HO := Lib.hid hO
  clear hO
  by_cases hlt : lo < hi
  ·have g1 : IntKind.i64.wrap ((lo : Int) + (hi : Int)) = ((lo + hi : Nat) : Int) := IntWalk.i64_in _ (by omega)
   have hm1 : lo ≤ (lo + hi) / 2 := by omega
   have hm2 : (lo + hi) / 2 < hi := by omega
   have g2 : ((lo : Int) + (hi : Int)) / 2 = (((lo + hi) / 2 : Nat) : Int) := by omega
   generalize (lo + hi) / 2 = m at *
   have g4 : (m : Int) < (hi : Int) := by omega
   obtain ⟨x, hx⟩ : ∃ x, es[m]? = some x := ⟨es[m]'(by omega), List.getElem?_eq_getElem _⟩
   have hxo := HL.out x (List.mem_of_getElem? hx)
   have c0 : wr.cell? ⟨g, m * 6, none⟩ = some (.int .i64 ((x.seq : Nat) : Int)) := Old.cellOf' HO.out (HE.out m x hx 0 _ rfl)
   have c1 := Old.cellOf' HO.out (HE.out m x hx 1 _ rfl)
   have c2 := Old.cellOf' HO.out (HE.out m x hx 2 _ rfl)
   have c3 := Old.cellOf' HO.out (HE.out m x hx 3 _ rfl)
   have c4 := Old.cellOf' HO.out (HE.out m x hx 4 _ rfl)
   have c5 := Old.cellOf' HO.out (HE.out m x hx 5 _ rfl)
   have HC : ∀ w : World, Hid (Calls Tryz.prog 135 #[.int .i64 x.off, .int .i64 off] w fun e w' => e = .returned (.int .i64 (-1)) ∧ w = w') := fun w => by
    have := cmp_int (w := w) (a := x.off) (b := off)
    rw [show cmpI (x.off : Int) (off : Int) = -1 by unfold cmpI; rw [if_pos (by omega)]] at this
    exact this
   clear hxo
   go_wp2_with (first | (go_at_call 135; refine (HC _).out.mono ?_; rintro e w1 ⟨rfl, rfl⟩) | go_in)
   exact ⟨⟨m + 1, hi, by omega, rfl, by go_num, rfl, (HO.out.alloc _)⟩, by simp [intOf]; omega⟩
  ·obtain rfl : lo = hi := by omega
   go_wp2
   go_ret2
   rw [hN]
   exact ⟨rfl, HO.out⟩
theorem bs_off_nil {w : World} {off : Nat} :
 Calls Tryz.prog 133 #[.slice none 0 0, .int .i64 ((off : Nat) : Int), .func (.func 134) #[] #[]] w fun e w' => e = .returned (.tuple #[.int .i64 0, .bool false]) ∧ w = w' := by
 go_enter Tryz.func133, Tryz.ntmps133
 go_wp2
 go_loopw [9, 10] (fun l h wr => l = .int .i64 0 ∧ h = .int .i64 0 ∧ w = wr) (fun l h _ => 0)
 case atStart => exact ⟨rfl, rfl, rfl⟩
 case round =>
  obtain ⟨rfl, rfl, rfl⟩ := hrel
  go_wp2
  go_ret2
  exact ⟨rfl, rfl⟩
theorem bs_new_nil {w : World} {t : Ent} :
 Calls Tryz.prog 137 #[.slice none 0 0, t.val, .func (.func 138) #[] #[]] w fun e w' => e = .returned (.tuple #[.int .i64 0, .bool false]) ∧ Old w w' := by
 go_enter Tryz.func137, Tryz.ntmps137
 unfold Ent.val
 go_wp2
 have HO := Lib.hid ((Upd.refl (fun _ => False) w).alloc (.cells #[.int .i64 ((t.seq : Nat) : Int), .string t.key, .bool t.del, .int .i64 ((t.slot : Nat) : Int), .int .i64 ((t.off : Nat) : Int), .int .i64 ((t.size : Nat) : Int)] 47))
 generalize hW : World.alloc w _ = W at HO ⊢
 clear hW
 go_loopw [9, 10] (fun l h wr => l = .int .i64 0 ∧ h = .int .i64 0 ∧ W = wr) (fun l h _ => 0)
 case atStart => exact ⟨rfl, rfl, rfl⟩
 case round =>
  obtain ⟨rfl, rfl, rfl⟩ := hrel
  go_wp2
  go_quiet (fail)
  go_wp2
  go_ret2
  exact ⟨rfl, HO.out.drewN _⟩
theorem bs_off_any {w : World} {v : Value} {off : Nat} {es : List Ent} (h : EntsAt w v es) (hn : es.length ≤ 1000) (hlt : ∀ e ∈ es, e.off < off) :
 Calls Tryz.prog 133 #[v, .int .i64 ((off : Nat) : Int), .func (.func 134) #[] #[]] w fun e w' => e = .returned (.tuple #[.int .i64 ((es.length : Nat) : Int), .bool false]) ∧ Old w w' := by
 rcases h with ⟨rfl, rfl⟩ | ⟨g, c, rfl, h⟩
 ·exact bs_off_nil.mono fun e w' ⟨h1, h2⟩ => ⟨h1, h2 ▸ Upd.refl _ _⟩
 ·exact bs_off h hn hlt
theorem oitems {w : World} {O : Nat} {v : Value} (h0 : w.cell? ⟨O, 0, none⟩ = some (.bool true)) (h1 : w.cell? ⟨O, 1, none⟩ = some v) :
 Calls Tryz.prog 226 #[.pointer (some ⟨O, 0, none⟩)] w fun e w' => e = .returned v ∧ w = w' := by
 go_enter Tryz.func226, Tryz.ntmps226
 go_wp2
 go_ret
 exact ⟨rfl, rfl⟩
def keyLt (a b : ByteArray) : Bool := Op.bytesLess a.toList b.toList
theorem ogeq {w : World} {P : Nat} {a k : ByteArray} {v : Value} (h : w.cell? ⟨P, 0, none⟩ = some (.string k)) :
 Calls Tryz.prog 235 #[.agg #[.string a, v], .pointer (some ⟨P, 0, none⟩)] w fun e w' => e = .returned (.bool (!(keyLt a k))) ∧ Old w w' := by
 have hP : P < w.heap.size := World.block_lt_of_cell? w _ h
 go_enter Tryz.func235, Tryz.ntmps235
 go_wp2
 go_ret
 exact ⟨rfl, (Upd.refl _ w).alloc _⟩
theorem ofirst {w : World} {P B n c : Nat} {k : ByteArray} {key : Nat → ByteArray} {val : Nat → Value} (hP : w.cell? ⟨P, 0, none⟩ = some (.string k)) (hn : n ≤ 100000) (hs : ∀ i j, i ≤ j → j < n → keyLt (key j) k = true → keyLt (key i) k = true)
 (h0 : ∀ i, i < n → w.cell? ⟨B, i * 2, none⟩ = some (.string (key i))) (h1 : ∀ i, i < n → w.cell? ⟨B, i * 2 + 1, none⟩ = some (val i)) :
 Calls Tryz.prog 234 #[.slice (some ⟨B, 0, none⟩) n c, .func (.func 235) #[] #[.pointer (some ⟨P, 0, none⟩)]] w fun e w' => ∃ r : Nat, r ≤ n ∧ e = .returned (.int .i64 ((r : Nat) : Int)) ∧ (∀ i, i < r → keyLt (key i) k = true) ∧ (∀ i, r ≤ i → i < n → keyLt (key i) k = false) ∧ Old w w' := by
 have HP := Lib.hid hP
 have H0 := Lib.hid h0
 have H1 := Lib.hid h1
 have HS := Lib.hid hs
 clear hP h0 h1 hs
 go_enter Tryz.func234, Tryz.ntmps234
 go_wp2
 go_loopw [5, 6] (fun l h wr => ∃ lo hi : Nat, lo ≤ hi ∧ hi ≤ n ∧ l = .int .i64 lo ∧ h = .int .i64 hi ∧ (∀ i, i < lo → keyLt (key i) k = true) ∧ (∀ i, hi ≤ i → i < n → keyLt (key i) k = false) ∧ Old w wr) (fun l h _ => (intOf h).toNat - (intOf l).toNat)
 case atStart => exact ⟨0, n, Nat.zero_le _, Nat.le_refl _, rfl, rfl, fun i hi => by omega, fun i h1 h2 => by omega, Upd.refl _ _⟩
 case round =>
  obtain ⟨lo, hi, hlh, hhn, rfl, rfl, hL, hH, hO⟩ := hrel
  have HL := Lib.hid hL
  have HH := Lib.hid hH
  have HO := Lib.hid hO
  clear hL hH hO
  by_cases hlt : lo < hi
  ·have g1 : IntKind.i64.wrap ((lo : Int) + (hi : Int)) = ((lo + hi : Nat) : Int) := IntWalk.i64_in _ (by omega)
   have hm1 : lo ≤ (lo + hi) / 2 := by omega
   have hm2 : (lo + hi) / 2 < hi := by omega
   have g2 : ((lo : Int) + (hi : Int)) / 2 = (((lo + hi) / 2 : Nat) : Int) := by omega
   generalize (lo + hi) / 2 = m at *
   have g4 : (m : Int) < (n : Int) := by omega
   have g5 : m < n := by omega
   have c0 := Old.cellOf' HO.out (H0.out m (by omega))
   have c1 := Old.cellOf' HO.out (H1.out m (by omega))
   have HC := Lib.hid (ogeq (a := key m) (v := val m) (Old.cellOf' HO.out HP.out))
   go_wp2_with (first | (go_at_call 235; refine HC.out.mono ?_; rintro e w1 ⟨rfl, hO1⟩))
   ·rename_i hb
    have hb' : keyLt (key m) k = false := by simpa using hb
    refine ⟨⟨lo, m, hm1, by omega, rfl, rfl, HL.out, fun i h1 h2 => ?_, HO.out.trans hO1⟩, by simp [intOf]; omega⟩
    cases hq : keyLt (key i) k with
    | false => rfl
    | true =>
     have := HS.out m i h1 h2 hq
     rw [hb'] at this
     cases this
   ·rename_i hb
    have hb' : keyLt (key m) k = true := by simpa using hb
    exact ⟨⟨m + 1, hi, by omega, hhn, by go_num, rfl, fun i h1 => HS.out i m (by omega) (by omega) hb', HH.out, HO.out.trans hO1⟩, by simp [intOf]; omega⟩
  ·obtain rfl : lo = hi := by omega
   go_wp2
   go_ret
   exact ⟨lo, hhn, rfl, HL.out, HH.out, HO.out⟩
structure MapAt (w : World) (O B n c : Nat) (key : Nat → ByteArray) (val : Nat → Value) : Prop where
 made : w.cell? ⟨O, 0, none⟩ = some (.bool true)
 list : w.cell? ⟨O, 1, none⟩ = some (.slice (some ⟨B, 0, none⟩) n c)
 ks : ∀ i, i < n → w.cell? ⟨B, i * 2, none⟩ = some (.string (key i))
 vs : ∀ i, i < n → w.cell? ⟨B, i * 2 + 1, none⟩ = some (val i)
 sorted : ∀ k i j, i ≤ j → j < n → keyLt (key j) k = true → keyLt (key i) k = true
 few : n ≤ 100000
theorem orank {w : World} {O B n c : Nat} {k : ByteArray} {key : Nat → ByteArray} {val : Nat → Value} (h : MapAt w O B n c key val) :
 Calls Tryz.prog 171 #[.pointer (some ⟨O, 0, none⟩), .string k] w fun e w' => ∃ r : Nat, r ≤ n ∧ e = .returned (.int .i64 ((r : Nat) : Int)) ∧ (∀ i, i < r → keyLt (key i) k = true) ∧ (∀ i, r ≤ i → i < n → keyLt (key i) k = false) ∧ Old w w' := by
 have O1 : Old w (w.alloc (.cells #[.string k] 9)) := (Upd.refl _ w).alloc _
 have HF := Lib.hid (ofirst (w := w.alloc (.cells #[.string k] 9)) (P := w.heap.size) (B := B) (n := n) (c := c) (k := k) (key := key) (val := val) (by simp) h.few (h.sorted k) (fun i hi => Old.cellOf' O1 (h.ks i hi)) (fun i hi => Old.cellOf' O1 (h.vs i hi)))
 have HI := Lib.hid (oitems (Old.cellOf' O1 h.made) (Old.cellOf' O1 h.list))
 have HO := Lib.hid O1
 clear O1 h
 go_enter Tryz.func171, Tryz.ntmps171
 go_wp2_with (first | (go_at_call 226; refine HI.out.mono ?_; rintro e w1 ⟨rfl, rfl⟩) | (go_at_call 234; refine HF.out.mono ?_; rintro e w2 ⟨r, hr, rfl, ha, hb, hO⟩))
 go_ret
 exact ⟨r, hr, rfl, ha, hb, HO.out.trans hO⟩
theorem MapAt.old {w w' : World} {O B n c : Nat} {key : Nat → ByteArray} {val : Nat → Value} (h : MapAt w O B n c key val) (U : Old w w') : MapAt w' O B n c key val :=
 ⟨Old.cellOf' U h.made, Old.cellOf' U h.list, fun i hi => Old.cellOf' U (h.ks i hi), fun i hi => Old.cellOf' U (h.vs i hi), h.sorted, h.few⟩
theorem key_eq (a b : ByteArray) : a.toList = b.toList ↔ a = b := by
 rw [ByteArray.toList_eq, ByteArray.toList_eq]
 constructor
 ·intro h
  exact ByteArray.ext (Array.toList_inj.1 h)
 ·rintro rfl
  rfl
theorem ofind {w : World} {O B n c : Nat} {k : ByteArray} {key : Nat → ByteArray} {val : Nat → Value} (h : MapAt w O B n c key val) :
 Calls Tryz.prog 164 #[.pointer (some ⟨O, 0, none⟩), .string k] w fun e w' => ∃ (r : Nat) (b : Bool), r ≤ n ∧ e = .returned (.tuple #[.int .i64 ((r : Nat) : Int), .bool b]) ∧ (b = true ↔ r < n ∧ key r = k) ∧ (∀ i, i < r → keyLt (key i) k = true) ∧ (∀ i, r ≤ i → i < n → keyLt (key i) k = false) ∧ Old w w' := by
 have HR := Lib.hid (fun (w' : World) (U : Old w w') => orank (k := k) (h.old U))
 have HI := Lib.hid (fun (w' : World) (U : Old w w') => oitems (h.old U).made (h.old U).list)
 have hM := Lib.hid h
 clear h
 go_enter Tryz.func164, Tryz.ntmps164
 go_wp2_with (first | (go_at_call 171; refine (HR.out _ (Upd.refl _ _)).mono ?_; rintro e w1 ⟨r, hr, rfl, ha, hb, hO⟩; have M1 := hM.out.old hO; have HO := Lib.hid hO; clear hO) | (go_at_call 226; refine (HI.out _ HO.out).mono ?_; rintro e w2 ⟨rfl, rfl⟩; have HA := Lib.hid ha; have HB := Lib.hid hb; clear ha hb))
 by_cases hrn : r < n
 ·have g1 : (r : Int) < (n : Int) := by omega
  have cr := M1.ks r hrn
  clear M1
  go_quiet (fail)
  go_wp2
  go_ret2
  refine ⟨r, _, hr, rfl, ?_, HA.out, HB.out, HO.out.drewN _⟩
  simp [hrn, key_eq]
 ·have g1 : ¬ ((r : Int) < (n : Int)) := by omega
  clear M1
  go_quiet (fail)
  go_wp2
  go_ret2
  exact ⟨r, hr, .inl ⟨rfl, fun h => absurd h hrn, HA.out, HB.out, HO.out.drewN _⟩⟩
def FindPost (w : World) (n : Nat) (k : ByteArray) (key : Nat → ByteArray) (e : Ending) (w' : World) : Prop := ∃ (r : Nat) (b : Bool), r ≤ n ∧ e = .returned (.tuple #[.int .i64 ((r : Nat) : Int), .bool b]) ∧ (b = true ↔ r < n ∧ key r = k) ∧ (∀ i, i < r → keyLt (key i) k = true) ∧ (∀ i, r ≤ i → i < n → keyLt (key i) k = false) ∧ Old w w'
def GetPost (w : World) (n : Nat) (k : ByteArray) (key : Nat → ByteArray) (val : Nat → Value) (e : Ending) (w' : World) : Prop := ∃ (r : Nat), r ≤ n ∧ (∀ i, i < r → keyLt (key i) k = true) ∧ (∀ i, r ≤ i → i < n → keyLt (key i) k = false) ∧ Old w w' ∧ ((r < n ∧ key r = k ∧ e = .returned (.tuple #[val r, .bool true])) ∨ (¬ (r < n ∧ key r = k) ∧ e = .returned (.tuple #[.slice none 0 0, .bool false])))
theorem oget {w : World} {O B n c : Nat} {k : ByteArray} {key : Nat → ByteArray} {val : Nat → Value} (h : MapAt w O B n c key val) :
 Calls Tryz.prog 90 #[.pointer (some ⟨O, 0, none⟩), .string k] w (GetPost w n k key val) := by
 have HF := Lib.hid (show Calls _ _ _ _ (FindPost w n k key) from ofind (k := k) h)
 have hM := Lib.hid h
 clear h
 go_enter Tryz.func90, Tryz.ntmps90
 go_wp2_with (first | (go_at_call 164; refine HF.out.mono ?_; rintro e w1 ⟨r, b, hr, rfl, hb, ha, hb2, hO⟩; have M1 := hM.out.old hO; have HO := Lib.hid hO; have HA := Lib.hid ha; have HB := Lib.hid hb2; clear hO ha hb2; refine Hid.out ?_))
 cases b with
 | false =>
  have hb' : ¬ (r < n ∧ key r = k) := fun h => by have := hb.2 h; cases this
  clear hb M1
  refine Lib.hid ?_
  go_wp2
  go_ret2
  exact ⟨r, hr, HA.out, HB.out, HO.out, .inr ⟨hb', rfl⟩⟩
 | true =>
  have hb' := hb.1 rfl
  have g1 : (r : Int) < (n : Int) := by omega
  have g2 : r < n := hb'.1
  have c0 := M1.list
  have c1 := M1.vs r g2
  have HK := Lib.hid hb'
  clear hb M1 hb'
  refine Lib.hid ?_
  go_wp2
  go_ret2
  exact ⟨r, hr, HA.out, HB.out, HO.out, .inl ⟨HK.out.1, HK.out.2, rfl⟩⟩
theorem info_item : (Tryz.prog.info? 233).map (fun i => (i.zero, i.size, i.bytes)) = some (some (.agg #[.string ⟨#[]⟩, .slice none 0 0]), 2, 40) := by kernel_rfl
theorem insI_end {w : World} {v : Value} {n c : Nat} {xs el : List Value} {ad : Addr} (own : w.ownsRow 0 233 2 v n xs) (hl : el.length = 2) (he : ∀ j u, el[j]? = some u → w.cell? (ad.add j) = some u) (h1 : ∀ u ∈ el, u.oneCell' = true) (hn : n ≤ 1000) :
 Calls Tryz.prog 165 #[v, .int .i64 ((n : Nat) : Int), .slice (some ad) 1 c] w (InsPost w v 233 2 (n + 1) (xs ++ el)) := by
 obtain ⟨i0, hi0, hz0, hz1, hz2⟩ := info_parts info_item
 obtain ⟨va, vc, rfl⟩ := own_slice own
 have HO := Lib.hid own
 have HE := Lib.hid he
 have HL := Lib.hid hl
 clear own he hl
 go_enter Tryz.func165, Tryz.ntmps165
 go_wp2_with (first | (at_builtin; refine wpList_append_mk2 rfl (.tmp 23) (.tmp 24) 225 225 rfl 233 i0 (.agg #[.string ⟨#[]⟩, .slice none 0 0]) 2 40 Tryz.underlying225 Tryz.underlying225 hi0 hz0 hz1 hz2 rfl (by decide) (.slice va n vc) n xs rfl HO.out ad 1 c el rfl HL.out HE.out h1 (by unfold maxLen; omega) (by omega) ?_; intro v' w1 hown' hgrow hnil hfresh))
 all_goals
  go_wp2
  go_ret
  exact ⟨_, rfl, hown', (Upd.refl _ _).grown hgrow (fun k hk => .inl (by revert hk; cases va <;> exact id)), fun b hb => (hfresh b hb).imp (by cases va <;> exact id) id⟩
theorem insI_full {w : World} {g n i c : Nat} {xs el : List Value} {ad : Addr} {cur : Array Value} (hg : Has w g 233 cur) (hx : cur.toList.take (n * 2) = xs) (hxl : xs.length = n * 2) (hl : el.length = 2) (he : ∀ j u, el[j]? = some u → w.cell? (ad.add j) = some u) (h1 : ∀ u ∈ el, u.oneCell' = true) (hx1 : ∀ u ∈ xs, u.oneCell' = true) (hn : n ≤ 1000) (hi : i < n) :
 Calls Tryz.prog 165 #[.slice (some ⟨g, 0, none⟩) n n, .int .i64 ((i : Nat) : Int), .slice (some ad) 1 c] w (InsPost w (.slice (some ⟨g, 0, none⟩) n n) 233 2 (n + 1) (xs.take (i * 2) ++ el ++ xs.drop (i * 2))) := by
 obtain ⟨i0, hi0, hz0, hz1, hz2⟩ := info_parts info_item
 have HE := Lib.hid he
 have HL := Lib.hid hl
 have HG := Lib.hid hg
 have HX := Lib.hid hx
 clear hg he hl hx
 have e1 : ((i : Int) == (n : Int)) = false := by rw [beq_eq_false_iff_ne]; omega
 have e2 : ¬ n = i := by omega
 have e3 : ¬ i = n := by omega
 have hcell : ∀ j u, xs[j]? = some u → w.cell? ⟨g, j, none⟩ = some u := by
  intro j u hj
  rw [HG.out.cell j]
  have hlt : j < n * 2 := by rw [← hxl]; exact (List.getElem?_eq_some_iff.1 hj).1
  rw [← HX.out, List.getElem?_take_of_lt hlt] at hj
  simpa using hj
 have holds : ∀ j u, (xs.take (i * 2))[j]? = some u → w.cell? ((⟨g, 0, none⟩ : Addr).add j) = some u := by
  intro j u hj
  have h2 : xs[j]? = some u := by
   have hlt : j < i * 2 := by
    have := (List.getElem?_eq_some_iff.1 hj).1
    simp at this
    omega
   rwa [List.getElem?_take_of_lt hlt] at hj
  have := hcell j u h2
  rwa [show (⟨g, 0, none⟩ : Addr).add j = ⟨g, j, none⟩ from by unfold Addr.add; split <;> simp_all]
 have HCELL := Lib.hid hcell
 have HOLDS := Lib.hid holds
 have em : i + (n + 1 - i) = n + 1 := by omega
 have hgl := HG.out.lt
 clear hcell holds
 have EM := Lib.hid em
 have HSZ : Hid ((Tryz.prog.info? 233).map (·.size) = some 2) := Lib.hid (by rw [hi0]; simp [hz1])
 clear em
 go_enter Tryz.func165, Tryz.ntmps165
 go_wp2_with (first | (at_builtin; refine wpList_append_zeros rfl (.tmp 34) (.tmp 39) 225 3 rfl 233 i0 (.agg #[.string ⟨#[]⟩, .slice none 0 0]) .i64 2 40 Tryz.underlying225 Tryz.underlying3 hi0 hz0 hz1 hz2 rfl (by decide) ⟨g, 0, none⟩ i n rfl (xs.take (i * 2)) (by simp [hxl]; omega) HOLDS.out (n + 1 - i) (by rw [show ((n + 1 - i : Nat) : Int) = (n : Int) + 1 - (i : Int) from by omega]; rfl) (by omega) (by omega) (by omega) (by omega) ?_; rw [EM.out]; intro C cur1 w1 hC hC2 hcl hct hcg hO; have hcl2 : i * 2 + 2 ≤ cur1.length := (by rw [hcl.out]; omega); refine Hid.out ?_))
 show wpList _ _ _ _ _ _
 go_wp2_with (first | (refine wpList_copy_k rfl (.tmp 43) (.tmp 44) 225 225 rfl 233 2 Tryz.underlying225 HSZ.out w.heap.size (i * 2) (n + 1 - i) (C - i) ad 1 c rfl rfl cur1 233 hcg.out el 1 (Nat.min_eq_left (by omega)) (by rw [HL.out]) (fun j v hv => Old.cellOf' hO.out (HE.out j v hv)) (by rw [HL.out]; exact hcl2) h1 ?_; intro w2 hcg2 hU2; refine Hid.out ?_))
 show wpList _ _ _ _ _ _
 have hsrc : Hid (∀ j u, (xs.drop (i * 2))[j]? = some u → w2.drew.cell? ((⟨g, i * 2, none⟩ : Addr).add j) = some u) := by
  intro j u hj
  rw [List.getElem?_drop] at hj
  have h0 := Old.cellOf' hO.out (HCELL.out _ _ hj)
  have h3 := hU2.out.cellOf h0 (by omega)
  rw [show (⟨g, i * 2, none⟩ : Addr).add j = ⟨g, i * 2 + j, none⟩ from by unfold Addr.add; split <;> simp_all]
  exact h3
 go_wp2_with fail
 have g1 : IntKind.i64.wrap ((i : Int) + 1) = (i : Int) + 1 := IntWalk.i64_in _ (by omega)
 have g2 : (0 : Int) ≤ (i : Int) + 1 := by omega
 have g3 : ((i : Int) + 1).toNat = i + 1 := by omega
 have g4 : (i : Int) + 1 ≤ (n : Int) + 1 := by omega
 have g5 : ¬ C = i + 1 := by omega
 have g6 : ¬ i + 1 = C := by omega
 have g7 : (i : Int) ≤ (n : Int) := by omega
 have g8 : i + 1 ≤ n + 1 := by omega
 have g9 : i ≤ n := by omega
 have g10 : n + 1 ≤ C := hC
 have g11 : ¬ C ≤ i + 1 := by omega
 have g12 : ¬ n ≤ i := by omega
 go_still_tail 8, (by kernel_rfl)
 change wpList _ _ _ _ _ w2.drew
 have hlen : (splice cur1 (i * 2) el).length = C * 2 := by rw [length_splice _ _ _ (by rw [HL.out]; exact hcl2), hcl.out]
 refine wpList_copy_k rfl (.tmp 50) (.tmp 53) 225 225 rfl 233 2 Tryz.underlying225 HSZ.out w.heap.size ((i + 1) * 2) _ _ ⟨g, i * 2, none⟩ (n - i) (n - i) rfl rfl (splice cur1 (i * 2) el) 233 (by exact hcg2.out) (xs.drop (i * 2)) (n - i) (Nat.min_eq_left (by omega)) (by simp [hxl]; omega) hsrc.out (by rw [hlen]; simp [hxl]; omega) (fun v hv => hx1 v (List.mem_of_mem_drop hv)) ?_
 intro w3 hcg3 hU3
 go_wp2
 go_ret
 refine ⟨_, rfl, ⟨?_, .inr ⟨w.heap.size, C, (splice (splice cur1 (i * 2) el) ((i + 1) * 2) (xs.drop (i * 2))).toArray, rfl, Nat.zero_le _, hcg3.out, hC, hC2, ?_, ?_⟩⟩, ?_, ?_⟩
 ·simp [hxl, HL.out]; omega
 ·simp only [List.size_toArray]
  rw [length_splice _ _ _ (by rw [hlen]; simp [hxl]; omega), hlen]
 ·have h1 := splice_insert cur1 (xs.take (i * 2)) el (xs.drop (i * 2)) (i * 2) hct.out (by simp [hxl]; omega)
  have e1 : i * 2 + el.length = (i + 1) * 2 := by rw [HL.out]; omega
  have e2 : (i + 1) * 2 + (xs.drop (i * 2)).length = (n + 1) * 2 := by simp [hxl]; omega
  rw [e1, e2] at h1
  rw [List.append_assoc] at h1
  simpa using h1
 ·exact (((hO.out.mono (fun _ _ h => h.elim)).after hU2.out (fun b hb hf => by omega)).drew).after hU3.out (fun b hb hf => by omega)
 ·intro b hb
  have : w.heap.size = b := by simpa [Value.ownBlock] using hb
  exact .inr (by omega)
theorem insI_room {w : World} {g n i c cap : Nat} {xs el : List Value} {V : Nat} {tV : TypeId} {cV : Array Value} {cur : Array Value} (hg : Has w g 233 cur) (hcs : cur.size = cap * 2) (hx : cur.toList.take (n * 2) = xs) (hxl : xs.length = n * 2) (hl : el.length = 2) (he : ∀ j u, el[j]? = some u → w.cell? ((⟨V, 0, none⟩ : Addr).add j) = some u) (h1 : ∀ u ∈ el, u.oneCell' = true) (hx1 : ∀ u ∈ xs, u.oneCell' = true) (hn : n ≤ 1000) (hi : i < n) (hcap : n + 1 ≤ cap) (hcm : cap ≤ maxLen) (hag : V ≠ g) (hV : Has w V tV cV) :
 Calls Tryz.prog 165 #[.slice (some ⟨g, 0, none⟩) n cap, .int .i64 ((i : Nat) : Int), .slice (some ⟨V, 0, none⟩) 1 c] w (InsPost w (.slice (some ⟨g, 0, none⟩) n cap) 233 2 (n + 1) (xs.take (i * 2) ++ el ++ xs.drop (i * 2))) := by
 obtain ⟨i0, hi0, hz0, hz1, hz2⟩ := info_parts info_item
 have HE := Lib.hid he
 have HL := Lib.hid hl
 have HG := Lib.hid hg
 have HX := Lib.hid hx
 have HCS := Lib.hid hcs
 clear hg he hl hx hcs
 have HV := Lib.hid hV
 clear hV
 unfold maxLen at hcm
 have hov : (callFunc 227 #[.slice (some ⟨V, 0, none⟩) 1 c, .slice (some ⟨g, (i + 1) * 2, none⟩) (n - i) (cap - (i + 1))]).run Tryz.prog w = .ok (.value (.bool false)) w :=
  callFunc_ext' (fn := Tryz.f227) (by kernel_rfl) (by kernel_rfl) (by kernel_rfl) (by kernel_rfl) (g := Extern.SlicesOverlaps.overlaps #[225, 225] #[4]) (by kernel_rfl) (run_overlaps_no rfl Tryz.underlying225 hi0 HG.out HV.out hag _ _ _ _ _ _)
 have e1 : ((i : Int) == (n : Int)) = false := by rw [beq_eq_false_iff_ne]; omega
 have e2 : ¬ n = i := by omega
 have e3 : ¬ i = n := by omega
 have e4 : ¬ cap < n + 1 := by omega
 have e5 : ¬ (cap : Int) < (n : Int) + 1 := by omega
 have e6 : ¬ cap = i := by omega
 have e7 : ¬ cap = i + 1 := by omega
 go_enter Tryz.func165, Tryz.ntmps165
 have HSZ : Hid ((Tryz.prog.info? 233).map (·.size) = some 2) := Lib.hid (by rw [hi0]; simp [hz1])
 have hcell : ∀ j u, xs[j]? = some u → w.cell? ⟨g, j, none⟩ = some u := by
  intro j u hj
  rw [HG.out.cell j]
  have hlt : j < n * 2 := by rw [← hxl]; exact (List.getElem?_eq_some_iff.1 hj).1
  rw [← HX.out, List.getElem?_take_of_lt hlt] at hj
  simpa using hj
 have hsrc : Hid (∀ j u, (xs.drop (i * 2))[j]? = some u → w.drew.cell? ((⟨g, i * 2, none⟩ : Addr).add j) = some u) := by
  intro j u hj
  rw [List.getElem?_drop] at hj
  have h0 := hcell _ _ hj
  rw [show (⟨g, i * 2, none⟩ : Addr).add j = ⟨g, i * 2 + j, none⟩ from by unfold Addr.add; split <;> simp_all]
  exact h0
 clear hcell
 go_wp2_with fail
 have g1 : IntKind.i64.wrap ((i : Int) + 1) = (i : Int) + 1 := IntWalk.i64_in _ (by omega)
 have g2 : (0 : Int) ≤ (i : Int) + 1 := by omega
 have g3 : ((i : Int) + 1).toNat = i + 1 := by omega
 have g4 : (i : Int) + 1 ≤ (n : Int) + 1 := by omega
 have g5 : ¬ cap = i + 1 := by omega
 have g6 : ¬ i + 1 = cap := by omega
 have g7 : (i : Int) ≤ (n : Int) := by omega
 have g8 : i + 1 ≤ n + 1 := by omega
 have g9 : i ≤ n := by omega
 have g11 : ¬ cap ≤ i + 1 := by omega
 have g12 : ¬ n ≤ i := by omega
 have g13 : (i : Int) ≤ (n : Int) + 1 := by omega
 have g14 : i ≤ n + 1 := by omega
 have g15 : ¬ cap ≤ i := by omega
 clear hov
 go_still_tail 8, (by kernel_rfl)
 change wpList _ _ _ _ _ w.drew
 refine wpList_copy_k rfl (.tmp 73) (.tmp 76) 225 225 rfl 233 2 Tryz.underlying225 HSZ.out g ((i + 1) * 2) _ _ ⟨g, i * 2, none⟩ _ _ rfl rfl cur.toList 233 (by simpa using HG.out.drew) (xs.drop (i * 2)) (n - i) ?x1 (by simp [hxl]; omega) hsrc.out (by simp [hxl, HCS.out]; omega) (fun v hv => hx1 v (List.mem_of_mem_drop hv)) ?_
 case x1 => show min _ _ = _; omega
 intro w2 hcg2 hU2
 have hlen : (splice cur.toList ((i + 1) * 2) (xs.drop (i * 2))).length = cap * 2 := by rw [length_splice _ _ _ (by simp [hxl, HCS.out]; omega)]; simp [HCS.out]
 have hE2 : Hid (∀ j u, el[j]? = some u → w2.cell? ((⟨V, 0, none⟩ : Addr).add j) = some u) := by
  intro j u hj
  have h0 := HE.out j u hj
  have hb : ((⟨V, 0, none⟩ : Addr).add j) = ⟨V, j, none⟩ := by unfold Addr.add; split <;> simp_all
  rw [hb] at h0 ⊢
  exact hU2.out.cellOf (w := w.drew) h0 hag
 have HLEN := Lib.hid hlen
 clear hlen
 go_wp2_with (first | (refine wpList_copy_k rfl (.tmp 80) (.tmp 81) 225 225 rfl 233 2 Tryz.underlying225 HSZ.out g (i * 2) _ _ ⟨V, 0, none⟩ 1 c rfl rfl (splice cur.toList ((i + 1) * 2) (xs.drop (i * 2))) 233 hcg2.out el 1 (Nat.min_eq_left (by omega)) (by rw [HL.out]) hE2.out (by rw [HL.out, HLEN.out]; omega) h1 ?_; intro w3 hcg3 hU3))
 go_ret
 have hUd : Upd (fun b => (Value.slice (some ⟨g, 0, none⟩) n cap).ownBlock = some b) w w3 := (((Upd.refl _ w).drew).after hU2.out (fun b hb hf => by subst hf; rfl)).after hU3.out (fun b hb hf => by subst hf; rfl)
 refine ⟨_, rfl, ⟨?_, .inr ⟨g, cap, (splice (splice cur.toList ((i + 1) * 2) (xs.drop (i * 2))) (i * 2) el).toArray, rfl, Nat.zero_le _, hcg3.out, hcap, hcm, ?_, ?_⟩⟩, hUd, ?_⟩
 ·simp [hxl, HL.out]; omega
 ·simp only [List.size_toArray]
  rw [length_splice _ _ _ (by rw [HLEN.out, HL.out]; omega), HLEN.out]
 ·have hA : cur.toList.take (i * 2) = xs.take (i * 2) := by rw [← HX.out, List.take_take, Nat.min_eq_left (by omega)]
  have h1 := splice_insert2 cur.toList (xs.take (i * 2)) el (xs.drop (i * 2)) (i * 2) hA (by simp [hxl]; omega) (by simp [HL.out, HCS.out]; omega)
  have e1 : i * 2 + el.length = (i + 1) * 2 := by rw [HL.out]; omega
  have e2 : (i + 1) * 2 + (xs.drop (i * 2)).length = (n + 1) * 2 := by simp [hxl]; omega
  rw [e1, e2] at h1
  rw [List.append_assoc] at h1
  simpa using h1
 ·intro b hb
  exact .inl hb
theorem insI {w : World} {v : Value} {n i c V : Nat} {xs el : List Value} {tV : TypeId} {cV : Array Value} (own : w.ownsRow 0 233 2 v n xs) (hl : el.length = 2) (he : ∀ j u, el[j]? = some u → w.cell? ((⟨V, 0, none⟩ : Addr).add j) = some u) (h1 : ∀ u ∈ el, u.oneCell' = true) (hx1 : ∀ u ∈ xs, u.oneCell' = true) (hn : n ≤ 1000) (hi : i ≤ n) (hV : Has w V tV cV) (hag : v.ownBlock ≠ some V) :
 Calls Tryz.prog 165 #[v, .int .i64 ((i : Nat) : Int), .slice (some ⟨V, 0, none⟩) 1 c] w (InsPost w v 233 2 (n + 1) (xs.take (i * 2) ++ el ++ xs.drop (i * 2))) := by
 have hxl := own.1
 by_cases e : i = n
 ·subst e
  have h := insI_end own hl he h1 hn (c := c)
  rw [List.take_of_length_le (by omega), List.drop_eq_nil_of_le (by omega), List.append_nil]
  exact h
 ·rcases own.2 with ⟨_, h2⟩ | ⟨g, cap, cur, rfl, hb, hg, hnc, hcm, hcs, htk⟩
  ·omega
  ·have hag' : V ≠ g := fun h => hag (by subst h; rfl)
   by_cases hc : n = cap
   ·subst hc
    exact insI_full hg htk hxl hl he h1 hx1 hn (by omega)
   ·exact insI_room hg hcs htk hxl hl he h1 hx1 hn (by omega) (by omega) hcm hag' hV
theorem ofirst_nil {w : World} {P : Nat} :
 Calls Tryz.prog 234 #[.slice none 0 0, .func (.func 235) #[] #[.pointer (some ⟨P, 0, none⟩)]] w fun e w' => e = .returned (.int .i64 0) ∧ w = w' := by
 go_enter Tryz.func234, Tryz.ntmps234
 go_wp2
 go_loopw [5, 6] (fun l h wr => l = .int .i64 0 ∧ h = .int .i64 0 ∧ w = wr) (fun l h _ => 0)
 case atStart => exact ⟨rfl, rfl, rfl⟩
 case round =>
  obtain ⟨rfl, rfl, rfl⟩ := hrel
  go_wp2
  go_ret
  exact ⟨rfl, rfl⟩
theorem orank_nil {w : World} {O : Nat} {k : ByteArray} (h0 : w.cell? ⟨O, 0, none⟩ = some (.bool true)) (h1 : w.cell? ⟨O, 1, none⟩ = some (.slice none 0 0)) :
 Calls Tryz.prog 171 #[.pointer (some ⟨O, 0, none⟩), .string k] w fun e w' => e = .returned (.int .i64 0) ∧ Old w w' := by
 have O1 : Old w (w.alloc (.cells #[.string k] 9)) := (Upd.refl _ w).alloc _
 have HI := Lib.hid (oitems (Old.cellOf' O1 h0) (Old.cellOf' O1 h1))
 have HO := Lib.hid O1
 clear O1 h0 h1
 go_enter Tryz.func171, Tryz.ntmps171
 go_wp2_with (first | (go_at_call 226; refine HI.out.mono ?_; rintro e w1 ⟨rfl, rfl⟩) | (go_at_call 234; refine ofirst_nil.mono ?_; rintro e w2 ⟨rfl, rfl⟩))
 go_ret
 exact ⟨rfl, HO.out⟩
theorem ofind_nil {w : World} {O : Nat} {k : ByteArray} (h0 : w.cell? ⟨O, 0, none⟩ = some (.bool true)) (h1 : w.cell? ⟨O, 1, none⟩ = some (.slice none 0 0)) :
 Calls Tryz.prog 164 #[.pointer (some ⟨O, 0, none⟩), .string k] w fun e w' => e = .returned (.tuple #[.int .i64 0, .bool false]) ∧ Old w w' := by
 have HI := Lib.hid (fun (w' : World) (U : Old w w') => oitems (Old.cellOf' U h0) (Old.cellOf' U h1))
 have HR := Lib.hid (orank_nil (k := k) h0 h1)
 clear h0 h1
 go_enter Tryz.func164, Tryz.ntmps164
 go_wp2_with (first | (go_at_call 171; refine HR.out.mono ?_; rintro e w1 ⟨rfl, hO⟩; have HO := Lib.hid hO; clear hO) | (go_at_call 226; refine (HI.out _ HO.out).mono ?_; rintro e w2 ⟨rfl, rfl⟩))
 go_quiet (fail)
 go_wp2
 go_ret2
 exact ⟨rfl, HO.out.drewN _⟩
def FindAt (w : World) (n : Nat) (k : ByteArray) (key : Nat → ByteArray) (e : Ending) (w' : World) : Prop := ∃ (r : Nat) (b : Bool), r ≤ n ∧ e = .returned (.tuple #[.int .i64 ((r : Nat) : Int), .bool b]) ∧ (b = true ↔ r < n ∧ key r = k) ∧ (∀ i, i < r → keyLt (key i) k = true) ∧ (∀ i, r ≤ i → i < n → keyLt (key i) k = false) ∧ Old w w'
def itemsOf (n : Nat) (key : Nat → ByteArray) (val : Nat → Value) : List Value := (List.range n).flatMap fun i => [.string (key i), val i]
structure OMap (w : World) (O : Nat) (mv : Value) (n : Nat) (key : Nat → ByteArray) (val : Nat → Value) : Prop where
 made : ∃ t, Has w O t #[.bool true, mv]
 own : w.ownsRow 0 233 2 mv n (itemsOf n key val)
 sorted : ∀ k i j, i ≤ j → j < n → keyLt (key j) k = true → keyLt (key i) k = true
 few : n ≤ 1000
theorem itemsOf_length (n : Nat) (key : Nat → ByteArray) (val : Nat → Value) : (itemsOf n key val).length = n * 2 := by
 induction n with
 | zero => rfl
 | succ n ih => simp only [itemsOf, List.range_succ, List.flatMap_append, List.length_append] at ih ⊢; rw [ih]; simp; omega
theorem itemsOf_cell {n : Nat} {key : Nat → ByteArray} {val : Nat → Value} {i : Nat} (h : i < n) : (itemsOf n key val)[i * 2]? = some (.string (key i)) ∧ (itemsOf n key val)[i * 2 + 1]? = some (val i) := by
 induction n with
 | zero => omega
 | succ n ih =>
  have hl := itemsOf_length n key val
  have he : itemsOf (n + 1) key val = itemsOf n key val ++ [.string (key n), val n] := by simp [itemsOf, List.range_succ]
  rw [he]
  by_cases hi : i < n
  ·rw [List.getElem?_append_left (by omega), List.getElem?_append_left (by omega)]
   exact ih hi
  ·obtain rfl : i = n := by omega
   rw [List.getElem?_append_right (by omega), List.getElem?_append_right (by omega), hl]
   simp
theorem OMap.at {w : World} {O : Nat} {mv : Value} {n : Nat} {key : Nat → ByteArray} {val : Nat → Value} (h : OMap w O mv n key val) :
 (mv = .slice none 0 0 ∧ n = 0 ∧ w.cell? ⟨O, 0, none⟩ = some (.bool true) ∧ w.cell? ⟨O, 1, none⟩ = some (.slice none 0 0)) ∨ ∃ B c, mv = .slice (some ⟨B, 0, none⟩) n c ∧ MapAt w O B n c key val := by
 obtain ⟨⟨t, hO⟩, own, hs, hf⟩ := h
 rcases own.2 with ⟨h1, h2⟩ | ⟨g, c, cur, h1, _⟩
 ·exact .inl ⟨h1, h2, hO.cell 0, by rw [hO.cell 1, h1]; rfl⟩
 ·refine .inr ⟨g, c, h1, hO.cell 0, by rw [hO.cell 1, h1]; rfl, fun i hi => ?_, fun i hi => ?_, hs, by omega⟩
  ·have := own.cells (g := g) (by rw [h1]; rfl) _ _ (itemsOf_cell (key := key) (val := val) hi).1
   rwa [show (⟨g, 0, none⟩ : Addr).add (i * 2) = ⟨g, i * 2, none⟩ from by unfold Addr.add; split <;> simp_all] at this
  ·have := own.cells (g := g) (by rw [h1]; rfl) _ _ (itemsOf_cell (key := key) (val := val) hi).2
   rwa [show (⟨g, 0, none⟩ : Addr).add (i * 2 + 1) = ⟨g, i * 2 + 1, none⟩ from by unfold Addr.add; split <;> simp_all] at this
theorem find_any {w : World} {O : Nat} {mv : Value} {n : Nat} {k : ByteArray} {key : Nat → ByteArray} {val : Nat → Value} (h : OMap w O mv n key val) :
 Calls Tryz.prog 164 #[.pointer (some ⟨O, 0, none⟩), .string k] w (FindAt w n k key) := by
 rcases h.at with ⟨rfl, rfl, h0, h1⟩ | ⟨B, c, rfl, hM⟩
 ·exact (ofind_nil h0 h1).mono fun e w' ⟨h2, h3⟩ => ⟨0, false, Nat.le_refl _, h2, by simp, fun i hi => by omega, fun i h1 h2 => by omega, h3⟩
 ·exact ofind hM
theorem get_any {w : World} {O : Nat} {mv : Value} {n : Nat} {k : ByteArray} {key : Nat → ByteArray} {val : Nat → Value} (h : OMap w O mv n key val) :
 Calls Tryz.prog 90 #[.pointer (some ⟨O, 0, none⟩), .string k] w (GetPost w n k key val) := by
 rcases h.at with ⟨rfl, rfl, h0, h1⟩ | ⟨B, c, rfl, hM⟩
 ·have HF := Lib.hid (ofind_nil (k := k) h0 h1)
  clear h h0 h1
  go_enter Tryz.func90, Tryz.ntmps90
  go_wp2_with (first | (go_at_call 164; refine HF.out.mono ?_; rintro e w1 ⟨rfl, hO⟩; have HO := Lib.hid hO; clear hO))
  go_ret2
  exact ⟨0, Nat.le_refl _, fun i hi => by omega, fun i h1 h2 => by omega, HO.out, .inr ⟨fun h => by omega, rfl⟩⟩
 ·exact oget hM
theorem oset_old {w : World} {O B n c r vn vc : Nat} {va : Option Addr} {k : ByteArray} {key : Nat → ByteArray} {val : Nat → Value} {t : TypeId} {cur : Array Value} (h : MapAt w O B n c key val) (hB : Has w B t cur) (hr : r < n) (hk : key r = k)
 (hF : Calls Tryz.prog 164 #[.pointer (some ⟨O, 0, none⟩), .string k] w fun e w2 => e = .returned (.tuple #[.int .i64 ((r : Nat) : Int), .bool true]) ∧ Old w w2) :
 Calls Tryz.prog 82 #[.pointer (some ⟨O, 0, none⟩), .string k, .slice va vn vc] w fun e w' => e = .returned (.tuple #[val r, .bool true, .int .i64 0]) ∧ ∃ w1, Old w w1 ∧ Old (w1.setCell ⟨B, r * 2 + 1, none⟩ (.slice va vn vc)) w' := by
 have HF := Lib.hid hF
 have E : Hid (∀ w', Old w w' → w'.cell? ⟨O, 0, none⟩ = some (.bool true) ∧ w'.cell? ⟨O, 1, none⟩ = some (.slice (some ⟨B, 0, none⟩) n c) ∧ w'.cell? ⟨B, r * 2, none⟩ = some (.string k) ∧ w'.cell? ⟨B, r * 2 + 1, none⟩ = some (val r) ∧ w'.frozen? ⟨B, r * 2 + 1, none⟩ = false) :=
  fun w' U => ⟨Old.cellOf' U h.made, Old.cellOf' U h.list, by rw [← hk]; exact Old.cellOf' U (h.ks r hr), Old.cellOf' U (h.vs r hr), (U.has hB).frozen _⟩
 obtain ⟨c0, -⟩ := E.out _ (Upd.refl _ _)
 clear hF h hB
 have g1 : (r : Int) < (n : Int) := by omega
 go_enter Tryz.func82, Tryz.ntmps82
 go_wp2_with (first | (go_at_call 164; refine HF.out.mono ?_; rintro e w1 ⟨rfl, hO⟩; obtain ⟨d0, d1, d2, d3, d4⟩ := E.out _ hO; have HO := Lib.hid hO; clear hO))
 go_still_tail 17, (by kernel_rfl)
 change wpList _ _ _ _ _ w1.drew
 go_wp2
 refine bodyPost_ret (results_tmp3 rfl _ _ _) rfl ?_
 exact ⟨rfl, w1.drew, HO.out.drew, Upd.refl _ _⟩
theorem oset_new {w : World} {O n r vn vc : Nat} {va : Option Addr} {mv : Value} {k : ByteArray} {xs : List Value} {t : TypeId} (hO : Has w O t #[.bool true, mv]) (own : w.ownsRow 0 233 2 mv n xs) (hx1 : ∀ u ∈ xs, u.oneCell' = true) (hn : n ≤ 1000) (hr : r ≤ n) (hag : mv.ownBlock ≠ some O)
 (hF : Calls Tryz.prog 164 #[.pointer (some ⟨O, 0, none⟩), .string k] w fun e w2 => e = .returned (.tuple #[.int .i64 ((r : Nat) : Int), .bool false]) ∧ Old w w2) :
 Calls Tryz.prog 82 #[.pointer (some ⟨O, 0, none⟩), .string k, .slice va vn vc] w fun e w' => e = .returned (.tuple #[.slice none 0 0, .bool false, .int .i64 0]) ∧ ∃ w1 v', Upd (fun b => mv.ownBlock = some b) w w1 ∧ w1.ownsRow 0 233 2 v' (n + 1) (xs.take (r * 2) ++ [.string k, .slice va vn vc] ++ xs.drop (r * 2)) ∧ (∀ b, v'.ownBlock = some b → mv.ownBlock = some b ∨ w.heap.size ≤ b) ∧ w' = w1.setCell ⟨O, 1, none⟩ v' := by
 have HF := Lib.hid hF
 have HO := Lib.hid hO
 have HW := Lib.hid own
 clear hF hO own
 have c0 : w.cell? ⟨O, 0, none⟩ = some (.bool true) := HO.out.cell 0
 have hOl := HO.out.lt
 have HI : ∀ w' : World, Old w w' → Hid (Calls Tryz.prog 165 #[mv, .int .i64 ((r : Nat) : Int), .slice (some ⟨w'.heap.size, 0, none⟩) 1 1] (w'.alloc (.cells #[.string k, .slice va vn vc] 233)) (InsPost (w'.alloc (.cells #[.string k, .slice va vn vc] 233)) mv 233 2 (n + 1) (xs.take (r * 2) ++ [.string k, .slice va vn vc] ++ xs.drop (r * 2)))) := by
  intro w' U
  refine insI (Upd.own (U.alloc _) HW.out (fun _ _ x => x)) rfl ?_ ?_ hx1 hn hr (Has.new _ _ _) ?_
  ·intro j u hj
   rw [show (⟨w'.heap.size, 0, none⟩ : Addr).add j = ⟨w'.heap.size, j, none⟩ from by unfold Addr.add; split <;> simp_all]
   rw [(Has.new w' 233 #[.string k, .slice va vn vc]).cell j]
   simpa using hj
  ·intro u hu
   simp at hu
   rcases hu with rfl | rfl <;> rfl
  ·intro h
   have := (HW.out.lt _ h).2
   have := U.size
   omega
 go_enter Tryz.func82, Tryz.ntmps82
 go_wp2_with (first | (go_at_call 164; refine HF.out.mono ?_; rintro e w1 ⟨rfl, hU⟩; have d1 : w1.cell? ⟨O, 1, none⟩ = some mv := Old.cellOf' hU (HO.out.cell 1); have HI1 := HI _ hU; have HU := Lib.hid hU; clear hU HI HF) | (go_at_call 165; refine HI1.out.mono ?_; rintro e w2 ⟨v', rfl, hown, hU2, hfr⟩; have e3 := (hU2.has (Has.alloc (HU.out.has HO.out) _) hag).frozen 1; have e4 : w2.cell? ⟨O, 1, none⟩ = some mv := (hU2.has (Has.alloc (HU.out.has HO.out) _) hag).cell 1; obtain ⟨va', vc', rfl⟩ := own_slice hown; have HW2 := Lib.hid hown; have HU2 := Lib.hid hU2; have HFR := Lib.hid hfr; clear hown hU2 hfr))
 refine bodyPost_ret (results_tmp3 rfl _ _ _) rfl ?_
 refine ⟨rfl, w2, _, (Upd.mono (HU.out.alloc _) (G := fun b => mv.ownBlock = some b) (fun _ _ x => x.elim)).trans HU2.out, HW2.out, fun b hb => ?_, rfl⟩
 rcases HFR.out b hb with h | h
 ·exact .inl h
 ·have := HU.out.size
  simp at h
  exact .inr (by omega)
end Go.M
