/- Walks 31. -/
import Derived.Test.YtjadmbkmlehfdaaGreatDoorProg
import Derived.Test.YtjadmbkmlehfdaaGreatDoorK12
import Derived.Test.YtjadmbkmlehfdaaGreatDoorK29
import Derived.Laws.StructEq
import Derived.Deep.QuietTactic
import Derived.BigQuiet
import Derived.Test.YtjadmbkmlehfdaaGreatDoorK25
set_option linter.unusedVariables false
set_option linter.unusedSimpArgs false
set_option maxRecDepth 100000
namespace Go.M
open Go.Proofs Go.RowKit Go.Shelf
set_option linter.unusedSimpArgs false
def entEq (x y : Ent) : Bool := (((((decide (x.seq = y.seq) && decide (x.key = y.key)) && (x.del == y.del)) && decide (x.slot = y.slot)) && decide (x.off = y.off)) && decide (x.size = y.size))
theorem ent_eq (x y : Ent) (w : World) : (binOp .eql 47 x.val y.val).run Tryz.prog w = .ok (.bool (entEq x y)) w := by
 unfold Ent.val
 rw [run_eql_struct, run_equalIn_agg w 9999 47 _ _ (by kernel_rfl) (by kernel_rfl)]
 simp only [Program.fieldsOf, Tryz.underlying47]
 simp [Op.eqFields, go_sem]
 unfold entEq
 repeat' split
 all_goals (try simp_all [key_eq])
 all_goals (intros; omega)
theorem entEq_iff (x y : Ent) : entEq x y = true ↔ x = y := by
 cases x; cases y
 simp [entEq, and_assoc]
theorem drop1 {w : World} {EB : Nat} {t : TypeId} {e y : Ent} (h : Has w EB t #[.int .i64 ((e.seq : Nat) : Int), .string e.key, .bool e.del, .int .i64 ((e.slot : Nat) : Int), .int .i64 ((e.off : Nat) : Int), .int .i64 ((e.size : Nat) : Int)]) :
 Calls Tryz.prog 92 #[y.val, .pointer (some ⟨EB, 0, none⟩)] w fun en w' => en = .returned (.bool (entEq y e)) ∧ Old w w' := by
 have c0 : w.cell? ⟨EB, 0, none⟩ = some (.int .i64 ((e.seq : Nat) : Int)) := h.cell 0
 have c1 : w.cell? ⟨EB, 1, none⟩ = some (.string e.key) := h.cell 1
 have c2 : w.cell? ⟨EB, 2, none⟩ = some (.bool e.del) := h.cell 2
 have c3 : w.cell? ⟨EB, 3, none⟩ = some (.int .i64 ((e.slot : Nat) : Int)) := h.cell 3
 have c4 : w.cell? ⟨EB, 4, none⟩ = some (.int .i64 ((e.off : Nat) : Int)) := h.cell 4
 have c5 : w.cell? ⟨EB, 5, none⟩ = some (.int .i64 ((e.size : Nat) : Int)) := h.cell 5
 have hq := ent_eq y e
 have hl := h.lt
 clear h
 unfold Ent.val at hq ⊢
 go_enter Tryz.func92, Tryz.ntmps92
 go_wp2
 go_ret
 exact ⟨rfl, (Upd.refl _ w).alloc _⟩
theorem ifunc {w : World} {EB g cap : Nat} {zs : List Ent} {e : Ent} (hE : ∀ W, Old w W → ∀ y : Ent, Calls Tryz.prog 92 #[y.val, .pointer (some ⟨EB, 0, none⟩)] W fun en w' => en = .returned (.bool (entEq y e)) ∧ Old W w')
 (hc : ∀ i x, zs[i]? = some x → ∀ j u, x.cells[j]? = some u → w.cell? ⟨g, i * 6 + j, none⟩ = some u) (hl : zs.length ≤ 10000) :
 Calls Tryz.prog 170 #[.slice (some ⟨g, 0, none⟩) zs.length cap, .func (.func 92) #[] #[.pointer (some ⟨EB, 0, none⟩)]] w fun en w' => Old w w' ∧
  ∃ r : Int, en = .returned (.int .i64 r) ∧ ((r = -1 ∧ ∀ y ∈ zs, entEq y e = false) ∨ ∃ (k : Nat) (x : Ent), r = k ∧ zs[k]? = some x ∧ entEq x e = true ∧ ∀ j y, j < k → zs[j]? = some y → entEq y e = false) := by
 have HE := Lib.hid hE
 have HC := Lib.hid hc
 clear hE hc
 go_enter Tryz.func170, Tryz.ntmps170
 go_wp2
 go_loopw [8] (fun i wr => ∃ k : Nat, k ≤ zs.length ∧ i = .int .i64 k ∧ Old w wr ∧ ∀ j y, j < k → zs[j]? = some y → entEq y e = false) (fun i _ => zs.length - (intOf i).toNat)
 case atStart => exact ⟨0, Nat.zero_le _, rfl, Upd.refl _ _, fun j y hj => by omega⟩
 case round =>
  obtain ⟨k, hk, rfl, hU, hno⟩ := hrel
  by_cases hlt : k < zs.length
  ·obtain ⟨x, hx⟩ : ∃ x, zs[k]? = some x := ⟨zs[k], List.getElem?_eq_getElem _⟩
   have a0 : wr.cell? ⟨g, k * 6, none⟩ = some (.int .i64 ((x.seq : Nat) : Int)) := Old.cellOf' hU (HC.out k x hx 0 _ rfl)
   have a1 : wr.cell? ⟨g, k * 6 + 1, none⟩ = some (.string x.key) := Old.cellOf' hU (HC.out k x hx 1 _ rfl)
   have a2 : wr.cell? ⟨g, k * 6 + 2, none⟩ = some (.bool x.del) := Old.cellOf' hU (HC.out k x hx 2 _ rfl)
   have a3 : wr.cell? ⟨g, k * 6 + 3, none⟩ = some (.int .i64 ((x.slot : Nat) : Int)) := Old.cellOf' hU (HC.out k x hx 3 _ rfl)
   have a4 : wr.cell? ⟨g, k * 6 + 4, none⟩ = some (.int .i64 ((x.off : Nat) : Int)) := Old.cellOf' hU (HC.out k x hx 4 _ rfl)
   have a5 : wr.cell? ⟨g, k * 6 + 5, none⟩ = some (.int .i64 ((x.size : Nat) : Int)) := Old.cellOf' hU (HC.out k x hx 5 _ rfl)
   have HD := Lib.hid (HE.out wr hU x)
   unfold Ent.val at HD
   have g0 : ((k : Nat) : Int) < (zs.length : Int) := by omega
   have HU := Lib.hid hU
   have HNO := Lib.hid hno
   clear hU hno
   go_wp2_with (first | (go_at_call 92; refine HD.out.mono ?_; rintro en w1 ⟨rfl, hU⟩; have H1 := Lib.hid (show Old w w1 from Upd.trans HU.out hU); clear hU; refine Hid.out ?_))
   obtain ⟨b, hb⟩ : ∃ b, entEq x e = b := ⟨_, rfl⟩
   rw [hb]
   cases b with
   | true =>
    refine Lib.hid ?_
    go_wp2
    go_ret
    exact ⟨H1.out, _, rfl, .inr ⟨k, x, rfl, hx, hb, HNO.out⟩⟩
   | false =>
    refine Lib.hid ?_
    go_wp2
    go_roundw
    case rel => exact ⟨k + 1, by omega, by simp, H1.out, fun j y hj hy => by
     by_cases e : j = k
     ·subst e; rw [hx] at hy; cases hy; exact hb
     ·exact HNO.out j y (by omega) hy⟩
    case measure => simp [intOf]; omega
  ·obtain rfl : k = zs.length := by omega
   go_wp2
   go_ret
   refine ⟨hU, _, rfl, .inl ⟨rfl, fun y hy => ?_⟩⟩
   obtain ⟨j, hj, rfl⟩ := List.getElem_of_mem hy
   exact hno j _ hj (List.getElem?_eq_getElem hj)
theorem splice_take {C cs : List Value} {o : Nat} (h : o ≤ C.length) : (splice C o cs).take o = C.take o := by
 unfold splice
 rw [List.take_append_of_le_length (by rw [List.length_take]; omega), List.take_take, Nat.min_self]
theorem splice_take2 {C cs : List Value} {o : Nat} (h : o ≤ C.length) : (splice C o cs).take (o + cs.length) = C.take o ++ cs := by
 unfold splice
 have hl : (C.take o ++ cs).length = o + cs.length := by rw [List.length_append, List.length_take]; omega
 rw [← List.append_assoc, List.take_append_of_le_length (by rw [hl]; exact Nat.le_refl _), List.take_of_length_le (by rw [hl]; exact Nat.le_refl _)]
theorem splice_after {C cs : List Value} {o p : Nat} (h : o + cs.length ≤ C.length) (hp : o + cs.length ≤ p) : (splice C o cs)[p]? = C[p]? := by
 unfold splice
 have hl : (C.take o ++ cs).length = o + cs.length := by rw [List.length_append, List.length_take]; omega
 rw [← List.append_assoc, List.getElem?_append_right (by rw [hl]; exact hp), hl, List.getElem?_drop]
 congr 1
 omega
theorem run_store_k {P : Program} (w : World) (g o : Nat) (ty : TypeId) (cs : List Value) (cur : List Value) (tg : TypeId) (hg : Has w g tg cur.toArray) (hi : (P.info? ty).map (·.size) = some cs.length) (hfit : o + cs.length ≤ cur.length) (h1 : ∀ v ∈ cs, v.oneCell' = true) :
 (storeVar ty ⟨g, o, none⟩ (.agg cs.toArray)).run P w = .ok () (w.setRow g (cur.toArray.toList.take o ++ cs ++ cur.toArray.toList.drop (o + cs.length)).toArray) := by
 have hst := run_storeCells_at P g o tg cs 0 cur.toArray w hg (by simpa using hfit) h1
 simp only [Nat.add_zero] at hst
 cases hq : P.info? ty with
 | none => simp [hq] at hi
 | some i =>
  have hs : cs.length = i.size := by simp [hq] at hi; omega
  simp [storeVar, sizeOf, typeInfo, hq, Value.cells, hs, hst]
theorem wpList_store_k {P : Program} {w : World} {ops : Array Oper} {rest : List Oper} {o : Oper} {a : Act} {Q : Exit → Act → World → Prop} (hgd : o.guard = none) (ty : TypeId) (x y : Operand) (ho : o.op = .store ty x y)
 (g off : Nat) (cs : List Value) (hx : a.eval x = .pointer (some ⟨g, off, none⟩)) (hy : a.eval y = .agg cs.toArray) (cur : List Value) (tg : TypeId) (hg : Has w g tg cur.toArray) (hi : (P.info? ty).map (·.size) = some cs.length) (hfit : off + cs.length ≤ cur.length) (h1 : ∀ v ∈ cs, v.oneCell' = true)
 (h : ∀ w', Hid (Has w' g tg (splice cur off cs).toArray) → Hid (Upd (fun b => b = g) w w') → wpList P ops Q rest (a.put o.dst undef) w') : wpList P ops Q (o :: rest) a w := by
 refine wpList_plain hgd fun K hK => ?_
 obtain ⟨k1, k2⟩ := set_row_upd (off := off) (cs := cs) hg
 have h2 := h _ k1 k2
 unfold Oper.wp execOp
 simp only [ho, hx, hy, Instr.storeAt, Instr.sureAddr, Sem.run_bind, Sem.run_pure, Result.andThen_ok, run_store_k w g off ty cs cur tg hg hi hfit h1]
 exact hK _ _ h2
theorem info_entS : (Tryz.prog.info? 47).map (·.size) = some 6 := by kernel_rfl
structure DfR (W : World) (g cap i j : Nat) (zs : List Ent) (p : Ent → Bool) (C : List Value) : Prop where
 has : Has W g 47 C.toArray
 len : C.length = cap * 6
 ij : i < j
 cnt : ((zs.take j).filter p).length = i
 kept : C.take (i * 6) = rowOf ((zs.take j).filter p)
 rest : ∀ t x, j ≤ t → zs[t]? = some x → ∀ q u, x.cells[q]? = some u → C[t * 6 + q]? = some u
theorem dfunc {w : World} {EB g n cap : Nat} {zs : List Ent} {e : Ent} (own : w.ownsRow 0 47 6 (.slice (some ⟨g, 0, none⟩) n cap) n (rowOf zs)) (hn : zs.length = n) (hl : n ≤ 1000)
 (hE : ∀ W, Upd (fun b => b = g) w W → ∀ y : Ent, Calls Tryz.prog 92 #[y.val, .pointer (some ⟨EB, 0, none⟩)] W fun en w' => en = .returned (.bool (entEq y e)) ∧ Old W w') :
 Calls Tryz.prog 91 #[.slice (some ⟨g, 0, none⟩) n cap, .func (.func 92) #[] #[.pointer (some ⟨EB, 0, none⟩)]] w fun en w' =>
  ∃ zs', zs' = zs.filter (fun y => !entEq y e) ∧ en = .returned (.slice (some ⟨g, 0, none⟩) zs'.length cap) ∧ w'.ownsRow 0 47 6 (.slice (some ⟨g, 0, none⟩) zs'.length cap) zs'.length (rowOf zs') ∧ Upd (fun b => b = g) w w' := by
 subst hn
 have HOWN := Lib.hid own
 obtain ⟨cur, HG, hnc, hcm, HCS, HX⟩ : ∃ cur : Array Value, Hid (Has w g 47 cur) ∧ zs.length ≤ cap ∧ cap ≤ maxLen ∧ Hid (cur.size = cap * 6) ∧ Hid (cur.toList.take (zs.length * 6) = rowOf zs) := by
  rcases own.2 with ⟨h1, h2⟩ | ⟨g', cap', cur, h1, hb, hg, hnc, hcm, hcs, htk⟩
  ·cases h1
  ·injection h1 with h1 _ h3
   injection h1 with h1
   injection h1 with h1
   subst h1 h3
   exact ⟨cur, hg, hnc, hcm, hcs, htk⟩
 have HE := Lib.hid hE
 have HI := Lib.hid (ifunc (cap := cap) (g := g) (fun W U y => hE W (U.mono (fun _ _ x => x.elim)) y) (fun i x hx j u hu => by
  have := own.cells (g := g) rfl _ _ (rowOf_cell hx hu)
  rwa [show (⟨g, 0, none⟩ : Addr).add (i * 6 + j) = ⟨g, i * 6 + j, none⟩ from by unfold Addr.add; split <;> simp_all] at this) (by omega))
 clear own hE
 unfold maxLen at hcm
 go_enter Tryz.func91, Tryz.ntmps91
 go_wp2_with (first | (go_at_call 170; refine HI.out.mono ?_; rintro en w1 ⟨hU, rr, rfl, hq⟩; have H1 := Lib.hid hU; clear hU; refine Hid.out ?_))
 rcases hq with ⟨rfl, hno⟩ | ⟨k, x, rfl, hx, hxe, hno⟩
 ·refine Lib.hid ?_
  go_wp2
  go_ret
  refine ⟨zs, (List.filter_eq_self.2 (fun y hy => by rw [hno y hy]; rfl)).symm, rfl, Upd.own H1.out HOWN.out (fun _ _ x => x), H1.out.mono (fun _ _ x => x.elim)⟩
 ·have hkl : k < zs.length := (List.getElem?_eq_some_iff.1 hx).1
  have hF0 : (zs.take (k + 1)).filter (fun y => !entEq y e) = zs.take k := by
   rw [List.take_add_one, hx]
   simp only [Option.toList_some, List.filter_append]
   rw [List.filter_eq_self.2 (fun y hy => by
    obtain ⟨j, hj, rfl⟩ := List.getElem_of_mem hy
    rw [List.length_take] at hj
    rw [hno j _ (by omega) (by rw [List.getElem_take]; exact List.getElem?_eq_getElem _)]
    rfl)]
   simp [hxe]
  have hk1 : ¬ ((k : Int) == -1) = true := by simp
  have HF0 := Lib.hid hF0
  have HD : Hid (∀ W, Upd (fun b => b = g) w W → ∀ y : Ent, Calls Tryz.prog 92 #[.agg #[.int .i64 ((y.seq : Nat) : Int), .string y.key, .bool y.del, .int .i64 ((y.slot : Nat) : Int), .int .i64 ((y.off : Nat) : Int), .int .i64 ((y.size : Nat) : Int)], .pointer (some ⟨EB, 0, none⟩)] W fun en w' => en = .returned (.bool (entEq y e)) ∧ Old W w') := HE.out
  clear hF0 hxe hno hx
  refine Lib.hid ?_
  go_wp2
  go_loopw [5, 6] (fun i j wr => ∃ (a b : Nat) (C : List Value), i = .int .i64 a ∧ j = .int .i64 b ∧ b ≤ zs.length ∧ DfR wr g cap a b zs (fun y => !entEq y e) C ∧ Upd (fun b => b = g) w wr) (fun _ j _ => zs.length - (intOf j).toNat)
  case atStart =>
   refine ⟨k, k + 1, cur.toList, rfl, by simp, by omega, ⟨by have := Old.has H1.out HG.out; simpa using this, by simpa using HCS.out, by omega, ?_, ?_, ?_⟩, H1.out.mono (fun _ _ x => x.elim)⟩
   ·rw [HF0.out, List.length_take]; omega
   ·rw [HF0.out]
    have h := HX.out
    have e2 : rowOf zs = rowOf (zs.take k) ++ rowOf (zs.drop k) := by rw [← rowOf_append, List.take_append_drop]
    have h2 : (cur.toList.take (zs.length * 6)).take (k * 6) = cur.toList.take (k * 6) := by rw [List.take_take, Nat.min_eq_left (by omega)]
    rw [← h2, h, e2, List.take_append_of_le_length (by rw [rowOf_length, List.length_take]; omega), List.take_of_length_le (by rw [rowOf_length, List.length_take]; omega)]
   ·intro t x _ hx q u hu
    have h := rowOf_cell hx hu
    rw [← HX.out] at h
    have hlt : t * 6 + q < zs.length * 6 := by
     have h1 := (List.getElem?_eq_some_iff.1 hx).1
     have h2 := (List.getElem?_eq_some_iff.1 hu).1
     have h3 : x.cells.length = 6 := rfl
     omega
    rwa [List.getElem?_take_of_lt hlt] at h
  case round =>
   obtain ⟨a, b, C, rfl, rfl, hb, hR, hU⟩ := hrel
   by_cases hlt : b < zs.length
   ·obtain ⟨y, hy⟩ : ∃ y, zs[b]? = some y := ⟨zs[b], List.getElem?_eq_getElem _⟩
    have hc : ∀ q u, y.cells[q]? = some u → wr.cell? ⟨g, b * 6 + q, none⟩ = some u := fun q u hu => by
     rw [hR.has.cell]
     have := hR.rest b y (Nat.le_refl _) hy q u hu
     simpa using this
    have a0 : wr.cell? ⟨g, b * 6, none⟩ = some (.int .i64 ((y.seq : Nat) : Int)) := hc 0 _ rfl
    have a1 : wr.cell? ⟨g, b * 6 + 1, none⟩ = some (.string y.key) := hc 1 _ rfl
    have a2 : wr.cell? ⟨g, b * 6 + 2, none⟩ = some (.bool y.del) := hc 2 _ rfl
    have a3 : wr.cell? ⟨g, b * 6 + 3, none⟩ = some (.int .i64 ((y.slot : Nat) : Int)) := hc 3 _ rfl
    have a4 : wr.cell? ⟨g, b * 6 + 4, none⟩ = some (.int .i64 ((y.off : Nat) : Int)) := hc 4 _ rfl
    have a5 : wr.cell? ⟨g, b * 6 + 5, none⟩ = some (.int .i64 ((y.size : Nat) : Int)) := hc 5 _ rfl
    have g0 : ((b : Nat) : Int) < (zs.length : Int) := by omega
    have hab := hR.ij
    have g1 : ((a : Nat) : Int) < (zs.length : Int) := by omega
    have hF : (zs.take (b + 1)).filter (fun y => !entEq y e) = (zs.take b).filter (fun y => !entEq y e) ++ (if entEq y e then [] else [y]) := by
     rw [List.take_add_one, hy]
     simp only [Option.toList_some, List.filter_append]
     congr 1
     cases hq : entEq y e <;> simp [hq]
    have HR := Lib.hid hR
    have HU := Lib.hid hU
    have HFF := Lib.hid hF
    have hV := Has.new wr 47 #[.int .i64 ((y.seq : Nat) : Int), .string y.key, .bool y.del, .int .i64 ((y.slot : Nat) : Int), .int .i64 ((y.off : Nat) : Int), .int .i64 ((y.size : Nat) : Int)]
    have HV := Lib.hid hV
    clear hc hR hU hF hV
    go_wp2_with (first | (go_at_call 92; refine (HD.out _ ?_ y).mono ?_; (exact HU.out.alloc _); rintro en w2 ⟨rfl, hU⟩; have H2 := Lib.hid (show Old wr w2 from Upd.trans ((Upd.refl _ wr).alloc _) hU); have HV2 := Lib.hid (Old.has hU HV.out); clear hU; refine Hid.out ?_))
    obtain ⟨bb, hbb⟩ : ∃ bb, entEq y e = bb := ⟨_, rfl⟩
    rw [hbb] at HFF ⊢
    have v0 : w2.cell? ⟨wr.heap.size, 0, none⟩ = some (.int .i64 ((y.seq : Nat) : Int)) := HV2.out.cell 0
    have v1 : w2.cell? ⟨wr.heap.size, 1, none⟩ = some (.string y.key) := HV2.out.cell 1
    have v2 : w2.cell? ⟨wr.heap.size, 2, none⟩ = some (.bool y.del) := HV2.out.cell 2
    have v3 : w2.cell? ⟨wr.heap.size, 3, none⟩ = some (.int .i64 ((y.slot : Nat) : Int)) := HV2.out.cell 3
    have v4 : w2.cell? ⟨wr.heap.size, 4, none⟩ = some (.int .i64 ((y.off : Nat) : Int)) := HV2.out.cell 4
    have v5 : w2.cell? ⟨wr.heap.size, 5, none⟩ = some (.int .i64 ((y.size : Nat) : Int)) := HV2.out.cell 5
    clear HV2 HV
    cases bb with
    | true =>
     refine Lib.hid ?_
     go_wp2
     go_roundw
     case rel =>
      have hf : (zs.take (b + 1)).filter (fun y => !entEq y e) = (zs.take b).filter (fun y => !entEq y e) := by rw [HFF.out]; simp
      exact ⟨a, b + 1, C, rfl, by simp, by omega, ⟨Old.has H2.out HR.out.has, HR.out.len, by omega, by rw [hf]; exact HR.out.cnt, by rw [hf]; exact HR.out.kept, fun t x ht hx => HR.out.rest t x (by omega) hx⟩, HU.out.after H2.out (fun _ _ x => x.elim)⟩
     case measure => simp [intOf]; omega
    | false =>
     have hlen := HR.out.len
     have hcl : y.cells.length = 6 := rfl
     have hG2 := Lib.hid (Old.has H2.out HR.out.has)
     refine Lib.hid ?_
     go_wp2_with (first | (refine wpList_store_k rfl 47 (.tmp 33) (.tmp 32) rfl g (a * 6) y.cells rfl rfl C 47 hG2.out info_entS (by rw [hcl]; omega) (ent_one y) ?_; intro w3 hG3 hU3))
     go_roundw
     case rel =>
      have hf : (zs.take (b + 1)).filter (fun y => !entEq y e) = (zs.take b).filter (fun y => !entEq y e) ++ [y] := by rw [HFF.out]; simp
      have hs : (splice C (a * 6) y.cells).length = cap * 6 := by rw [length_splice _ _ _ (by rw [hcl]; omega), hlen]
      refine ⟨a + 1, b + 1, splice C (a * 6) y.cells, by simp, by simp, by omega, ⟨hG3.out, hs, by omega, by rw [hf, List.length_append, HR.out.cnt]; rfl, ?_, fun t x ht hx q u hu => ?_⟩, (HU.out.after H2.out (fun _ _ x => x.elim)).trans hU3.out⟩
      ·have h := splice_take2 (C := C) (cs := y.cells) (o := a * 6) (by omega)
       rw [hcl] at h
       rw [show (a + 1) * 6 = a * 6 + 6 by omega, h, hf, rowOf_append, HR.out.kept]
       simp [rowOf]
      ·rw [splice_after (by rw [hcl]; omega) (by rw [hcl]; omega)]
       exact HR.out.rest t x (by omega) hx q u hu
     case measure => simp [intOf]; omega
   ·obtain rfl : b = zs.length := by omega
    have hab := hR.ij
    have hlen := hR.len
    have hcnt := hR.cnt
    have hkept := hR.kept
    rw [List.take_length] at hcnt hkept
    have hzl : (Builtin.zeroCells (Value.agg #[.int .i64 0, .string ⟨#[]⟩, .bool false, .int .i64 0, .int .i64 0, .int .i64 0]).cells (zs.length - a)).toList.length = (zs.length - a) * 6 := by
     simp [Builtin.zeroCells, Value.cells]
    have hz1 : ∀ v ∈ (Builtin.zeroCells (Value.agg #[.int .i64 0, .string ⟨#[]⟩, .bool false, .int .i64 0, .int .i64 0, .int .i64 0]).cells (zs.length - a)).toList, v.oneCell' = true := by
     intro v hv
     simp only [Builtin.zeroCells, Array.toList_map, List.mem_map] at hv
     obtain ⟨q, _, rfl⟩ := hv
     have : q % 6 < 6 := Nat.mod_lt _ (by decide)
     have hh : ∀ r, r < 6 → ((Value.agg #[.int .i64 0, .string ⟨#[]⟩, .bool false, .int .i64 0, .int .i64 0, .int .i64 0]).cells[r]!).oneCell' = true := by decide
     exact hh _ this
    have hcl := fun ty => run_clear_k (P := Tryz.prog) wr 142 ty 47 (.agg #[.int .i64 0, .string ⟨#[]⟩, .bool false, .int .i64 0, .int .i64 0, .int .i64 0]) Tryz.underlying142 Tryz.zeroValue47 g (a * 6) (zs.length - a) (cap - a) (by omega) _ rfl _ 47 hR.has (by rw [List.size_toArray, hzl]; omega) hz1
    obtain ⟨k1, k2⟩ := set_row_upd (off := a * 6) (cs := (Builtin.zeroCells (Value.agg #[.int .i64 0, .string ⟨#[]⟩, .bool false, .int .i64 0, .int .i64 0, .int .i64 0]).cells (zs.length - a)).toList) hR.has
    generalize wr.setRow g _ = w3 at hcl k1 k2
    have hg3 := Lib.hid k1
    have hU3 := Lib.hid k2
    have HR := Lib.hid hR
    have HU := Lib.hid hU
    have g1 : ((a : Nat) : Int) ≤ (zs.length : Int) := by omega
    have g2 : ¬ cap = a := by omega
    have g3 : ¬ a = cap := by omega
    have g4 : a ≤ cap := by omega
    have g5 : ((a : Nat) : Int) ≤ (cap : Int) := by omega
    have g6 : ¬ cap ≤ a := by omega
    clear k1 k2 hR hU
    go_wp2
    go_ret
    refine ⟨_, rfl, by rw [hcnt]; rfl, ?_, HU.out.trans hU3.out⟩
    rw [hcnt]
    refine ⟨?_, .inr ⟨g, cap, _, rfl, Nat.zero_le _, hg3.out, by omega, hcm, ?_, ?_⟩⟩
    ·rw [rowOf_length, hcnt]
    ·rw [List.size_toArray, length_splice _ _ _ (by rw [hzl]; omega), hlen]
    ·rw [List.toList_toArray, splice_take (by omega), hkept]
end Go.M
namespace Go.M
open Go.Proofs Go.RowKit Go.Shelf
set_option linter.unusedSimpArgs false
attribute [local go_sem] Oper.semAt_some
def HasI (w : World) (e : Ent) (r : Bool) (W : World) : Prop := Has W w.heap.size 47 #[.int .i64 ((e.seq : Nat) : Int), .string e.key, .bool e.del, .int .i64 ((e.slot : Nat) : Int), .int .i64 ((e.off : Nat) : Int), .int .i64 ((e.size : Nat) : Int)] ∧ W.cell? ⟨w.heap.size + 1, 0, none⟩ = some (.bool r) ∧ W.frozen? ⟨w.heap.size + 1, 0, none⟩ = false ∧ Old w W
theorem HasI.grown {w X Y : World} {e : Ent} {r : Bool} {B : Nat} {row : Option Nat} (hB : w.heap.size + 1 < B) (h : HasI w e r X) (hg : X.grownBy Y row) (hr : ∀ k, row = some k → B ≤ k ∧ ∃ o : Obj, X.heap[k]? = some o ∧ o.isCells = false) : HasI w e r Y := by
 obtain ⟨h1, h2, h3, h4⟩ := h
 refine ⟨has_own w.heap.size 47 (fun (_ : Unit) => #[.int .i64 ((e.seq : Nat) : Int), .string e.key, .bool e.del, .int .i64 ((e.slot : Nat) : Int), .int .i64 ((e.off : Nat) : Int), .int .i64 ((e.size : Nat) : Int)]) () X Y row h1 hg (fun k e => (hr k e).2), cell_kept h2 hg (fun k e => (hr k e).2), ?_, h4.grown hg (fun k e => .inr (by have := (hr k e).1; omega))⟩
 rw [World.frozen?_of_block (hg.block (w.heap.size + 1) (World.block_lt_of_cell? X _ h2) (fun e => by have := (hr _ e.symm).1; omega))]
 exact h3
theorem HasI.old {w X Y : World} {e : Ent} {r : Bool} (h : HasI w e r X) (U : Old X Y) : HasI w e r Y := by
 obtain ⟨h1, h2, h3, h4⟩ := h
 exact ⟨U.has h1, Old.cellOf' U h2, Old.frz U (World.block_lt_of_cell? X _ h2) h3, h4.trans U⟩
theorem HasI.put {w X : World} {e : Ent} {r : Bool} (h : HasI w e r X) (r' : Bool) : HasI w e r' (X.setCell ⟨w.heap.size + 1, 0, none⟩ (.bool r')) := by
 obtain ⟨h1, h2, h3, h4⟩ := h
 refine ⟨h1.setOther (a := ⟨w.heap.size + 1, 0, none⟩) (by simp) _, World.cell?_setCell_same' _ _ _ (by rw [h2]; rfl), by rw [World.frozen?_setCell]; exact h3, h4.setCell _ _ (.inr (by simp))⟩
set_option maxHeartbeats 1600000 in
theorem ohas_walk {w : World} {X O S m c : Nat} {sv : Value} {es : List Ent} {e : Ent} {p : Ent → Bool} (hp : ∀ y, entEq y e = p y) (h : IxK w X O S m c e.key sv es) :
 Calls Tryz.prog 221 #[.pointer (some ⟨X, 0, none⟩), e.val] w fun en w' => en = .returned (.bool (es.any p)) ∧ Old w w' := by
 obtain ⟨hX0, hX1, hm, hG, own, hl⟩ := h
 have hz := withQ_map (fun _ => True) es (fun _ _ => trivial)
 have hE : EntsB w.heap.size w sv (withQ (fun _ => True) es (fun _ _ => trivial)) := EntsB.of_own own _ hz
 generalize withQ (fun _ => True) es (fun _ _ => trivial) = zs at hz hE
 have hzl : zs.length = es.length := by rw [← hz, List.length_map]
 have HG := Lib.hid hG
 have HZ := Lib.hid hz
 clear own hG hz
 unfold Ent.val
 refine (callsIn_wide (n := 8)).1 ?_
 refine callsIn_of_wp_marks Tryz.func221 rfl trivial ?_ rfl
 simp only [Tryz.ntmps221, List.size_toArray, List.length_cons, List.length_nil, Nat.reduceAdd, Nat.reduceSub, Array.replicate_succ, Array.replicate_zero, List.push_toArray, List.append_toArray, List.nil_append, List.cons_append]
 refine wpIn_wide.2 ?_
 go_wp2_with (first | go_in)
 generalize hW0 : World.alloc (World.alloc (World.alloc (World.alloc w _) _) _) _ = W0
 have U0 : Old w W0 := by subst hW0; exact ((((Upd.refl _ w).alloc _).alloc _).alloc _).alloc _
 have c0 : Has W0 w.heap.size 47 #[.int .i64 ((e.seq : Nat) : Int), .string e.key, .bool e.del, .int .i64 ((e.slot : Nat) : Int), .int .i64 ((e.off : Nat) : Int), .int .i64 ((e.size : Nat) : Int)] := by subst hW0; exact (((Has.new w 47 #[.int .i64 ((e.seq : Nat) : Int), .string e.key, .bool e.del, .int .i64 ((e.slot : Nat) : Int), .int .i64 ((e.off : Nat) : Int), .int .i64 ((e.size : Nat) : Int)]).alloc _).alloc _).alloc _
 have c1 : W0.cell? ⟨w.heap.size + 1, 0, none⟩ = some (.bool false) := by subst hW0; go_simp
 have f1 : W0.frozen? ⟨w.heap.size + 1, 0, none⟩ = false := by subst hW0; go_simp
 have c2 : W0.cell? ⟨w.heap.size + 1 + 1, 0, none⟩ = some (.pointer (some ⟨X, 0, none⟩)) := by subst hW0; go_simp
 have c3 : W0.cell? ⟨w.heap.size + 1 + 1 + 1, 0, none⟩ = some (.string e.key) := by subst hW0; go_simp
 have z0 : W0.heap.size = w.heap.size + 4 := by subst hW0; simp
 clear hW0
 refine (wpIn_wide (n := 8)).1 ?_
 refine wpIn_rangeFunc_ownH rfl (by omega) (gf := 214) (lb := #[.pointer (some ⟨w.heap.size + 1 + 1, 0, none⟩), .pointer (some ⟨w.heap.size + 1 + 1 + 1, 0, none⟩)]) rfl trivial (enters_of Tryz.func214 (by kernel_rfl) rfl)
  (of_at_stops (zs := zs) (n₀ := w.heap.size) 7 (by omega) (w.heap.size + 1 + 1) (w.heap.size + 1 + 1 + 1) (by omega) (by omega) c2 c3 (Old.cellOf' U0 hX0) (Old.cellOf' U0 hX1) hm (fun W' U => HG.out W' (Upd.trans U0 U)) (hE.old U0)) belowK_t (belowK_b (by omega)) (Below.refl _ _) (fun _ => rfl)
  (fun (pre : List {x : Ent // True}) W => (pre.map (·.1)).any p = false ∧ HasI w e false W)
  (fun cd (pre : List {x : Ent // True}) W => cd = .ret ∧ (pre.map (·.1)).any p = true ∧ HasI w e true W)
  (fun pre A B row hs hg hr => ⟨hs.1, hs.2.grown (by omega) hg hr⟩)
  (fun cd pre A B row hs hg hr => ⟨hs.1, hs.2.1, hs.2.2.grown (by omega) hg hr⟩)
  ⟨rfl, c0, c1, f1, U0⟩
  (fun x a' W => ∃ Bx, w.heap.size + 1 < Bx ∧ Has W Bx 47 #[.int .i64 ((x.1.seq : Nat) : Int), .string x.1.key, .bool x.1.del, .int .i64 ((x.1.slot : Nat) : Int), .int .i64 ((x.1.off : Nat) : Int), .int .i64 ((x.1.size : Nat) : Int)] ∧ a' = { tmps := #[.pointer (some ⟨X, 0, none⟩), .agg #[.int .i64 ((e.seq : Nat) : Int), .string e.key, .bool e.del, .int .i64 ((e.slot : Nat) : Int), .int .i64 ((e.off : Nat) : Int), .int .i64 ((e.size : Nat) : Int)], undef, .pointer (some ⟨w.heap.size, 0, none⟩), .pointer (some ⟨w.heap.size + 1, 0, none⟩), .pointer (some ⟨Bx, 0, none⟩), .pointer (some ⟨X, 0, none⟩), .pointer (some ⟨w.heap.size, 1, none⟩), .string e.key, .func (.func 214) #[] #[.pointer (some ⟨w.heap.size + 1 + 1, 0, none⟩), .pointer (some ⟨w.heap.size + 1 + 1 + 1, 0, none⟩)], x.1.val, undef, undef, undef], defers := [] })
  (fun x a' _ A B row hs hg hr => by obtain ⟨Bx, h1, h2, h3⟩ := hs; exact ⟨Bx, h1, has_own Bx _ (fun (_ : Unit) => #[.int .i64 ((x.1.seq : Nat) : Int), .string x.1.key, .bool x.1.del, .int .i64 ((x.1.slot : Nat) : Int), .int .i64 ((x.1.off : Nat) : Int), .int .i64 ((x.1.size : Nat) : Int)]) () A B row h2 hg (fun r e => (hr r e).2), h3⟩)
  ?assign ?body ?done ?stop
 case assign =>
  rintro l pre x W K ⟨hpf, hA⟩ hK
  unfold Ent.val
  gi_wp2
  exact hK _ _ ((KeepsOthers.alloc _ _).from _) ((Below.refl _ W).alloc hA.2.2.2.size _) ⟨hpf, hA.old ((Upd.refl _ W).alloc _)⟩ ⟨W.heap.size, World.block_lt_of_cell? W _ hA.2.1, Has.new W _ _, rfl⟩
 case body =>
  rintro l pre x a' W hl2 ⟨r, hr⟩ ⟨hpf, hA⟩ ⟨Bx, hBx, hX, rfl⟩ hlt
  obtain ⟨a1, a2, a3, a4⟩ := hA
  have hq := ent_eq x.1 e
  rw [hp] at hq
  unfold Ent.val at hq ⊢
  have x0 : W.cell? ⟨Bx, 0, none⟩ = some (.int .i64 ((x.1.seq : Nat) : Int)) := hX.cell 0
  have x1 : W.cell? ⟨Bx, 1, none⟩ = some (.string x.1.key) := hX.cell 1
  have x2 : W.cell? ⟨Bx, 2, none⟩ = some (.bool x.1.del) := hX.cell 2
  have x3 : W.cell? ⟨Bx, 3, none⟩ = some (.int .i64 ((x.1.slot : Nat) : Int)) := hX.cell 3
  have x4 : W.cell? ⟨Bx, 4, none⟩ = some (.int .i64 ((x.1.off : Nat) : Int)) := hX.cell 4
  have x5 : W.cell? ⟨Bx, 5, none⟩ = some (.int .i64 ((x.1.size : Nat) : Int)) := hX.cell 5
  have y0 : W.cell? ⟨w.heap.size, 0, none⟩ = some (.int .i64 ((e.seq : Nat) : Int)) := a1.cell 0
  have y1 : W.cell? ⟨w.heap.size, 1, none⟩ = some (.string e.key) := a1.cell 1
  have y2 : W.cell? ⟨w.heap.size, 2, none⟩ = some (.bool e.del) := a1.cell 2
  have y3 : W.cell? ⟨w.heap.size, 3, none⟩ = some (.int .i64 ((e.slot : Nat) : Int)) := a1.cell 3
  have y4 : W.cell? ⟨w.heap.size, 4, none⟩ = some (.int .i64 ((e.off : Nat) : Int)) := a1.cell 4
  have y5 : W.cell? ⟨w.heap.size, 5, none⟩ = some (.int .i64 ((e.size : Nat) : Int)) := a1.cell 5
  have hpp : ((pre ++ [x]).map (·.1)).any p = p x.1 := by rw [List.map_append, List.any_append, hpf]; simp
  have HPP := Lib.hid hpp
  clear hpp
  have hA : HasI w e false W := ⟨a1, a2, a3, a4⟩
  have HA := Lib.hid hA
  clear hA
  cases hpx : p x.1 with
  | false =>
   rw [hpx] at hq HPP
   gi_wp2
   exact ⟨keepsFrom_upd (Upd.refl (fun _ => False) W) (fun b hb => hb.elim), Below.refl _ _, HPP.out, HA.out⟩
  | true =>
   rw [hpx] at hq HPP
   have HPX := Lib.hid hpx
   clear hpx
   have b4 := World.block_lt_of_cell? _ _ a2
   gi_wp2
   exact ⟨keepsFrom_upd ((Upd.refl (fun b => b = w.heap.size + 1) W).setCell ⟨w.heap.size + 1, 0, none⟩ (.bool true) (.inl rfl)) (fun b (hb : b = w.heap.size + 1) => by omega), rfl, by first | exact HPP.out | exact ⟨x.1, by simp, HPX.out⟩, HA.out.put true⟩
 case done =>
  rintro D ys W hD rfl ⟨hpf, hA⟩ hK
  obtain ⟨a1, a2, a3, a4⟩ := hA
  have hl1 := World.block_lt_of_cell? W _ a2
  have hAp := (show HasI w e false W from ⟨a1, a2, a3, a4⟩).put false
  have hK' : (W.setCell ⟨w.heap.size + 1, 0, none⟩ (.bool false)).heap[D]? = some (.deferred (some [])) := (Below.heap_setCell W ⟨w.heap.size + 1, 0, none⟩ _ D (by show D ≠ w.heap.size + 1; omega)).trans hK
  have hAq := hAp.grown (B := W0.heap.size) (by omega) (grownBy_putObj' _ D (.deferred none)) (fun k e => by cases e; exact ⟨hD, _, hK', rfl⟩)
  have hq := hAq.2.1
  rw [HZ.out] at hpf
  go_wp2
  refine ⟨by simp, .inl ⟨_, _, rfl, run_takeDeferred hK', ?_⟩⟩
  refine ⟨_, res_cell (v := .bool false) rfl rfl ?_, by first | rfl | rw [hpf], hAq.2.2.2⟩
  go_simp
 case stop =>
  rintro D cd pre W hD ⟨tl, hpre⟩ ⟨rfl, hpt, hA⟩ hK
  have hAq := hA.grown (B := W0.heap.size) (by omega) (grownBy_putObj' _ D (.deferred none)) (fun k e => by cases e; exact ⟨hD, _, hK, rfl⟩)
  have hq := hAq.2.1
  have hany : es.any p = true := by rw [← HZ.out, ← hpre, List.map_append, List.any_append, hpt]; rfl
  gi_wp2
  refine ⟨by simp, .inl ⟨_, _, rfl, run_takeDeferred hK, ?_⟩⟩
  refine ⟨_, res_cell (v := .bool true) rfl rfl ?_, by first | rfl | rw [hany], hAq.2.2.2⟩
  go_simp
end Go.M
namespace Go.M
open Go.Proofs Go.RowKit Go.Shelf
set_option linter.unusedSimpArgs false
attribute [local go_sem] Oper.semAt_some
def SeqOk (x : Ent) : Prop := 1 ≤ x.seq ∧ x.seq ≤ 1099511627776
def LastI (w : World) (k : Nat) (W : World) : Prop := Has W w.heap.size 248 #[.int .i64 0, .int .i64 0] ∧ (∃ l : Nat, Has W (w.heap.size + 1) 248 #[.int .i64 ((k : Nat) : Int), .int .i64 ((l : Nat) : Int)] ∧ l ≤ 1099511627776 ∧ (k = 0 ↔ l = 0)) ∧ Old w W
theorem LastI.grown {w X Y : World} {k : Nat} {B : Nat} {row : Option Nat} (hB : w.heap.size + 1 < B) (h : LastI w k X) (hg : X.grownBy Y row) (hr : ∀ k, row = some k → B ≤ k ∧ ∃ o : Obj, X.heap[k]? = some o ∧ o.isCells = false) : LastI w k Y := by
 obtain ⟨h1, ⟨l, h2, h3⟩, h4⟩ := h
 exact ⟨has_own w.heap.size 248 (fun (_ : Unit) => #[.int .i64 0, .int .i64 0]) () X Y row h1 hg (fun k e => (hr k e).2), ⟨l, has_own (w.heap.size + 1) 248 (fun (_ : Unit) => #[.int .i64 ((k : Nat) : Int), .int .i64 ((l : Nat) : Int)]) () X Y row h2 hg (fun k e => (hr k e).2), h3⟩, h4.grown hg (fun k e => .inr (by have := (hr k e).1; omega))⟩
theorem LastI.old {w X Y : World} {k : Nat} (h : LastI w k X) (U : Old X Y) : LastI w k Y := by
 obtain ⟨h1, ⟨l, h2, h3⟩, h4⟩ := h
 exact ⟨U.has h1, ⟨l, U.has h2, h3⟩, h4.trans U⟩
theorem last_round {w W : World} {k k' l l' N : Nat} (a1 : Has W w.heap.size 248 #[.int .i64 0, .int .i64 0]) (q1 : Has W (w.heap.size + 1) 248 #[.int .i64 ((k : Nat) : Int), .int .i64 ((l : Nat) : Int)]) (a4 : Old w W) (hl : l' ≤ 1099511627776) (hz : l' ≠ 0) (hk : k' = k + 1) (hN : w.heap.size + 1 < N) :
 KeepsFrom N W ((W.setCell ⟨w.heap.size + 1, 0, none⟩ (.int .i64 ((k : Int) + 1))).setCell ⟨w.heap.size + 1, 1, none⟩ (.int .i64 ((l' : Nat) : Int))) ∧ Below w.heap.size W ((W.setCell ⟨w.heap.size + 1, 0, none⟩ (.int .i64 ((k : Int) + 1))).setCell ⟨w.heap.size + 1, 1, none⟩ (.int .i64 ((l' : Nat) : Int))) ∧
  LastI w k' ((W.setCell ⟨w.heap.size + 1, 0, none⟩ (.int .i64 ((k : Int) + 1))).setCell ⟨w.heap.size + 1, 1, none⟩ (.int .i64 ((l' : Nat) : Int))) := by
 have U := ((Upd.refl (fun b => b = w.heap.size + 1) W).setCell ⟨w.heap.size + 1, 0, none⟩ (.int .i64 ((k : Int) + 1)) (.inl rfl)).setCell ⟨w.heap.size + 1, 1, none⟩ (.int .i64 ((l' : Nat) : Int)) (.inl rfl)
 refine ⟨keepsFrom_upd U (fun b (hb : b = w.heap.size + 1) => by omega), below_of_upd U a4.size (fun b hb (h : b = w.heap.size + 1) => by omega), U.has a1 (fun h => by omega), ⟨l', ?_, hl, by omega⟩, (a4.setCell _ _ (.inr (by simp))).setCell _ _ (.inr (by simp))⟩
 have := (q1.set 0 (.int .i64 ((k : Int) + 1))).set 1 (.int .i64 ((l' : Nat) : Int))
 subst hk
 simpa using this
set_option maxHeartbeats 1600000 in
theorem olast {w : World} {X S i m c : Nat} {sv : Value} {es : List Ent} (hX1 : w.cell? ⟨X, 1, none⟩ = some (.slice (some ⟨S, 0, none⟩) m c)) (hS : w.cell? ⟨S, i, none⟩ = some sv) (him : i < m) (hm : m ≤ 10) (own : w.ownsRow 0 47 6 sv es.length (rowOf es)) (hl : es.length ≤ 500) (hq : ∀ x ∈ es, SeqOk x) :
 Calls Tryz.prog 222 #[.pointer (some ⟨X, 0, none⟩), .int .i64 ((i : Nat) : Int)] w fun e w' => (∃ l : Nat, e = .returned (.agg #[.int .i64 ((es.length : Nat) : Int), .int .i64 ((l : Nat) : Int)]) ∧ l ≤ 1099511627776 ∧ (es.length = 0 ↔ l = 0)) ∧ Old w w' := by
 have hz := withQ_map SeqOk es hq
 have hE : EntsB w.heap.size w sv (withQ SeqOk es hq) := EntsB.of_own own _ hz
 generalize withQ SeqOk es hq = zs at hz hE
 have hzl : zs.length = es.length := by rw [← hz, List.length_map]
 have hXl : X < w.heap.size := World.block_lt_of_cell? w _ hX1
 have hSl : S < w.heap.size := World.block_lt_of_cell? w _ hS
 clear own hz hq
 refine (callsIn_wide (n := 8)).1 ?_
 refine callsIn_of_wp_marks Tryz.func222 rfl trivial ?_ rfl
 simp only [Tryz.ntmps222, List.size_toArray, List.length_cons, List.length_nil, Nat.reduceAdd, Nat.reduceSub, Array.replicate_succ, Array.replicate_zero, List.push_toArray, List.append_toArray, List.nil_append, List.cons_append]
 refine wpIn_wide.2 ?_
 go_wp2_with (first | go_in)
 generalize hW0 : World.alloc (World.alloc (World.alloc (World.alloc w _) _) _) _ = W0
 have U0 : Old w W0 := by subst hW0; exact ((((Upd.refl _ w).alloc _).alloc _).alloc _).alloc _
 have c0 : Has W0 w.heap.size 248 #[.int .i64 0, .int .i64 0] := by subst hW0; exact (((Has.new w 248 _).alloc _).alloc _).alloc _
 have c1 : Has W0 (w.heap.size + 1) 248 #[.int .i64 0, .int .i64 0] := by
  subst hW0
  have := ((Has.new (w.alloc (.cells #[.int .i64 0, .int .i64 0] 248)) 248 #[.int .i64 0, .int .i64 0]).alloc (.cells #[.pointer (some ⟨X, 0, none⟩)] 39)).alloc (.cells #[.int .i64 ((i : Nat) : Int)] 3)
  rwa [World.size_alloc] at this
 have c2 : W0.cell? ⟨w.heap.size + 1 + 1, 0, none⟩ = some (.pointer (some ⟨X, 0, none⟩)) := by subst hW0; go_simp
 have c3 : W0.cell? ⟨w.heap.size + 1 + 1 + 1, 0, none⟩ = some (.int .i64 ((i : Nat) : Int)) := by subst hW0; go_simp
 have z0 : W0.heap.size = w.heap.size + 4 := by subst hW0; simp
 clear hW0
 refine (wpIn_wide (n := 8)).1 ?_
 refine wpIn_rangeFunc_ownH rfl (by omega) (gf := 168) (lb := #[.pointer (some ⟨w.heap.size + 1 + 1, 0, none⟩), .pointer (some ⟨w.heap.size + 1 + 1 + 1, 0, none⟩)]) rfl trivial (enters_of Tryz.func168 (by kernel_rfl) rfl)
  (slot_stops 7 (by omega) (w.heap.size + 1 + 1) (w.heap.size + 1 + 1 + 1) X S i m c w.heap.size sv zs (by omega) W0 (by omega) c2 c3 (Old.cellOf' U0 hX1) (Old.cellOf' U0 hS) him (hE.old U0)) belowK_t (belowK_b (by omega)) (Below.refl _ _) (fun _ => rfl)
  (fun (pre : List {x : Ent // SeqOk x}) W => LastI w pre.length W)
  (fun _ _ _ => False)
  (fun pre A B row hs hg hr => hs.grown (by omega) hg hr)
  (fun _ _ _ _ _ hs _ _ => hs)
  ⟨c0, ⟨0, c1, by omega, by simp⟩, U0⟩
  (fun x a' W => ∃ Bx, w.heap.size + 1 < Bx ∧ Has W Bx 47 #[.int .i64 ((x.1.seq : Nat) : Int), .string x.1.key, .bool x.1.del, .int .i64 ((x.1.slot : Nat) : Int), .int .i64 ((x.1.off : Nat) : Int), .int .i64 ((x.1.size : Nat) : Int)] ∧ a' = { tmps := #[.pointer (some ⟨X, 0, none⟩), .int .i64 ((i : Nat) : Int), undef, undef, .pointer (some ⟨w.heap.size, 0, none⟩), .pointer (some ⟨w.heap.size + 1, 0, none⟩), .pointer (some ⟨Bx, 0, none⟩), .pointer (some ⟨X, 0, none⟩), .int .i64 ((i : Nat) : Int), .func (.func 168) #[] #[.pointer (some ⟨w.heap.size + 1 + 1, 0, none⟩), .pointer (some ⟨w.heap.size + 1 + 1 + 1, 0, none⟩)], x.1.val, undef, undef, undef, undef, undef, undef, undef, undef, undef, undef, undef], defers := [] })
  (fun x a' _ A B row hs hg hr => by obtain ⟨Bx, h1, h2, h3⟩ := hs; exact ⟨Bx, h1, has_own Bx _ (fun (_ : Unit) => #[.int .i64 ((x.1.seq : Nat) : Int), .string x.1.key, .bool x.1.del, .int .i64 ((x.1.slot : Nat) : Int), .int .i64 ((x.1.off : Nat) : Int), .int .i64 ((x.1.size : Nat) : Int)]) () A B row h2 hg (fun r e => (hr r e).2), h3⟩)
  ?assign ?body ?done ?stop
 case assign =>
  rintro l pre x W K hA hK
  unfold Ent.val
  gi_wp2
  obtain ⟨l0, q1, -⟩ := hA.2.1
  exact hK _ _ ((KeepsOthers.alloc _ _).from _) ((Below.refl _ W).alloc hA.2.2.size _) (hA.old ((Upd.refl _ W).alloc _)) ⟨W.heap.size, q1.lt, Has.new W _ _, rfl⟩
 case body =>
  rintro l pre x a' W hl2 ⟨r, hr⟩ hA ⟨Bx, hBx, hX, rfl⟩ hlt
  obtain ⟨a1, ⟨l0, q1, q2, q3⟩, a4⟩ := hA
  have hs1 : 1 ≤ x.1.seq := x.2.1
  have hs2 : x.1.seq ≤ 1099511627776 := x.2.2
  have x0 : W.cell? ⟨Bx, 0, none⟩ = some (.int .i64 ((x.1.seq : Nat) : Int)) := hX.cell 0
  have y0 : W.cell? ⟨w.heap.size + 1, 0, none⟩ = some (.int .i64 ((pre.length : Nat) : Int)) := q1.cell 0
  have y1 : W.cell? ⟨w.heap.size + 1, 1, none⟩ = some (.int .i64 ((l0 : Nat) : Int)) := q1.cell 1
  have f0 := q1.frozen 0
  have f1 := q1.frozen 1
  have g1 : IntKind.i64.wrap ((pre.length : Int) + 1) = ((pre.length + 1 : Nat) : Int) := by rw [show (pre.length : Int) + 1 = ((pre.length + 1 : Nat) : Int) by omega]; exact IntWalk.i64_in _ (by omega)
  have ql := q1.lt
  have HA := Lib.hid (And.intro a1 (And.intro q1 a4))
  clear hX a1 q1 a4
  unfold Ent.val
  by_cases hlx : l0 < x.1.seq
  all_goals
   gi_wp2
   exact last_round HA.out.1 HA.out.2.1 HA.out.2.2 (by omega) (by omega) (by rw [List.length_append]; simp) (by omega)
 case done =>
  rintro D ys W hD rfl hA hK
  obtain ⟨a1, ⟨l0, q1, q2, q3⟩, a4⟩ := hA
  rw [hzl] at q1 q3
  have y0 : W.cell? ⟨w.heap.size + 1, 0, none⟩ = some (.int .i64 ((es.length : Nat) : Int)) := q1.cell 0
  have y1 : W.cell? ⟨w.heap.size + 1, 1, none⟩ = some (.int .i64 ((l0 : Nat) : Int)) := q1.cell 1
  have r0 : W.cell? ⟨w.heap.size, 0, none⟩ = some (.int .i64 0) := a1.cell 0
  have r1 : W.cell? ⟨w.heap.size, 1, none⟩ = some (.int .i64 0) := a1.cell 1
  have f0 := a1.frozen 0
  have f1 := a1.frozen 1
  have hl1 := q1.lt
  go_wp2
  generalize hW' : World.setCell (World.setCell W _ _) _ _ = W'
  have hK' : W'.heap[D]? = some (.deferred (some [])) := by
   subst hW'
   have hne : D ≠ w.heap.size := by omega
   exact (Below.heap_setCell _ ⟨w.heap.size, 1, none⟩ _ D hne).trans ((Below.heap_setCell W ⟨w.heap.size, 0, none⟩ _ D hne).trans hK)
  refine ⟨by simp, .inl ⟨_, _, rfl, run_takeDeferred hK', ?_⟩⟩
  have hH : Has W' w.heap.size 248 #[.int .i64 ((es.length : Nat) : Int), .int .i64 ((l0 : Nat) : Int)] := by
   subst hW'
   simpa using (a1.set 0 (.int .i64 ((es.length : Nat) : Int))).set 1 (.int .i64 ((l0 : Nat) : Int))
  have hO : Old w W' := by
   subst hW'
   exact (a4.setCell _ _ (.inr (by simp))).setCell _ _ (.inr (by simp))
  have hP := has_own w.heap.size 248 (fun (_ : Unit) => #[.int .i64 ((es.length : Nat) : Int), .int .i64 ((l0 : Nat) : Int)]) () W' (W'.putObj D (.deferred none)) _ hH (grownBy_putObj' _ D (.deferred none)) (fun k e => by cases e; exact ⟨_, hK', rfl⟩)
  have p0 := hP.cell 0
  have p1 := hP.cell 1
  simp only [List.getElem?_toArray, List.getElem?_cons_zero, List.getElem?_cons_succ] at p0 p1
  refine ⟨.agg #[.int .i64 ((es.length : Nat) : Int), .int .i64 ((l0 : Nat) : Int)], ?_, ⟨l0, rfl, q2, q3⟩, hO.putObj D _ (.inr (by omega))⟩
  simp [results, Tryz.f222, go_sem, p0, p1]
 case stop =>
  rintro D c pre W _ _ h _
  exact h.elim
end Go.M
