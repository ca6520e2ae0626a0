/- Walks 41. -/
import Derived.Test.YtjadmbkmlehfdaaGreatDoorProg
import Derived.Test.YtjadmbkmlehfdaaGreatDoorK21
import Derived.Test.YtjadmbkmlehfdaaGreatDoorK40
import Derived.ChangeOld
import Derived.OpenShut
set_option linter.unusedVariables false
set_option linter.unusedSimpArgs false
set_option maxRecDepth 100000
namespace Go.M
open Go.Proofs Go.RowKit Go.ChangeShapes
section
variable {H : Type} {enc : TypeId × Value → H} {P : Program} {w : World} {base : Nat} {sp : Nat → Bool} {held : Bool} {fuel : Nat}
theorem cell_one {cs : List Value} {o : Nat} {v : Value} (h : (cs.drop o).take 1 = [v]) : cs[o]? = some v := by
 have h4 := congrArg (fun l => l[0]?) h
 simpa using h4
theorem fld_int {t : TypeId} {fs : Array Field} {cs : List Value} {x : DataW H × List MemPlace} {k : IntKind} {i : Nat} {f : Field} {o u : Nat} (ht : P.underlying t = some (.struct fs)) (hf : fs[i]? = some f) (ho : f.offset = o) (hu : f.type = u)
 (hk : P.underlying u = some (.int k)) (hc : P.cellsOf u = 1) (h : DataW.trod enc P w base sp held fuel t cs = some x) : ∃ n, cs[o]? = some (.int k n) ∧ (Lit.int k n).wf = true := by
 obtain ⟨xs, n, _, _, _, hl, hall⟩ := DataW.trod_struct ht h
 have h1 := hall i f hf
 have hi : i < xs.length := by rw [hl]; exact (Array.getElem?_eq_some_iff.1 hf).1
 rw [List.getElem?_eq_getElem hi, hu, hc, ho] at h1
 obtain ⟨m, hm, _, hw⟩ := DataW.trod_int hk h1
 exact ⟨m, cell_one hm, hw⟩
theorem fld_struct {t : TypeId} {fs : Array Field} {cs : List Value} {x : DataW H × List MemPlace} {i : Nat} {f : Field} {o u c : Nat} (ht : P.underlying t = some (.struct fs)) (hf : fs[i]? = some f) (ho : f.offset = o) (hu : f.type = u)
 (hc : P.cellsOf u = c) (h : DataW.trod enc P w base sp held fuel t cs = some x) : ∃ n y, DataW.trod enc P w base sp held n u ((cs.drop o).take c) = some y := by
 obtain ⟨xs, n, _, _, _, hl, hall⟩ := DataW.trod_struct ht h
 have h1 := hall i f hf
 have hi : i < xs.length := by rw [hl]; exact (Array.getElem?_eq_some_iff.1 hf).1
 rw [List.getElem?_eq_getElem hi, hu, hc, ho] at h1
 exact ⟨n, _, h1⟩
end
theorem add_none (b o k : Nat) : (⟨b, o, none⟩ : Addr).add k = ⟨b, o + k, none⟩ := by
 unfold Addr.add
 split <;> simp_all
theorem u8_of {n : Int} (h : (Lit.int .u8 n).wf = true) : ∃ m : Nat, m < 256 ∧ n = ((m : Nat) : Int) := by
 have h2 : (decide (IntKind.u8.min ≤ n) && decide (n ≤ IntKind.u8.max)) = true := h
 simp only [Bool.and_eq_true, decide_eq_true_eq] at h2
 have h0 : IntKind.u8.min = 0 := by decide
 have h1 : IntKind.u8.max = 255 := by decide
 exact ⟨n.toNat, by omega, by omega⟩
theorem u16_of {n : Int} (h : (Lit.int .u16 n).wf = true) : ∃ m : Nat, m < 65536 ∧ n = ((m : Nat) : Int) := by
 have h2 : (decide (IntKind.u16.min ≤ n) && decide (n ≤ IntKind.u16.max)) = true := h
 simp only [Bool.and_eq_true, decide_eq_true_eq] at h2
 have h0 : IntKind.u16.min = 0 := by decide
 have h1 : IntKind.u16.max = 65535 := by decide
 exact ⟨n.toNat, by omega, by omega⟩
theorem list8 {l : List Value} {x0 x1 x2 x3 x4 x5 x6 x7 : Value} (hl : l.length = 8) (h0 : l[0]? = some x0) (h1 : l[1]? = some x1) (h2 : l[2]? = some x2) (h3 : l[3]? = some x3) (h4 : l[4]? = some x4) (h5 : l[5]? = some x5) (h6 : l[6]? = some x6) (h7 : l[7]? = some x7) : l = [x0, x1, x2, x3, x4, x5, x6, x7] := by
 match l, hl with
 | [y0, y1, y2, y3, y4, y5, y6, y7], _ => simp at h0 h1 h2 h3 h4 h5 h6 h7; simp [h0, h1, h2, h3, h4, h5, h6, h7]
section
variable {H : Type} {enc : TypeId × Value → H} {w : World} {base : Nat} {sp : Nat → Bool} {held : Bool} {fuel : Nat}
theorem cells_get {a : Addr} {n : Nat} {l : List Value} (h : w.cells? base a n = some l) {i : Nat} (hi : i < n) : w.cell? (a.add i) = l[i]? := by
 unfold World.cells? at h
 split at h
 ·exact mapM_some_get h i i (List.getElem?_range hi)
 ·cases h
theorem spot_none {b o : Nat} {s : Option Nat} {v : Value} (h : w.cell? ⟨b, o, s⟩ = some v) : s = none := by
 cases s with
 | none => rfl
 | some q =>
  unfold World.cell? at h
  split at h
  ·simp at h
  ·cases h
theorem arr_int {P : Program} {t e n : Nat} {k : IntKind} {cs : List Value} {x : DataW H × List MemPlace} (ht : P.underlying t = some (.array n e)) (he : P.underlying e = some (.int k)) (hc : P.cellsOf e = 1) (h : DataW.trod enc P w base sp held fuel t cs = some x) {i : Nat} (hi : i < n) :
 ∃ m, cs[i]? = some (.int k m) ∧ (Lit.int k m).wf = true := by
 obtain ⟨xs, m, _, _, _, hl, hall⟩ := DataW.trod_array ht h
 have h1 := hall i hi
 rw [List.getElem?_eq_getElem (by omega), hc, Nat.mul_one] at h1
 obtain ⟨m, hm, _, hw⟩ := DataW.trod_int he h1
 exact ⟨m, cell_one hm, hw⟩
theorem moves_of {a : Addr} {n : Nat} {elems : List (DataW H × List MemPlace)} (hl : elems.length = n)
 (h : ∀ i, i < n → (w.cells? base (a.add (i * Tryz.prog.cellsOf 92)) (Tryz.prog.cellsOf 92)).bind (DataW.trod enc Tryz.prog w base sp held fuel 92) = elems[i]?) :
 ∀ j, j < n → ∃ lb lo, a = ⟨lb, lo, none⟩ ∧ MoveAt w lb lo j := by
 have hc : Tryz.prog.cellsOf 92 = 3 := by kernel_rfl
 rw [hc] at h
 have h1 : ∀ i, i < n → ∃ kd ky sz : Nat, kd < 256 ∧ ky < 256 ∧ sz < 256 ∧ w.cell? ((a.add (i * 3)).add 0) = some (.int .u8 ((kd : Nat) : Int)) ∧ w.cell? ((a.add (i * 3)).add 1) = some (.int .u8 ((ky : Nat) : Int)) ∧ w.cell? ((a.add (i * 3)).add 2) = some (.int .u8 ((sz : Nat) : Int)) := by
  intro i hi
  have h2 := h i hi
  rw [List.getElem?_eq_getElem (by omega)] at h2
  cases hq : w.cells? base (a.add (i * 3)) 3 with
  | none => rw [hq] at h2; cases h2
  | some l =>
   rw [hq] at h2
   simp only [Option.bind_some] at h2
   obtain ⟨a0, e0, f0⟩ := fld_int (i := 0) Tryz.underlying92 rfl rfl rfl Tryz.underlying5 (by kernel_rfl) h2
   obtain ⟨a1, e1, f1⟩ := fld_int (i := 1) Tryz.underlying92 rfl rfl rfl Tryz.underlying5 (by kernel_rfl) h2
   obtain ⟨a2, e2, f2⟩ := fld_int (i := 2) Tryz.underlying92 rfl rfl rfl Tryz.underlying5 (by kernel_rfl) h2
   obtain ⟨m0, g0, rfl⟩ := u8_of f0
   obtain ⟨m1, g1, rfl⟩ := u8_of f1
   obtain ⟨m2, g2, rfl⟩ := u8_of f2
   exact ⟨m0, m1, m2, g0, g1, g2, (cells_get hq (by omega)).trans e0, (cells_get hq (by omega)).trans e1, (cells_get hq (by omega)).trans e2⟩
 obtain ⟨b, o, s⟩ := a
 intro j hj
 obtain ⟨_, _, _, _, _, _, z, _, _⟩ := h1 0 (by omega)
 obtain rfl := spot_none (b := b) (o := o) (s := s) (by simpa [Addr.add] using z)
 obtain ⟨kd, ky, sz, q0, q1, q2, m0, m1, m2⟩ := h1 j hj
 simp only [add_none, Nat.add_zero] at m0 m1 m2
 exact ⟨b, o, rfl, kd, ky, sz, q0, q1, q2, m0, m1, m2⟩
theorem setup_of {cs : Array Value} {x : DataW H × List MemPlace} (hsz : cs.size = Tryz.prog.cellsOf 25) (h : DataW.trod enc Tryz.prog w base sp held fuel 25 (Value.agg cs).cells.toList = some x) :
 ∃ (n0 n1 n2 n3 n4 n5 n6 ll lc : Nat) (al : Option Addr), cs = #[.int .u8 ((n0 : Nat) : Int), .int .u8 ((n1 : Nat) : Int), .int .u8 ((n2 : Nat) : Int), .int .u8 ((n3 : Nat) : Int), .int .u8 ((n4 : Nat) : Int), .int .u8 ((n5 : Nat) : Int), .int .u8 ((n6 : Nat) : Int), .slice al ll lc] ∧
  n0 < 256 ∧ n1 < 256 ∧ n2 < 256 ∧ n3 < 256 ∧ n4 < 256 ∧ n5 < 256 ∧ n6 < 256 ∧ ll ≤ lc ∧ lc ≤ 9223372036854775807 ∧ (ll = 0 ∨ al.isSome = true) ∧ ∀ j, j < ll → j < 60 → ∃ lb lo, al = some ⟨lb, lo, none⟩ ∧ MoveAt w lb lo j := by
 have hsz' : cs.toList.length = 8 := by rw [Array.length_toList, hsz]; kernel_rfl
 obtain ⟨k, y, hy⟩ := fld_struct (i := 0) (c := 7) Tryz.underlying25 rfl rfl rfl (by kernel_rfl) h
 obtain ⟨k', y', hy'⟩ := fld_struct (i := 1) (c := 1) Tryz.underlying25 rfl rfl rfl (by kernel_rfl) h
 simp only [Value.cells] at hy hy'
 have hi : ∀ i, i < 7 → ∃ m : Nat, m < 256 ∧ cs.toList[i]? = some (.int .u8 ((m : Nat) : Int)) := by
  intro i hi
  obtain ⟨m, e, f⟩ := arr_int Tryz.underlying22 Tryz.underlying5 (by kernel_rfl) hy hi
  obtain ⟨m, g, rfl⟩ := u8_of f
  refine ⟨m, g, ?_⟩
  rw [List.getElem?_take_of_lt hi] at e
  simpa using e
 obtain ⟨n0, g0, e0⟩ := hi 0 (by omega)
 obtain ⟨n1, g1, e1⟩ := hi 1 (by omega)
 obtain ⟨n2, g2, e2⟩ := hi 2 (by omega)
 obtain ⟨n3, g3, e3⟩ := hi 3 (by omega)
 obtain ⟨n4, g4, e4⟩ := hi 4 (by omega)
 obtain ⟨n5, g5, e5⟩ := hi 5 (by omega)
 obtain ⟨n6, g6, e6⟩ := hi 6 (by omega)
 have e7 : ∃ v, (cs.toList.drop 7).take 1 = [v] ∧ cs.toList[7]? = some v := by
  refine ⟨cs.toList[7]'(by omega), ?_, List.getElem?_eq_getElem (by omega)⟩
  rw [List.drop_eq_getElem_cons (by omega)]
  rfl
 obtain ⟨v7, d7, e7⟩ := e7
 have hz : DataW.trod enc Tryz.prog w base sp held k' 23 (List.take 1 (List.drop 7 cs.toList)) = some y' := hy'
 rw [d7] at hz
 have hcs := list8 hsz' e0 e1 e2 e3 e4 e5 e6 e7
 obtain ⟨l⟩ := cs
 simp only at hcs
 subst hcs
 rcases DataW.trod_slice Tryz.underlying23 hz with ⟨h1, _⟩ | ⟨a, len, cap, elems, rest, m, _, h1, _, _, c1, c2, hl, hr, _⟩
 ·simp only [List.cons.injEq, and_true] at h1
  subst h1
  exact ⟨n0, n1, n2, n3, n4, n5, n6, 0, 0, none, rfl, g0, g1, g2, g3, g4, g5, g6, Nat.le_refl _, Nat.zero_le _, .inl rfl, fun j hj => absurd hj (by omega)⟩
 ·simp only [List.cons.injEq, and_true] at h1
  subst h1
  refine ⟨n0, n1, n2, n3, n4, n5, n6, len, cap, some a, rfl, g0, g1, g2, g3, g4, g5, g6, c1, c2, .inr rfl, fun j hj _ => ?_⟩
  obtain ⟨lb, lo, rfl, hm⟩ := moves_of hl hr j hj
  exact ⟨lb, lo, rfl, hm⟩
end
theorem cell_glob {w : World} {b : Nat} {c : Array Value} {t : TypeId} {fz : Nat × Nat} (h : w.heap[b]? = some (.cells c t fz)) (i : Nat) : w.cell? ⟨b, i, none⟩ = c.toList[i]? := by
 simp [World.cell?, h]
theorem db_of {w : World} {c : Array Value} {t : TypeId} {fz : Nat × Nat} (h : w.heap[3]? = some (.cells c t fz)) (hc : c.toList = (List.range 64).map fun q => .int .u8 ((dbTab.getD q 0 : Nat) : Int)) : DbAt w := by
 intro q hq
 rw [cell_glob h, hc]
 simp [hq]
theorem seal_of {w : World} {c : Array Value} {t : TypeId} {fz : Nat × Nat} (h : w.heap[1]? = some (.cells c t fz)) (hc : c.toList = [.bool false, .bool true, .bool false, .bool false, .bool true, .int .i64 2]) : SealAt w := by
 refine ⟨?_, ?_, ?_, ?_, ?_, ?_⟩ <;> (rw [cell_glob h, hc]; rfl)
theorem drop_of {w : World} {c : Array Value} {t : TypeId} {fz : Nat × Nat} (h : w.heap[0]? = some (.cells c t fz)) (hc : c.toList = [.bool false, .bool false, .bool true, .bool true, .bool false, .int .i64 0]) : DropAt w := by
 refine ⟨?_, ?_, ?_, ?_, ?_, ?_⟩ <;> (rw [cell_glob h, hc]; rfl)
section
variable {H : Type} {enc : TypeId × Value → H} {w : World} {base : Nat} {sp : Nat → Bool} {held : Bool} {fuel : Nat}
theorem nums_of {x : DataW H × List MemPlace} {v : Value} (hv : v.cells.toList = [v]) (h : DataW.trod enc Tryz.prog w base sp held fuel 60 v.cells.toList = some x) :
 ∃ (ll lc : Nat) (al : Option Addr), v = .slice al ll lc ∧ ll ≤ lc ∧ lc ≤ 9223372036854775807 ∧ ∀ j, j < ll → NumAt w al j := by
 rw [hv] at h
 rcases DataW.trod_slice Tryz.underlying60 h with ⟨h1, _⟩ | ⟨a, len, cap, elems, rest, m, _, h1, _, _, c1, c2, hl, hr, _⟩
 ·simp only [List.cons.injEq, and_true] at h1
  exact ⟨0, 0, none, h1, Nat.le_refl _, Nat.zero_le _, fun j hj => absurd hj (by omega)⟩
 ·simp only [List.cons.injEq, and_true] at h1
  refine ⟨len, cap, some a, h1, c1, c2, fun j hj => ?_⟩
  have hc : Tryz.prog.cellsOf 131 = 1 := by kernel_rfl
  rw [hc] at hr
  have h3 : ∀ i, i < len → ∃ q : Nat, q < 65536 ∧ w.cell? (a.add i) = some (.int .u16 ((q : Nat) : Int)) := by
   intro i hi
   have h2 := hr i hi
   rw [List.getElem?_eq_getElem (by omega), Nat.mul_one] at h2
   cases hq : w.cells? base (a.add i) 1 with
   | none => rw [hq] at h2; cases h2
   | some l =>
    rw [hq] at h2
    simp only [Option.bind_some] at h2
    obtain ⟨n, hn, _, hw⟩ := DataW.trod_int Tryz.underlying131 h2
    obtain ⟨q, g, rfl⟩ := u16_of hw
    have := cells_get hq (show 0 < 1 by omega)
    rw [hn] at this
    exact ⟨q, g, by simpa [Addr.add] using this⟩
  obtain ⟨b, o, s⟩ := a
  obtain ⟨_, _, z⟩ := h3 0 (by omega)
  obtain rfl := spot_none (b := b) (o := o) (s := s) (by simpa [Addr.add] using z)
  obtain ⟨q, g, hc2⟩ := h3 j hj
  simp only [add_none] at hc2
  exact ⟨b, o, q, rfl, g, hc2⟩
end
theorem load_of {w : World} {c : Array Value} {t : TypeId} {fz : Nat × Nat} (h : w.heap[2]? = some (.cells c t fz)) (hc : c.toList = [.bool true, .bool false, .bool false, .bool false, .bool false, .int .i64 2]) : LoadAt w := by
 refine ⟨?_, ?_, ?_, ?_, ?_, ?_⟩ <;> (rw [cell_glob h, hc]; rfl)
end Go.M
