/- Arguments: what they read as, opened; readings behind a call that leaves memory alone; numbers of which little is known. -/
import Derived.Test.YtdhcjepgihfplaaGreatDoorDxRd
import Derived.ChangeOld
namespace Go.X
noncomputable section

theorem same_at {W W' : World} (h : ∀ B, B < W.heap.size → W'.heap[B]? = W.heap[B]?) (p : MemPlace) (hp : p.block < W.heap.size) : W.sameAt W' p := by
  cases p with
  | cell b off =>
    show W'.cell? ⟨b, off, none⟩ = W.cell? ⟨b, off, none⟩
    have hb : W'.heap[b]? = W.heap[b]? := h b hp
    simp only [World.cell?, hb]
  | map b => exact h b hp

/-- what was read before is read behind -/
theorem trodAll_keep {H : Type} {enc : TypeId × Value → H} {P : Program} {W W' : World} {base : Nat} {sp : Nat → Bool} {held : Bool} (h : ∀ B, B < W.heap.size → W'.heap[B]? = W.heap[B]?) :
    ∀ {ts : List TypeId} {vs : List Value} {ds : List (DataW H)} {ps : List MemPlace}, DataW.TrodAll enc P W base sp held ts vs ds ps → DataW.TrodAll enc P W' base sp held ts vs ds ps := by
  intro ts
  induction ts with
  | nil =>
    intro vs ds ps ht
    obtain ⟨rfl, rfl, rfl⟩ := ChangeShapes.trodAll_nil ht
    exact ChangeShapes.trodAll_mk0
  | cons t ts ih =>
    intro vs ds ps ht
    obtain ⟨v, vs', d, ds', p, q, rfl, rfl, rfl, ⟨fuel, h1⟩, h2⟩ := ChangeShapes.trodAll_cons ht
    exact ⟨p, q, ⟨fuel, DataW.trod_carry _ _ _ _ h1 (fun pl hpl => same_at h pl (DataW.trod_lt _ _ _ _ h1 pl hpl))⟩, ih h2, rfl⟩

section
variable {H : Type} {enc : TypeId × Value → H} {P : Program} {w : World} {base : Nat} {sp : Nat → Bool} {held : Bool} {fuel : Nat}

theorem cell_one {cs : List Value} {o : Nat} {v : Value} (h : (cs.drop o).take 1 = [v]) : cs[o]? = some v := by
  have h4 := congrArg (fun l => l[0]?) h
  simpa using h4

/-- a field that is a number -/
theorem fld_int {t : TypeId} {fs : Array Field} {cs : List Value} {x : DataW H × List MemPlace} {k : IntKind} {i : Nat} {f : Field} {o u : Nat} (ht : P.underlying t = some (.struct fs)) (hf : fs[i]? = some f) (ho : f.offset = o) (hu : f.type = u)
    (hk : P.underlying u = some (.int k)) (hc : P.cellsOf u = 1) (h : DataW.trod enc P w base sp held fuel t cs = some x) : ∃ n, cs[o]? = some (.int k n) ∧ (Lit.int k n).wf = true := by
  obtain ⟨xs, n, _, _, _, hl, hall⟩ := DataW.trod_struct ht h
  have h1 := hall i f hf
  have hi : i < xs.length := by rw [hl]; exact (Array.getElem?_eq_some_iff.1 hf).1
  rw [List.getElem?_eq_getElem hi, hu, hc, ho] at h1
  obtain ⟨m, hm, _, hw⟩ := DataW.trod_int hk h1
  exact ⟨m, cell_one hm, hw⟩

theorem fld_bool {t : TypeId} {fs : Array Field} {cs : List Value} {x : DataW H × List MemPlace} {i : Nat} {f : Field} {o u : Nat} (ht : P.underlying t = some (.struct fs)) (hf : fs[i]? = some f) (ho : f.offset = o) (hu : f.type = u)
    (hk : P.underlying u = some .bool) (hc : P.cellsOf u = 1) (h : DataW.trod enc P w base sp held fuel t cs = some x) : ∃ b, cs[o]? = some (.bool b) := by
  obtain ⟨xs, n, _, _, _, hl, hall⟩ := DataW.trod_struct ht h
  have h1 := hall i f hf
  have hi : i < xs.length := by rw [hl]; exact (Array.getElem?_eq_some_iff.1 hf).1
  rw [List.getElem?_eq_getElem hi, hu, hc, ho] at h1
  obtain ⟨m, hm, _⟩ := DataW.trod_bool hk h1
  exact ⟨m, cell_one hm⟩

theorem fld_str {t : TypeId} {fs : Array Field} {cs : List Value} {x : DataW H × List MemPlace} {i : Nat} {f : Field} {o u : Nat} (ht : P.underlying t = some (.struct fs)) (hf : fs[i]? = some f) (ho : f.offset = o) (hu : f.type = u)
    (hk : P.underlying u = some .string) (hc : P.cellsOf u = 1) (h : DataW.trod enc P w base sp held fuel t cs = some x) : ∃ s : ByteArray, cs[o]? = some (.string s) ∧ s.size ≤ maxLen := by
  obtain ⟨xs, n, _, _, _, hl, hall⟩ := DataW.trod_struct ht h
  have h1 := hall i f hf
  have hi : i < xs.length := by rw [hl]; exact (Array.getElem?_eq_some_iff.1 hf).1
  rw [List.getElem?_eq_getElem hi, hu, hc, ho] at h1
  obtain ⟨m, hm, _, hs⟩ := DataW.trod_string hk h1
  exact ⟨m, cell_one hm, hs⟩

theorem fld_slice {t e : TypeId} {fs : Array Field} {cs : List Value} {x : DataW H × List MemPlace} {i : Nat} {f : Field} {o u : Nat} (ht : P.underlying t = some (.struct fs)) (hf : fs[i]? = some f) (ho : f.offset = o) (hu : f.type = u)
    (hk : P.underlying u = some (.slice e)) (hc : P.cellsOf u = 1) (h : DataW.trod enc P w base sp held fuel t cs = some x) : ∃ a len cap, cs[o]? = some (.slice a len cap) ∧ len ≤ maxLen := by
  obtain ⟨xs, n, _, _, _, hl, hall⟩ := DataW.trod_struct ht h
  have h1 := hall i f hf
  have hi : i < xs.length := by rw [hl]; exact (Array.getElem?_eq_some_iff.1 hf).1
  rw [List.getElem?_eq_getElem hi, hu, hc, ho] at h1
  rcases DataW.trod_slice hk h1 with ⟨hm, _⟩ | ⟨a, len, cap, _, _, _, _, hm, _, _, h2, h3, _⟩
  · exact ⟨none, 0, 0, cell_one hm, Nat.zero_le _⟩
  · exact ⟨some a, len, cap, cell_one hm, Nat.le_trans h2 h3⟩

/-- a field that is a struct, opened -/
theorem fld_struct {t : TypeId} {fs : Array Field} {cs : List Value} {x : DataW H × List MemPlace} {i : Nat} {f : Field} {o u c : Nat} (ht : P.underlying t = some (.struct fs)) (hf : fs[i]? = some f) (ho : f.offset = o) (hu : f.type = u)
    (hc : P.cellsOf u = c) (h : DataW.trod enc P w base sp held fuel t cs = some x) : ∃ n y, DataW.trod enc P w base sp held n u ((cs.drop o).take c) = some y := by
  obtain ⟨xs, n, _, _, _, hl, hall⟩ := DataW.trod_struct ht h
  have h1 := hall i f hf
  have hi : i < xs.length := by rw [hl]; exact (Array.getElem?_eq_some_iff.1 hf).1
  rw [List.getElem?_eq_getElem hi, hu, hc, ho] at h1
  exact ⟨n, _, h1⟩
end

/-! ### arguments of which little is known -/
theorem cvAgg {e : Env} {l : List AV} {vs : List Value} (h : cvs e l = some vs) : cv e (.agg l) = some (.agg vs.toArray) := by
  simp only [cv, h]

theorem rng_cv {e : Env} {i : Nat} {k : IntKind} {lo hi x : Int} (hs : e.sy i = .int k x) (h : lo ≤ x ∧ x ≤ hi) : cv e (.res i (.rng k lo hi)) = some (.int k x) := by
  show (RC.rng k lo hi).val (e.sy i) = _
  rw [hs]
  simp only [RC.val, h, and_self, if_true]

theorem str_cv {e : Env} {i lo hi : Nat} {x : ByteArray} (hs : e.sy i = .string x) (h : lo ≤ x.size ∧ x.size ≤ hi) : cv e (.res i (.strLen lo hi)) = some (.string x) := by
  show (RC.strLen lo hi).val (e.sy i) = _
  rw [hs]
  simp only [RC.val, h, and_self, if_true]

theorem sl_cv {e : Env} {i lo hi : Nat} {a : Option Addr} {n c : Nat} (hs : e.sy i = .slice a n c) (h : lo ≤ n ∧ n ≤ hi) : cv e (.res i (.slLen lo hi)) = some (.slice a n c) := by
  show (RC.slLen lo hi).val (e.sy i) = _
  rw [hs]
  simp only [RC.val, h, and_self, if_true]

theorem i64_of {n : Int} (h : (Lit.int .i64 n).wf = true) : (-9223372036854775808) ≤ n ∧ n ≤ 9223372036854775807 := by
  have h2 : (decide (IntKind.i64.min ≤ n) && decide (n ≤ IntKind.i64.max)) = true := h
  simp only [Bool.and_eq_true, decide_eq_true_eq] at h2
  have h0 : IntKind.i64.min = (-9223372036854775808) := by decide
  have h1 : IntKind.i64.max = 9223372036854775807 := by decide
  omega

theorem list7 {l : List Value} {x0 x1 x2 x3 x4 x5 x6 : Value} (hl : l.length = 7) (h0 : l[0]? = some x0) (h1 : l[1]? = some x1) (h2 : l[2]? = some x2) (h3 : l[3]? = some x3) (h4 : l[4]? = some x4) (h5 : l[5]? = some x5) (h6 : l[6]? = some x6) : l = [x0, x1, x2, x3, x4, x5, x6] := by
  match l, hl with
  | [y0, y1, y2, y3, y4, y5, y6], _ => simp at h0 h1 h2 h3 h4 h5 h6; simp [h0, h1, h2, h3, h4, h5, h6]

theorem andI {a b : Bool} (ha : a = true) (hb : b = true) : (a && b) = true := by rw [ha, hb]; rfl

/-! ### numbers of which little is known -/
def numVal (sy : Nat → Value) : AV → Option (IntKind × Int)
  | .int k n => some (k, n)
  | .res i (.rng k _ _) => (match sy i with | .int k' n => if k = k' then some (k, n) else none | _ => none)
  | _ => none

theorem numVal_cv {e : Env} {o x : AV} (hs : numSame o x = true) {k : IntKind} {n : Int} (hn : numVal e.sy o = some (k, n)) {v : Value} (hv : cv e x = some v) : v = .int k n := by
  unfold numSame at hs
  split at hs
  · simp only [Bool.and_eq_true, iEq_eq] at hs
    simp only [numVal, Option.some.injEq, Prod.mk.injEq] at hn
    obtain ⟨rfl, rfl⟩ := hn
    rw [kEq_of hs.1, eq_of_beq hs.2]
    exact (cv_int hv)
  · rename_i a k1 lo hi b k2 lo' hi'
    simp only [Bool.and_eq_true] at hs
    have e1 := kEq_of hs.1
    have e2 := nbeq_of hs.2
    subst e1; subst e2
    have hv' : (RC.rng k1 lo' hi').val (e.sy a) = some v := hv
    obtain ⟨m, rfl, _⟩ := val_rng hv'
    have hsy : e.sy a = .int k1 m := by
      cases hq : e.sy a <;> rw [hq] at hv' <;> first
        | (simp [RC.val] at hv'; done)
        | (simp only [RC.val] at hv'
           split at hv'
           · simp_all
           · cases hv')
    simp only [numVal, hsy, if_true, Option.some.injEq, Prod.mk.injEq] at hn
    rw [hn.1, hn.2]
  · cases hs

theorem ora_nil (sy : Nat → Value) : OraOk [] sy := fun o h => by cases h

theorem ora_cons {l : List OraE} {sy : Nat → Value} {o : OraE} (k : IntKind) (a : Int) (k' : IntKind) (b : Int) (u : AV) (hx : numVal sy o.x = some (k, a)) (hy : numVal sy o.y = some (k', b)) (hu : binInt o.op k k' a b = some u)
    (hr : ∀ e : Env, e.sy = sy → cv e o.r = cv e u) (h : OraOk l sy) : OraOk (o :: l) sy := by
  intro p hp
  rcases List.mem_cons.1 hp with rfl | hp
  · intro e he x y hx' hy' vx vy hvx hvy
    subst he
    exact ⟨k, a, k', b, u, numVal_cv hx' hx hvx, numVal_cv hy' hy hvy, hu, hr e rfl⟩
  · exact h p hp
end
end Go.X
