/- From what is known of a call to the call at a world whose package variables are laid. -/
import Derived.Test.YtdhcjepgihfplaaGreatDoorDxRb
import Derived.ProofKit
import Derived.LaidMore
import Derived.OpenShut
namespace Go.X
noncomputable section

/-- the type of a block's cells, as a value -/
def tyAt (w : World) (B : Nat) : Value := match w.heap[B]? with | some (.cells _ t _) => .int .i64 (Int.ofNat t) | _ => .bool false

/-- the environment of a call: the package variables alone; what is not known lies at even places -/
def env0 (NG : Nat) (w : World) (sy : Nat → Value) : Env :=
  ⟨fun b => if b < NG then some (b, 0) else none, fun i => if i % 2 = 1 then tyAt w (i / 2) else sy (i / 2)⟩

theorem env0_ty {NG : Nat} {w : World} {sy : Nat → Value} {b : Nat} {c : Array Value} {t : TypeId} {fz : Nat × Nat} (h : w.heap[b]? = some (.cells c t fz)) : (env0 NG w sy).ty b = t := by
  have h1 : (2 * b + 1) % 2 = 1 := by omega
  have h2 : (2 * b + 1) / 2 = b := by omega
  simp only [Env.ty, env0, h1, if_true, h2, tyAt, h, Int.ofNat_eq_natCast, Int.toNat_natCast]

theorem kept_same {w w' : World} (h1 : w'.os = w.os) (h2 : w'.output = w.output) (h : ∀ B, B < w.heap.size → w'.heap[B]? = w.heap[B]?) (may : MemPlace → Prop) : w.keptBut w' may := by
  refine ⟨h1, h2, fun i hi => ?_⟩
  rw [h i hi]
  have hk := World.keptBut_refl w may
  exact hk.2.2 i hi

theorem chkTrues_mem {X : XP} {n f : Nat} {pre : AHeap} : ∀ {l : List (List AV)}, chkTrues X n f pre l = true → ∀ as ∈ l, chkTrue X n f pre as = true := by
  intro l
  induction l with
  | nil => intro _ as h; cases h
  | cons a r ih =>
    intro h as hm
    simp only [chkTrues, Bool.and_eq_true] at h
    rcases List.mem_cons.1 hm with rfl | hm
    · exact h.1
    · exact ih h.2 as hm

theorem outsTrue_mem : ∀ {l : List (AV × AHeap)}, outsTrue l = true → ∀ p ∈ l, p.1 = .bool true := by
  intro l
  induction l with
  | nil => intro _ p h; cases h
  | cons a r ih =>
    intro h p hm
    simp only [outsTrue, Bool.and_eq_true] at h
    rcases List.mem_cons.1 hm with rfl | hm
    · have h1 := h.1
      unfold isTrueA at h1
      split at h1
      · rename_i b hb; rw [hb, h1]
      · cases h1
    · exact ih h.2 p hm

theorem chkTrues_append {X : XP} {n f : Nat} {pre : AHeap} : ∀ {l m : List (List AV)}, chkTrues X n f pre l = true → chkTrues X n f pre m = true → chkTrues X n f pre (l ++ m) = true := by
  intro l
  induction l with
  | nil => intro m _ h; exact h
  | cons a r ih =>
    intro m h h'
    simp only [chkTrues, Bool.and_eq_true, List.cons_append] at h ⊢
    exact ⟨h.1, ih h.2 h'⟩

theorem top_append {X : XP} {n f : Nat} {pre : AHeap} {l m : List (List AV)} (h : chkTop X n f pre l = true) (h' : chkTop X n f pre m = true) : chkTop X n f pre (l ++ m) = true := by
  simp only [chkTop, Bool.and_eq_true] at h h' ⊢
  exact ⟨h.1, chkTrues_append h.2 h'.2⟩

/-! ### a struct of five bools and a number, opened -/
section
variable {H : Type} {enc : TypeId × Value → H} {P : Program} {w : World} {base : Nat} {sp : Nat → Bool} {held : Bool} {fuel : Nat}

theorem open_bools {n : Nat} {t e : TypeId} {cs : List Value} {bs : List Bool} {p : List MemPlace} (ht : P.underlying t = some (.array n e)) (he : P.underlying e = some .bool) (hc : P.cellsOf e = 1) (ht' : P.cellsOf t = n)
    (h : DataW.trod enc P w base sp held fuel t cs = some (.agg (bs.map fun b => .lit (.bool b)), p)) : cs = bs.map .bool := by
  obtain ⟨xs, m, _, hx, hl, hn, hf⟩ := DataW.trod_array ht h
  simp only [Prod.mk.injEq, DataW.agg.injEq] at hx
  have hbl : bs.length = n := by
    have := congrArg List.length hx.1
    simpa [hn] using this
  refine List.ext_getElem? fun i => ?_
  by_cases hi : i < n
  · have h1 := hf i hi
    rw [hc, Nat.mul_one] at h1
    have hxi : i < xs.length := by omega
    rw [List.getElem?_eq_getElem hxi] at h1
    obtain ⟨b, hb, hxb⟩ := DataW.trod_bool he h1
    have hbi : i < bs.length := by omega
    have h2 := congrArg (fun l => l[i]?) hx.1
    simp only [List.getElem?_map, List.getElem?_eq_getElem hxi, List.getElem?_eq_getElem hbi, Option.map_some, Option.some.injEq] at h2
    rw [hxb] at h2
    simp only [DataW.lit.injEq, Lit.bool.injEq] at h2
    have h3 : cs[i]? = some (.bool b) := by
      have : (cs.drop i).take 1 = [.bool b] := hb
      have h4 := congrArg (fun l => l[0]?) this
      simpa using h4
    rw [h3, List.getElem?_map, List.getElem?_eq_getElem hbi, h2]; rfl
  · rw [List.getElem?_eq_none (by omega), List.getElem?_eq_none (by simp; omega)]

theorem open_chg {t ta tb ti : TypeId} {f0 f1 : Field} {cs : List Value} {bs : List Bool} {k : Int} {p : List MemPlace} (ht : P.underlying t = some (.struct #[f0, f1]))
    (h0 : f0.type = ta ∧ f0.offset = 0) (h1 : f1.type = ti ∧ f1.offset = 5) (ha : P.underlying ta = some (.array 5 tb)) (hb : P.underlying tb = some .bool) (hi : P.underlying ti = some (.int .i64))
    (c : P.cellsOf t = 6 ∧ P.cellsOf ta = 5 ∧ P.cellsOf tb = 1 ∧ P.cellsOf ti = 1)
    (h : DataW.trod enc P w base sp held fuel t cs = some (.agg [.agg (bs.map fun b => .lit (.bool b)), .lit (.int .i64 k)], p)) : cs = bs.map .bool ++ [.int .i64 k] := by
  obtain ⟨y0, y1, n, hx, hl, e0, e1⟩ := Go.ChangeShapes.trod_struct2 ht h
  simp only [Prod.mk.injEq, DataW.agg.injEq, List.cons.injEq, and_true] at hx
  obtain ⟨⟨hy0, hy1⟩, _⟩ := hx
  rw [h0.1, h0.2, c.2.1] at e0
  rw [h1.1, h1.2, c.2.2.2] at e1
  rw [c.1] at hl
  obtain ⟨d0, q0⟩ := y0
  obtain ⟨d1, q1⟩ := y1
  subst hy0; subst hy1
  have g0 := open_bools ha hb c.2.2.1 c.2.1 e0
  obtain ⟨m, g1, hm, _⟩ := DataW.trod_int hi e1
  simp only [Prod.mk.injEq, DataW.lit.injEq, Lit.int.injEq, true_and] at hm
  rw [← hm.1] at g1
  have hcs : cs = cs.take 5 ++ cs.drop 5 := (List.take_append_drop 5 cs).symm
  have h5 : (cs.drop 5).take 1 = cs.drop 5 := List.take_of_length_le (by simp; omega)
  rw [h5] at g1
  rw [hcs, g1]
  simp only [List.drop_zero] at g0
  rw [g0]
end

theorem var_heap {P : Program} {w : World} {n : String} {g : Nat} {cs : Array Value} (hg : P.globalNamed n = some g) (h : w.var? P n = some cs) : ∃ t fz, w.heap[g]? = some (.cells cs t fz) := by
  simp only [World.var?, hg, Option.bind_some] at h
  split at h
  · rename_i c t fz hc
    cases h
    exact ⟨_, _, hc⟩
  · cases h

end
end Go.X
