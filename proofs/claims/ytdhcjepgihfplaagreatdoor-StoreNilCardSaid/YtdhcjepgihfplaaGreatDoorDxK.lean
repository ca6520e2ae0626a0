/- Append. -/
import Derived.Test.YtdhcjepgihfplaaGreatDoorDxJ
import Derived.Laws.Append
namespace Go.X
noncomputable section
set_option linter.unusedSectionVars false

section
variable {P : Program} {X : XP} (ok : XPok P X) (w : World) {e : Env} {L : Loops} {H : AHeap} {nx : Nat} {NG : GP} (hH : HR NG e L H.objs.get nx w)

/-- what append takes of its second argument: n elements, their cells ys -/
inductive Src (P : Program) (w : World) (ts : Array TypeId) (size : Nat) (el : TypeId) (x : Value) (n : Nat) (ys : List Value) : Prop where
  | zeros (u : TypeId) (k k' : IntKind) (h1 : ts[1]? = some u) (hu : P.underlying u = some (.int k)) (hx : x = .int k' (n : Int)) (hn : n < 1048576) (z : Value) (hz : ∀ W : World, (zeroValue el).run P W = .ok z W)
      (i : TypeInfo) (hi : ∀ W : World, (typeInfo el).run P W = .ok i W) (hb : i.bytes ≤ 1048576) (hy0 : n * size = 0 → ys = []) (hy1 : n * size ≠ 0 → (Builtin.zeroCells z.cells n).toList = ys)
  | cells (u : TypeId) (d : TypeDesc) (h1 : ts[1]? = some u) (hu : P.underlying u = some d) (hd : (∃ e', d = .slice e') ∨ d = .string) (hl : ∀ W : World, (Builtin.lenOf x).run P W = .ok n W)
      (hc : ∀ W : World, W.heap = w.heap → (Builtin.firstCells size n x).run P W = .ok ys.toArray W)

theorem append_fits {ts : Array TypeId} {t el ty : TypeId} {ei : TyI} (h0 : ts[0]? = some t) (hu : P.underlying t = some (.slice el)) (hke : TyOk P el ei) {x : Value} {n : Nat} {ys : List Value}
    (hsrc : Src P w ts ei.size el x n ys) {base : Option Addr} {sLen sCap : Nat} (hfit : sLen + n ≤ sCap) :
    (Builtin.append_ ts ty #[.slice base sLen sCap, x]).run P w =
      match base with
      | some a => ((storeCells (a.add (sLen * ei.size)) ys).run P w).andThen fun _ w' => .ok (.slice base (sLen + n) sCap) w'
      | none => .ok (.slice none (sLen + n) sCap) w := by
  have hsz := fun W => run_sizeOf' (P := P) W hke
  cases hsrc with
  | cells u d h1 hud hd hl hc =>
    rcases hd with ⟨e', rfl⟩ | rfl
    all_goals
      simp only [Builtin.append_, h0, h1, List.getElem?_toArray, List.getElem?_cons_zero, List.getElem?_cons_succ, Sem.run_bind, run_underlying hu, run_underlying hud, Result.andThen_ok, hsz, Bool.false_eq_true, if_false, hl, Bool.not_false, if_true, Sem.run_ite, if_pos hfit, hc w rfl, Sem.run_pure]
      cases base <;> simp
  | zeros u k k' h1 hud hx hn z hzv i hi hib hy0 hy1 =>
    subst hx
    have hwn : IntKind.i64.wrap (n : Int) = (n : Int) := by rw [wrap_def]; simp [kTop, kAll]; omega
    have hb : ¬ ((n : Int) * (i.bytes : Int) > 2 ^ 48) := by
      have : n * i.bytes ≤ 1099511627776 := Nat.le_trans (Nat.mul_le_mul (Nat.le_of_lt hn) hib) (by decide)
      rw [← Int.natCast_mul]; omega
    have hneg : ¬ ((n : Int) < 0) := by omega
    simp only [Builtin.append_, h0, h1, List.getElem?_toArray, List.getElem?_cons_zero, List.getElem?_cons_succ, Sem.run_bind, run_underlying hu, run_underlying hud, Result.andThen_ok, hsz, if_true, asInt, asIntOf, Sem.run_pure, hwn, if_neg hneg, hi, if_neg hb, Int.toNat_natCast, Bool.not_true, Bool.false_eq_true, if_false, if_pos hfit]
    by_cases h00 : n * ei.size = 0
    · simp only [if_pos h00, Sem.run_pure, Result.andThen_ok, hy0 h00]
      cases base <;> simp
    · simp only [if_neg h00, Sem.run_bind, hzv, Result.andThen_ok, Sem.run_pure, hy1 h00]
      cases base <;> simp

theorem append_grows {ts : Array TypeId} {t el ty : TypeId} {ei : TyI} (h0 : ts[0]? = some t) (hu : P.underlying t = some (.slice el)) (hke : TyOk P el ei) {x : Value} {n : Nat} {ys : List Value}
    (hsrc : Src P w ts ei.size el x n ys) {base : Option Addr} {sLen sCap : Nat} (hgrow : ¬ sLen + n ≤ sCap) (hsmall : sLen + n < 1048576) (hbytes : ei.bytes ≤ 1048576) {old : List Value}
    (hold : ∀ W : World, W.heap = w.heap → (Builtin.firstCells ei.size sLen (.slice base sLen sCap)).run P W = .ok old.toArray W) :
    ∃ (newCap : Nat) (rest : Array Value), sLen + n ≤ newCap ∧ rest.size = (newCap - (sLen + n)) * ei.size ∧
      (Builtin.append_ ts ty #[.slice base sLen sCap, x]).run P w =
        .ok (.slice (some ⟨w.heap.size, 0, none⟩) (sLen + n) newCap) { w with drawn := w.drawn + 1, heap := w.heap.push (.cells (old.toArray ++ ys.toArray ++ rest) el) } := by
  have hsz := fun W => run_sizeOf' (P := P) W hke
  obtain ⟨inf, hinf, hs1, hs2, z0, hz0, hzc0⟩ := hke.info
  have hti : ∀ W : World, (typeInfo el).run P W = .ok inf W := fun W => run_typeInfo' W hinf
  have hzv0 : ∀ W : World, (zeroValue el).run P W = .ok z0 W := fun W => by simp [zeroValue, hti, hz0]
  have hz0l : z0.cells.size = ei.size := by
    have := cvs_length (ofConsts_cvs ⟨fun _ => none, fun _ => .nilFunc⟩ hzc0).1
    simp at this; rw [this, hke.len]
  have hlt : sCap < sLen + n := by omega
  have hncap := nextslicecap_le hlt
  have hmul : Builtin.nextslicecap (sLen + n) sCap * inf.bytes ≤ 2199023255552 := by
    rw [hs2]
    exact Nat.le_trans (Nat.mul_le_mul (Nat.le_trans hncap (show 2 * (sLen + n) ≤ 2097152 by omega)) hbytes) (by decide)
  have hn1 : ∀ q : Prop, ¬ (((sLen + n : Nat) : Int) > IntKind.i64.max ∧ q) := by
    intro q h; have := h.1; simp [IntKind.max, IntKind.signed, IntKind.bits] at this; omega
  have hn2 : ¬ (Builtin.nextslicecap (sLen + n) sCap * inf.bytes > 2 ^ 48) := by omega
  refine ⟨sLen + n + w.tape w.drawn (.appendCap (sLen + n) sCap el) % (2 ^ 63 - (sLen + n)), Builtin.zeroCells z0.cells (sLen + n + w.tape w.drawn (.appendCap (sLen + n) sCap el) % (2 ^ 63 - (sLen + n)) - (sLen + n)), by omega, by simp [Builtin.zeroCells, hz0l], ?_⟩
  have hask : ∀ m, (askRoom m).run P = fun W => .ok () W := fun m => by funext W; simp
  cases hsrc with
  | cells u d h1 hud hd hl hc =>
    rcases hd with ⟨e', rfl⟩ | rfl
    all_goals
      simp only [Builtin.append_, h0, h1, List.getElem?_toArray, List.getElem?_cons_zero, List.getElem?_cons_succ, Sem.run_bind, run_underlying hu, run_underlying hud, Result.andThen_ok, hsz, Bool.false_eq_true, if_false, hl, Bool.not_false, if_true, Sem.run_ite, if_neg hgrow, hti, Sem.run_pure, if_neg (hn1 _), if_neg hn2, run_choose, Question.forced, Question.cut, hask]
      rw [hold { w with drawn := w.drawn + 1 } rfl]
      simp only [Result.andThen_ok]
      rw [hc { w with drawn := w.drawn + 1 } rfl]
      simp only [Result.andThen_ok, hzv0, newRow, Sem.run_bind, run_newObj, Sem.run_pure]
  | zeros u k k' h1 hud hx hn z hzv i hi hib hy0 hy1 =>
    subst hx
    have hwn : IntKind.i64.wrap (n : Int) = (n : Int) := by rw [wrap_def]; simp [kTop, kAll]; omega
    have hb : ¬ ((n : Int) * (i.bytes : Int) > 2 ^ 48) := by
      have : n * i.bytes ≤ 1099511627776 := Nat.le_trans (Nat.mul_le_mul (Nat.le_of_lt hn) hib) (by decide)
      rw [← Int.natCast_mul]; omega
    have hneg : ¬ ((n : Int) < 0) := by omega
    have hii : i = inf := by have h1 := hi w; rw [hti w] at h1; injection h1 with h1; exact h1.symm
    subst hii
    simp only [Builtin.append_, h0, h1, List.getElem?_toArray, List.getElem?_cons_zero, List.getElem?_cons_succ, Sem.run_bind, run_underlying hu, run_underlying hud, Result.andThen_ok, hsz, if_true, asInt, asIntOf, Sem.run_pure, hwn, if_neg hneg, hi, if_neg hb, Int.toNat_natCast, Bool.not_true, Bool.false_eq_true, if_false, if_neg hgrow, if_neg (hn1 _), if_neg hn2, run_choose, Question.forced, Question.cut, hask]
    rw [hold { w with drawn := w.drawn + 1 } rfl]
    by_cases h00 : n * ei.size = 0
    · simp only [if_pos h00, Sem.run_pure, Result.andThen_ok, hy0 h00, hzv0, newRow, Sem.run_bind, run_newObj]
    · simp only [if_neg h00, Sem.run_bind, hzv, Result.andThen_ok, Sem.run_pure, ← hy1 h00, newRow, run_newObj, Array.toArray_toList]
      have hzz : z = z0 := by have h1 := hzv w; rw [hzv0 w] at h1; injection h1 with h1; exact h1.symm
      rw [hzz]
end
end
end Go.X
