/- Walks 1. -/
import Derived.ChangeOld
import Derived.ReadAgain
import Derived.OpenShut
import Derived.RowKit
import GoSem.ClaimJoined
import Derived.SevenTiedAt
set_option linter.unusedVariables false
set_option linter.unusedSimpArgs false
set_option maxRecDepth 100000
namespace Go.M
open Go.RowKit
noncomputable section
mutual
def flatD {H : Type} : DataW H → List Value
 | .lit (.bool b) => [.bool b]
 | .lit (.int k n) => [.int k n]
 | .lit (.string l) => [.string ⟨l.toArray⟩]
 | .agg ds => flatDs ds
 | _ => []
def flatDs {H : Type} : List (DataW H) → List Value
 | [] => []
 | d :: ds => flatD d ++ flatDs ds
end
def consecB : Nat → List (Nat × Nat) → Nat → Bool
 | s, [], e => Nat.beq s e
 | s, p :: r, e => Nat.beq p.1 s && consecB (s + p.2) r e
def piece (cs : List Value) (p : Nat × Nat) : List Value := (cs.drop p.1).take p.2
theorem consec_le : ∀ {l : List (Nat × Nat)} {s e : Nat}, consecB s l e = true → s ≤ e
 | [], s, e, h => by simp only [consecB] at h; rw [Nat.eq_of_beq_eq_true h]; exact Nat.le_refl _
 | p :: l, s, e, h => by
  simp only [consecB, Bool.and_eq_true] at h
  have := consec_le h.2; omega
theorem consec_cat {cs : List Value} : ∀ {l : List (Nat × Nat)} {s e : Nat}, consecB s l e = true → (cs.drop s).take (e - s) = (l.map (piece cs)).flatten
 | [], s, e, h => by simp only [consecB] at h; rw [Nat.eq_of_beq_eq_true h]; simp
 | p :: l, s, e, h => by
  simp only [consecB, Bool.and_eq_true] at h
  have h1 := Nat.eq_of_beq_eq_true h.1
  have h2 := consec_le h.2
  have ih := consec_cat (cs := cs) h.2
  simp only [List.map_cons, List.flatten_cons, ← ih, piece, h1]
  have he : e - s = p.2 + (e - (s + p.2)) := by omega
  rw [he, List.take_add, List.drop_drop]
def partsArr (n c : Nat) : List (Nat × Nat) := (List.range n).map fun i => (i * c, c)
def tidyB (P : Program) : Nat → TypeId → Bool
 | 0, _ => false
 | d + 1, t => match P.underlying t with
  | some .bool => Nat.beq (P.cellsOf t) 1
  | some (.int _) => Nat.beq (P.cellsOf t) 1
  | some .string => Nat.beq (P.cellsOf t) 1
  | some (.array n e) => consecB 0 (partsArr n (P.cellsOf e)) (P.cellsOf t) && tidyB P d e
  | some (.struct fs) => consecB 0 (fs.toList.map fun f => (f.offset, P.cellsOf f.type)) (P.cellsOf t) && fs.toList.all fun f => tidyB P d f.type
  | _ => false
section
variable {H : Type} {enc : TypeId × Value → H} {P : Program} {w : World} {base : Nat} {sp : Nat → Bool} {held : Bool}
theorem flatDs_map {α : Type} {l : List α} {g : α → DataW H} {f : α → List Value} (h : ∀ a ∈ l, f a = flatD (g a)) : (l.map f).flatten = flatDs (l.map g) := by
 induction l with
 | nil => rfl
 | cons a l ih =>
  simp only [List.map_cons, List.flatten_cons, flatDs]
  rw [h a (by simp), ih (fun b hb => h b (by simp [hb]))]
theorem open_plain : ∀ (d : Nat) (t : TypeId), tidyB P d t = true → ∀ (fuel : Nat) (cs : List Value) (x : DataW H × List MemPlace), DataW.trod enc P w base sp held fuel t cs = some x → cs = flatD x.1 := by
 intro d
 induction d with
 | zero => intro t h; cases h
 | succ d ih =>
  intro t h fuel cs x hx
  simp only [tidyB] at h
  split at h
  ·rename_i hu
   cases fuel with
   | zero => simp [DataW.trod] at hx
   | succ fuel =>
    unfold DataW.trod at hx; rw [hu] at hx
    split at hx <;> simp_all
    subst hx; rfl
  ·rename_i k hu
   cases fuel with
   | zero => simp [DataW.trod] at hx
   | succ fuel =>
    unfold DataW.trod at hx; rw [hu] at hx
    split at hx <;> simp_all
    obtain ⟨h1, h2⟩ := hx
    subst h2; simp [flatD]
  ·rename_i hu
   cases fuel with
   | zero => simp [DataW.trod] at hx
   | succ fuel =>
    unfold DataW.trod at hx; rw [hu] at hx
    split at hx <;> simp_all
    obtain ⟨h1, h2⟩ := hx
    subst h2; simp [flatD]
  ·rename_i n e hu
   simp only [Bool.and_eq_true] at h
   obtain ⟨xs, m, _, rfl, hl, hn, hf⟩ := DataW.trod_array hu hx
   have hc := consec_cat (cs := cs) h.1
   rw [List.drop_zero, Nat.sub_zero, ← hl, List.take_length] at hc
   simp only [flatD]
   rw [hc]
   have : (partsArr n (P.cellsOf e)).map (piece cs) = xs.map (fun x => flatD x.1) := by
    apply List.ext_getElem?
    intro i
    simp only [partsArr, List.map_map, List.getElem?_map]
    by_cases hi : i < n
    ·have hxi : i < xs.length := by omega
     have h2 := hf i hi
     rw [List.getElem?_eq_getElem hxi] at h2 ⊢
     have h3 := ih e h.2 _ _ _ h2
     simp [hi, piece, h3]
    ·rw [List.getElem?_eq_none (by simp; omega), List.getElem?_eq_none (by omega)]; rfl
   rw [this]
   exact flatDs_map (fun a _ => rfl)
  ·rename_i fs hu
   simp only [Bool.and_eq_true, List.all_eq_true] at h
   obtain ⟨xs, m, _, rfl, hl, hn, hf⟩ := DataW.trod_struct hu hx
   have hc := consec_cat (cs := cs) h.1
   rw [List.drop_zero, Nat.sub_zero, ← hl, List.take_length] at hc
   simp only [flatD]
   rw [hc]
   have : (fs.toList.map fun f => (f.offset, P.cellsOf f.type)).map (piece cs) = xs.map (fun x => flatD x.1) := by
    apply List.ext_getElem?
    intro i
    simp only [List.map_map, List.getElem?_map]
    cases hfi : fs.toList[i]? with
    | none =>
     have : xs[i]? = none := List.getElem?_eq_none (by have := List.getElem?_eq_none_iff.1 hfi; rw [Array.length_toList] at this; omega)
     rw [this]; rfl
    | some f =>
     have hlt := (List.getElem?_eq_some_iff.1 hfi).1
     have h2 := hf i f (by simpa using hfi)
     have hxi : i < xs.length := by rw [Array.length_toList] at hlt; omega
     rw [List.getElem?_eq_getElem hxi] at h2 ⊢
     have h3 := ih f.type (h.2 f (List.mem_of_getElem? hfi)) _ _ _ h2
     simp [piece, h3]
   rw [this]
   exact flatDs_map (fun a _ => rfl)
  ·cases h
end
theorem same_at {W W' : World} (h : ∀ B, B < W.heap.size → W'.heap[B]? = W.heap[B]?) (p : MemPlace) (hp : p.block < W.heap.size) : W.sameAt W' p := by
 cases p with
 | cell b off =>
  show W'.cell? ⟨b, off, none⟩ = W.cell? ⟨b, off, none⟩
  have hb : W'.heap[b]? = W.heap[b]? := h b hp
  simp only [World.cell?, hb]
 | map b => exact h b hp
theorem trodAll_keep {H : Type} {enc : TypeId × Value → H} {P : Program} {W W' : World} {base : Nat} {sp : Nat → Bool} {held : Bool} (h : ∀ B, B < W.heap.size → W'.heap[B]? = W.heap[B]?) :
 ∀ {ts : List TypeId} {vs : List Value} {ds : List (DataW H)} {ps : List MemPlace}, DataW.TrodAll enc P W base sp held ts vs ds ps → DataW.TrodAll enc P W' base sp held ts vs ds ps := by
 intro ts
 induction ts with
 | nil =>
  intro vs ds ps ht
  obtain ⟨rfl, rfl, rfl⟩ := ChangeShapes.trodAll_nil ht
  exact ChangeShapes.trodAll_mk0
 | cons t ts ih =>
  intro vs ds ps ht
  obtain ⟨v, vs', d, ds', p, q, rfl, rfl, rfl, ⟨fuel, h1⟩, h2⟩ := ChangeShapes.trodAll_cons ht
  exact ⟨p, q, ⟨fuel, DataW.trod_carry _ _ _ _ h1 (fun pl hpl => same_at h pl (DataW.trod_lt _ _ _ _ h1 pl hpl))⟩, ih h2, rfl⟩
def nth : List (List Nat) → Nat → List Nat
 | [], _ => []
 | x :: _, 0 => x
 | _ :: l, n + 1 => nth l n
theorem nth_out : ∀ (l : List (List Nat)) (n : Nat), l.length ≤ n → nth l n = []
 | [], _, _ => rfl
 | _ :: l, 0, h => by simp at h
 | _ :: l, n + 1, h => nth_out l n (by simpa using h)
def leadOf (T : List (List Nat)) (g : Nat) : List Nat := nth T g
def memN (t : Nat) : List Nat → Bool
 | [] => false
 | u :: l => @Bool.rec (fun _ => Bool) (memN t l) true (Nat.beq t u)
def closT (T : List (List Nat)) : Nat → List Nat → List Nat → List Nat
 | 0, _, seen => seen.reverse
 | _ + 1, [], seen => seen.reverse
 | n + 1, f :: todo, seen => @Bool.rec (fun _ => List Nat) (closT T n (leadOf T f ++ todo) (f :: seen)) (closT T n todo seen) (memN f seen)
def sumT (T : List (List Nat)) : Nat → Nat
 | 0 => 0
 | n + 1 => sumT T n + ((leadOf T n).length + 1)
def leadB (P : Program) (T : List (List Nat)) (g : Nat) : Bool := ((P.funcs[g]?).elim [] P.leadsTo) == leadOf T g
def leadR (P : Program) (T : List (List Nat)) : Nat → Nat → Bool
 | _, 0 => true
 | a, n + 1 => leadB P T a && leadR P T (a + 1) n
theorem leadR_spec {P : Program} {T : List (List Nat)} : ∀ {n a : Nat}, leadR P T a n = true → ∀ g, a ≤ g → g < a + n → (P.funcs[g]?).elim [] P.leadsTo = leadOf T g
 | 0, a, _, g, h1, h2 => by omega
 | n + 1, a, h, g, h1, h2 => by
  simp only [leadR, Bool.and_eq_true] at h
  rcases Nat.lt_or_ge a g with h3 | h3
  ·exact leadR_spec h.2 g (by omega) (by omega)
  ·obtain rfl : g = a := by omega
   exact eq_of_beq h.1
theorem memN_con (t : Nat) : ∀ (l : List Nat), memN t l = l.contains t
 | [] => rfl
 | u :: l => by
  rw [memN, memN_con t l, List.contains_cons]
  by_cases h : t = u
  ·subst h; simp
  ·have : (t == u) = false := beq_eq_false_iff_ne.2 h
   have h2 : Nat.beq t u = false := by cases hb : Nat.beq t u with | false => rfl | true => exact absurd (Nat.eq_of_beq_eq_true hb) h
   rw [this, h2]; rfl
theorem closVia_eq {P : Program} {T : List (List Nat)} (h : ∀ g : Nat, (P.funcs[g]?).elim [] P.leadsTo = leadOf T g) : ∀ (n : Nat) (todo seen : List Nat), P.closureVia n todo seen = closT T n todo seen
 | 0, _, _ => rfl
 | _ + 1, [], _ => rfl
 | n + 1, f :: todo, seen => by
  simp only [Program.closureVia, closT, memN_con, h f]
  cases seen.contains f with
  | true => simp only [if_true]; exact closVia_eq h n _ _
  | false => simp only [Bool.false_eq_true, if_false]; exact closVia_eq h n _ _
theorem sumT_eq {P : Program} {T : List (List Nat)} (h : ∀ g : Nat, (P.funcs[g]?).elim [] P.leadsTo = leadOf T g) : (P.funcs.toList.map fun g => (P.leadsTo g).length + 1).sum = sumT T P.funcs.size := by
 have key : ∀ n, n ≤ P.funcs.size → ((P.funcs.toList.take n).map fun g => (P.leadsTo g).length + 1).sum = sumT T n := by
  intro n
  induction n with
  | zero => intro _; rfl
  | succ n ih =>
   intro hn
   have hlt : n < P.funcs.toList.length := by rw [Array.length_toList]; omega
   rw [List.take_succ_eq_append_getElem hlt, List.map_append, List.sum_append, ih (by omega)]
   simp only [List.map_cons, List.map_nil, List.sum_cons, List.sum_nil, Nat.add_zero, sumT]
   have := h n
   rw [Array.getElem?_eq_getElem (by omega)] at this
   simp only [Option.elim] at this
   rw [← this]; simp
 have := key P.funcs.size (Nat.le_refl _)
 rw [← this, List.take_of_length_le (by simp)]
theorem closure_of {P : Program} {T : List (List Nat)} {n : Nat} (h1 : ∀ g : Nat, g < n → (P.funcs[g]?).elim [] P.leadsTo = leadOf T g) (h2 : T.length = n) (h3 : P.funcs.size = n) {f : FuncId} {l : List Nat}
 (h4 : closT T (1 + sumT T n) [f] [] = l) : P.closure f = l := by
 have h : ∀ g : Nat, (P.funcs[g]?).elim [] P.leadsTo = leadOf T g := by
  intro g
  rcases Nat.lt_or_ge g n with hg | hg
  ·exact h1 g hg
  ·rw [Array.getElem?_eq_none (by omega)]
   exact (nth_out T g (by omega)).symm
 unfold Program.closure
 rw [closVia_eq h, sumT_eq h, h3, h4]
theorem inPlace_of {P : Program} {f : FuncId} {l : List Nat} (h : P.closure f = l) : P.inPlace f = l.filterMap fun g => (P.funcs[g]?).bind fun fn => if fn.ours || fn.body.isNone || fn.name == "runtime.NumGoroutine" then some fn.name else none := by
 unfold Program.inPlace; rw [h]
theorem unfollowed_of {P : Program} {f : FuncId} {l : List Nat} (h : P.closure f = l) : P.unfollowed f = l.any fun g => (P.funcs[g]?).any fun fn => match fn.body with | some c => c.unfollowed | none => entryCalls fn := by
 unfold Program.unfollowed; rw [h]; rfl
theorem varsNamed_of {P : Program} {f : FuncId} {l : List Nat} (h : P.closure f = l) : P.varsNamed f = ((((l).flatMap fun g => ((P.funcs[g]?).bind (·.body)).elim [] Code.globalsNamed).eraseDups).filterMap (fun g => (P.globals[g]?).map (·.name)) ++
 l.filterMap fun g => (P.funcs[g]?).bind fun fn => if fn.body.isNone then entryReads.lookup fn.name else none).eraseDups := by
 unfold Program.varsNamed; rw [h]
theorem recurses_of {P : Program} {f : FuncId} (h : P.unfollowed f = true) : P.recurses f = true := by
 unfold Program.recurses; rw [h]; rfl
def kidB (P : Program) (TS : List TypeId) (t : TypeId) : Bool := match P.underlying t with
 | some (.pointer e) => TS.contains e
 | some (.slice e) => TS.contains e && decide (0 < P.cellsOf e)
 | some (.array n e) => TS.contains e && (P.cellsOf t == n * P.cellsOf e)
 | some (.struct fs) => fs.toList.all (fun f => TS.contains f.type) && (P.cellsOf t == (fs.toList.map fun f => P.cellsOf f.type).sum) && (List.range fs.toList.length).all (fun j => match fs.toList[j]? with | some f => f.offset == ((fs.toList.take j).map fun f => P.cellsOf f.type).sum | none => true)
 | some (.map _ e) => TS.contains e
 | _ => true
theorem kids_of {P : Program} {TS : List TypeId} (h : TS.all (kidB P TS) = true) : Kids P (· ∈ TS) := by
 have hh : ∀ t, t ∈ TS → kidB P TS t = true := fun t ht => List.all_eq_true.1 h t ht
 refine ⟨fun {t e} ht hu => ?_, fun {t e} ht hu => ?_, fun {t e n} ht hu => ?_, fun {t fs} ht hu => ?_, fun {t k e} ht hu => ?_⟩
 all_goals
  have g := hh t ht
  simp only [kidB, hu, Bool.and_eq_true, beq_iff_eq, List.contains_iff_mem, decide_eq_true_eq, List.all_eq_true, List.mem_range] at g
 ·exact g
 ·exact g.1
 ·exact g
 ·refine ⟨g.1.1, g.1.2, fun j f hj => ?_⟩
  have := g.2 j (List.getElem?_eq_some_iff.1 hj).1
  simpa [hj] using this
 ·exact g
theorem full_of {P : Program} {TS : List TypeId} (h : TS.all (kidB P TS) = true) : ∀ t e, t ∈ TS → P.underlying t = some (.slice e) → 0 < P.cellsOf e := by
 intro t e ht hu
 have g := List.all_eq_true.1 h t ht
 simp only [kidB, hu, Bool.and_eq_true, decide_eq_true_eq] at g
 exact g.2
theorem andI {a b : Bool} (ha : a = true) (hb : b = true) : (a && b) = true := by rw [ha, hb]; rfl
theorem var_heap {P : Program} {w : World} {n : String} {g : Nat} {cs : Array Value} (hg : P.globalNamed n = some g) (h : w.var? P n = some cs) : ∃ t fz, w.heap[g]? = some (.cells cs t fz) := by
 simp only [World.var?, hg, Option.bind_some] at h
 split at h
 ·rename_i c t fz hc
  cases h
  exact ⟨_, _, hc⟩
 ·cases h
theorem goes_none {P : Program} (h : P.funcs.any Func.goes = false) (f : FuncId) : P.goes f = false := by
 have h1 : ∀ g : FuncId, (P.funcs[g]?).any Func.goes = false := by
  intro g
  cases hg : P.funcs[g]? with
  | none => rfl
  | some fn =>
   have := (Array.any_eq_false.1 h) g (Array.getElem?_eq_some_iff.1 hg).1
   rw [(Array.getElem?_eq_some_iff.1 hg).2] at this
   simpa using this
 unfold Program.goes
 simp [h, h1]
theorem goesAt_none {P : Program} (h : P.funcs.any Func.goes = false) (func : String) : P.goesAt .entering func = false := by
 unfold Program.goesAt Program.goesFrom
 cases P.funcNamed func with
 | none => rfl
 | some f => simp [goes_none h]
end
end Go.M
