/- JudgeTexts returns true for every list of numbers, at every world whose package variables are as the program's text lays them; no condition beside the row's own. -/
import Derived.Test.YtbplpekmpoenaaaGreatDoorJTexA
import Derived.Test.YtbplpekmpoenaaaGreatDoorDxTbUZ
import Derived.Test.YtbplpekmpoenaaaGreatDoorE13
import Derived.Test.YtbplpekmpoenaaaGreatDoorJTexT
import Derived.Test.YtbplpekmpoenaaaGreatDoorCards
namespace Go.Proofs.YtbplpekmpoenaaaGreatDoor.judgeTexts
open Go.ChangeShapes Go.WideShapes Go.ChangeAt Go.RowKit Go.X
set_option linter.unusedVariables false
set_option maxRecDepth 100000
set_option maxHeartbeats 40000000

/-- a list is what stands in front, no more -/
def ex (pre : List Nat) : List AV × List AV := (pre.map fun x => .int .i64 (Int.ofNat x), match pre with | [] => [.res 0 (.slLen 0 0)] | _ :: _ => [.asl 14 0 pre.length pre.length])
/-- what stands in front, a number of a range, and more -/
def one (pre : List Nat) (a b : Int) : List AV × List AV := ((pre.map fun x => .int .i64 (Int.ofNat x)) ++ [.res 2 (.rng .i64 a b)], [.asl 14 0 (pre.length + 1) 30])
def node : Nat → List Nat → Nat → List (List AV × List AV)
  | 0, _, _ => []
  | f + 1, pre, last => ex pre :: one pre (-9223372036854775808) 0 :: one pre 1 (Int.ofNat last) :: one pre 9 9223372036854775807 :: (List.range (8 - last)).flatMap fun i => node f (pre ++ [last + 1 + i]) (last + 1 + i)
def all : List (List AV × List AV) := node 9 [] 0 ++ [([], [.res 0 (.slLen 31 9223372036854775807)])]

theorem all_eq : UL0 ++ (UL1 ++ (UL2 ++ (UL3 ++ (UL4 ++ (UL5 ++ (UL6 ++ (UL7 ++ (UL8 ++ (UL9 ++ (UL10 ++ (UL11 ++ (UL12 ++ (UL13 ++ (UL14 ++ (UL15 ++ (UL16)))))))))))))))) = all := by kernel_rfl

theorem looked : chkTopA (xp UMT []) 20000 6 ⟨Tryz.prog.globals.size, UG⟩ all = true := by
  rw [nGlob, ← all_eq]
  exact (topA_append UT0 (topA_append UT1 (topA_append UT2 (topA_append UT3 (topA_append UT4 (topA_append UT5 (topA_append UT6 (topA_append UT7 (topA_append UT8 (topA_append UT9 (topA_append UT10 (topA_append UT11 (topA_append UT12 (topA_append UT13 (topA_append UT14 (topA_append UT15 UT16))))))))))))))))

/-- how a case fits a list -/
def Fit (p : List AV × List AV) (xs : List Int) : Prop :=
  (∃ pre : List Nat, p = ex pre ∧ xs = pre.map Int.ofNat) ∨
  (∃ (pre : List Nat) (a b x : Int) (r : List Int), p = one pre a b ∧ xs = pre.map Int.ofNat ++ x :: r ∧ ((-9223372036854775808) ≤ x → x ≤ 9223372036854775807 → a ≤ x ∧ x ≤ b))

theorem find (xs : List Int) : ∀ (f : Nat) (pre : List Nat) (last : Nat) (r : List Int), xs = pre.map Int.ofNat ++ r → last ≤ 8 → 9 ≤ f + last → ∃ p ∈ node f pre last, Fit p xs := by
  intro f
  induction f with
  | zero => intro pre last r _ h1 h2; omega
  | succ f ih =>
    intro pre last r hxs h1 h2
    cases r with
    | nil => exact ⟨ex pre, List.mem_cons_self .., .inl ⟨pre, rfl, by simpa using hxs⟩⟩
    | cons x r =>
      by_cases h0 : x ≤ 0
      · exact ⟨_, List.mem_cons_of_mem _ (List.mem_cons_self ..), .inr ⟨pre, _, _, x, r, rfl, hxs, fun h _ => ⟨h, h0⟩⟩⟩
      by_cases hlo : x ≤ last
      · exact ⟨_, List.mem_cons_of_mem _ (List.mem_cons_of_mem _ (List.mem_cons_self ..)), .inr ⟨pre, _, _, x, r, rfl, hxs, fun _ _ => ⟨by omega, hlo⟩⟩⟩
      · by_cases hhi : 9 ≤ x
        · exact ⟨_, List.mem_cons_of_mem _ (List.mem_cons_of_mem _ (List.mem_cons_of_mem _ (List.mem_cons_self ..))), .inr ⟨pre, _, _, x, r, rfl, hxs, fun _ h => ⟨hhi, h⟩⟩⟩
        · obtain ⟨i, hi⟩ : ∃ i : Nat, x = Int.ofNat (last + 1 + i) := ⟨(x - last - 1).toNat, by simp; omega⟩
          have hi8 : last + 1 + i ≤ 8 := by simp at hi; omega
          obtain ⟨p, hp, hf⟩ := ih (pre ++ [last + 1 + i]) (last + 1 + i) r (by rw [hxs, hi]; simp) hi8 (by omega)
          exact ⟨p, List.mem_cons_of_mem _ (List.mem_cons_of_mem _ (List.mem_cons_of_mem _ (List.mem_cons_of_mem _ (List.mem_flatMap.2 ⟨i, List.mem_range.2 (by omega), hp⟩)))), hf⟩

def sy (v : Value) (m : Int) : Nat → Value
  | 0 => v
  | _ => .int .i64 m

theorem walk_long {W : World} (h : laidMetH Tryz.prog laidL W) {a : Option Addr} {n c : Nat} (hn : (31 ≤ n ∧ n ≤ 9223372036854775807) ∨ n = 0) :
    Calls Tryz.prog 6 #[.slice a n c] W fun e w' => e = .returned (.bool true) ∧ (∀ B, B < W.heap.size → w'.heap[B]? = W.heap[B]?) ∧ ∀ may, W.keptBut w' may := by
  obtain ⟨_, _, _, cs, el, fz, _, hB, _⟩ := globs h 1 _ (show UG.get 1 = some _ from rfl)
  rcases hn with hn | rfl
  · refine top_truea (xp_ok _ _) (xp_fns _ _) mixed (UmT _) looked (globs h) (p := ([], [.res 0 (.slLen 31 9223372036854775807)])) (List.mem_append_right _ (List.mem_singleton.2 rfl)) (vs := [.slice a n c]) (sy (.slice a n c) 0) (B := 1) (o := 0) (ora_nil _) hB (fun i v hv => by cases hv) ?_
    exact cvs_mk (sl_cv rfl hn) rfl
  · refine top_truea (xp_ok _ _) (xp_fns _ _) mixed (UmT _) looked (globs h) (p := ex []) (List.mem_append_left _ (List.mem_cons_self ..)) (vs := [.slice a 0 c]) (sy (.slice a 0 c) 0) (B := 1) (o := 0) (ora_nil _) hB (fun i v hv => by cases hv) ?_
    exact cvs_mk (sl_cv rfl ⟨Nat.le_refl _, Nat.le_refl _⟩) rfl

theorem asl_cv {e : Env} {b i l h B o n c : Nat} (hf : e.f b = some (B, o)) (hs : e.sy i = .slice (some ⟨B, o, none⟩) n c) (hn : l ≤ n ∧ n ≤ h) : cv e (.asl b i l h) = some (.slice (some ⟨B, o, none⟩) n c) := by
  simp [cv, hf, hs, aslV, hn]

theorem envA_here {NG B o : Nat} {w : World} {s : Nat → Value} : (envA NG w s B o).f NG = some (B, o) := by
  simp [envA]

theorem walk_short {W : World} (h : laidMetH Tryz.prog laidL W) {B o c : Nat} {cs : Array Value} {el : TypeId} {fz : Nat × Nat} (hB : W.heap[B]? = some (.cells cs el fz)) {xs : List Int} (hx0 : xs ≠ []) (hx : xs.length ≤ 30)
    (hr : ∀ x ∈ xs, (-9223372036854775808) ≤ x ∧ x ≤ 9223372036854775807) (hc : ∀ i x, xs[i]? = some x → cs[o + i]? = some (.int .i64 x)) :
    Calls Tryz.prog 6 #[.slice (some ⟨B, o, none⟩) xs.length c] W fun e w' => e = .returned (.bool true) ∧ (∀ B, B < W.heap.size → w'.heap[B]? = W.heap[B]?) ∧ ∀ may, W.keptBut w' may := by
  obtain ⟨p, hp, hf⟩ := find xs 9 [] 0 xs rfl (by omega) (by omega)
  have hall : p ∈ all := List.mem_append_left _ hp
  rcases hf with ⟨pre, rfl, rfl⟩ | ⟨pre, a, b, x, r, rfl, rfl, hl⟩
  · refine top_truea (xp_ok _ _) (xp_fns _ _) mixed (UmT _) looked (globs h) hall (vs := [.slice (some ⟨B, o, none⟩) (pre.map Int.ofNat).length c]) (sy (.slice (some ⟨B, o, none⟩) (pre.map Int.ofNat).length c) 0) (B := B) (o := o) (ora_nil _) hB (fun i v hv => ?_) ?_
    · simp only [ex, List.getElem?_map, Option.map_eq_some_iff] at hv
      obtain ⟨y, hy, rfl⟩ := hv
      exact ⟨_, rfl, hc i _ (by simp [hy])⟩
    · cases pre with
      | nil => exact absurd rfl hx0
      | cons a pre =>
        rw [nGlob]
        exact cvs_mk (asl_cv envA_here rfl (by simp)) rfl
  · refine top_truea (xp_ok _ _) (xp_fns _ _) mixed (UmT _) looked (globs h) hall (vs := [.slice (some ⟨B, o, none⟩) (pre.map Int.ofNat ++ x :: r).length c]) (sy (.slice (some ⟨B, o, none⟩) (pre.map Int.ofNat ++ x :: r).length c) x) (B := B) (o := o) (ora_nil _) hB (fun i v hv => ?_) ?_
    · simp only [one] at hv
      by_cases hi : i < pre.length
      · rw [List.getElem?_append_left (by simpa using hi)] at hv
        simp only [List.getElem?_map, Option.map_eq_some_iff] at hv
        obtain ⟨y, hy, rfl⟩ := hv
        exact ⟨_, rfl, hc i _ (by rw [List.getElem?_append_left (by simpa using hi)]; simp [hy])⟩
      · rw [List.getElem?_append_right (by simpa using hi)] at hv
        simp only [List.length_map] at hv
        have he : i = pre.length := by
          by_cases hj : i - pre.length = 0
          · omega
          · rw [List.getElem?_eq_none (by simp; omega)] at hv; cases hv
        subst he
        simp at hv; subst hv
        exact ⟨_, rng_cv rfl (hl (hr x (by simp)).1 (hr x (by simp)).2), hc _ _ (by simp)⟩
    · rw [nGlob]
      exact cvs_mk (asl_cv envA_here rfl (by simp at hx ⊢; omega)) rfl

theorem walk_any {W : World} (h : laidMetH Tryz.prog laidL W) {H : Type} {enc : TypeId × Value → H} {sp : Nat → Bool} {held : Bool} {fuel : Nat} {a : Option Addr} {n c : Nat} {x : DataW H × List MemPlace}
    (h0 : DataW.trod enc Tryz.prog W 0 sp held fuel 22 (Value.slice a n c).cells.toList = some x) :
    Calls Tryz.prog 6 #[.slice a n c] W fun e w' => e = .returned (.bool true) ∧ (∀ B, B < W.heap.size → w'.heap[B]? = W.heap[B]?) ∧ ∀ may, W.keptBut w' may := by
  have hm := arg_slice Tryz.underlying22 h0
  have hx : maxLen ≤ 9223372036854775807 := by decide
  have hcs : (Value.slice a n c).cells.toList = [Value.slice a n c] := rfl
  rw [hcs] at h0
  rcases DataW.trod_slice Tryz.underlying22 h0 with ⟨h1, _⟩ | ⟨a', len, cap, elems, rest, m, _, h1, _, _, _, _, hl, hr, _⟩
  · simp only [List.cons.injEq, and_true, Value.slice.injEq] at h1
    obtain ⟨rfl, rfl, rfl⟩ := h1
    exact walk_long h (.inr rfl)
  · simp only [List.cons.injEq, and_true, Value.slice.injEq] at h1
    obtain ⟨rfl, rfl, rfl⟩ := h1
    by_cases h31 : 31 ≤ n
    · exact walk_long h (.inl ⟨h31, by omega⟩)
    · by_cases hz : n = 0
      · exact walk_long h (.inr hz)
      · obtain ⟨B, o, cs, el, fz, xs, rfl, hB, hxl, hwf, hc⟩ := ints_of Tryz.underlying3 (by kernel_rfl) (by omega) hl hr
        subst hxl
        exact walk_short h hB (by intro hn; subst hn; simp at hz) (by omega) (fun x hx => i64_of (hwf x hx)) hc


theorem lifted (os : Os) (started : os.Started) (H : Type) (enc : TypeId × Value → H) :
    ReturnsInHanded {} Tryz.checked os 6 .any (fun w args => (Rows.judgeTextsSpec.pre enc Tryz.prog Tryz.f6 [] false w args ∧ laidMetH Tryz.prog laidL w) ∧ sizedMet enc Tryz.prog Tryz.f6 (OpenSpec.ofChange Rows.judgeTextsSpec) false w args)
      (Rows.judgeTextsSpec.post enc Tryz.prog Tryz.f6 false true false false) := by
  refine returnsInHanded_of_change_and (C := Tryz.checked) (X := fun w _ => laidMetH Tryz.prog laidL w) (fun _ _ _ hh h => h.of_heap hh) own started (by kernel_rfl) Tryz.func6
    (ChangeSpec.witness_shaped (enc := enc) (C := Tryz.checked) (os := os) (X := fun w _ => laidMetH Tryz.prog laidL w) false (World.laidAll Tryz.prog os laidL) #[.slice none 0 0] 8 (World.laidAll_os _ _ _) (World.shaped_of_ZipB (by kernel_rfl) (by kernel_rfl)) (by kernel_rfl) (by kernel_rfl) (by kernel_rfl) (door_met os _)) ?_
  intro W base args ds gs before hval0 hW _ _ hL _
  have hval : ∀ (j : Nat) t v, Tryz.f6.params[j]? = some t → args[j]? = some v → Value.okWide Tryz.prog W .any base t v := hval0
  have hW' := hW
  obtain ⟨p, q, hA0, hV, rfl, hfz, hnd⟩ := hW
  have hA : DataW.TrodAll enc Tryz.prog W 0 (fun _ => true) true Tryz.f6.params.toList args.toList ds p := hA0
  have hA1 := hA0
  rw [Tryz.params6] at hA hval
  obtain ⟨v0, d0, rfl, rfl, h0⟩ := trodAll_one hA
  obtain ⟨rfl, rfl⟩ := trodVars_none hV
  obtain ⟨a0, n0, c0, rfl⟩ := okWide_slice Tryz.underlying22 (hval 0 _ v0 rfl rfl)
  obtain ⟨fu, h0⟩ := h0
  clear hval0
  simp only [List.append_nil] at hW'
  refine (walk_any hL h0).mono fun e W' ⟨he, hkp, hk⟩ => ?_
  subst he
  refine ⟨_, rfl, _, _, _, [], p, [], hW', ?_, ?_, ?_, hk _, fun h => by cases h⟩
  · exact trodAll_mk1 (shut_bool Tryz.underlying4 true)
  · exact DataW.TrodAll.respare kids full (by rw [Tryz.params6]; decide +kernel) (trodAll_keep hkp hA1) (fun q hq => by simpa using DataW.TrodAll.lt hA1 q hq)
  · rfl

end Go.Proofs.YtbplpekmpoenaaaGreatDoor.judgeTexts
