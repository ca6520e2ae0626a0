/- MergeNil returns true for all three numbers, at every world whose package variables are as the program's text lays them; no condition beside the row's own. -/
import Derived.Test.YtffklfjhcdggkaaGreatDoorMNilA
import Derived.Test.YtffklfjhcdggkaaGreatDoorTie
import Derived.Test.YtffklfjhcdggkaaGreatDoorCards
namespace Go.Proofs.YtffklfjhcdggkaaGreatDoor.mergeNil
open Go.ChangeShapes Go.WideShapes Go.ChangeAt Go.RowKit Go.X
set_option linter.unusedVariables false
set_option maxRecDepth 100000

def all : List (List AV) := (List.range 8).map fun a => [.res 0 (.md .u8 8 a), .res 2 (.rng .i64 (-9223372036854775808) 9223372036854775807), .res 4 (.rng .i64 (-9223372036854775808) 9223372036854775807)]

theorem all_eq : QL0 = all := by kernel_rfl

theorem looked : chkTop (xp QMT) 20000 4 ⟨Tryz.prog.globals.size, QG⟩ all = true := by
  rw [nGlob, ← all_eq]
  exact QT0

theorem mem_all (a : Nat) (ha : a < 8) : [.res 0 (.md .u8 8 a), .res 2 (.rng .i64 (-9223372036854775808) 9223372036854775807), .res 4 (.rng .i64 (-9223372036854775808) 9223372036854775807)] ∈ all :=
  List.mem_map.2 ⟨a, List.mem_range.2 ha, rfl⟩

theorem walk {W : World} (h : laidMetH Tryz.prog laidL W) (n : Nat) (m k : Int) (hm : (-9223372036854775808) ≤ m ∧ m ≤ 9223372036854775807) (hk : (-9223372036854775808) ≤ k ∧ k ≤ 9223372036854775807) : Calls Tryz.prog 4 #[.int .u8 (Int.ofNat n), .int .i64 m, .int .i64 k] W fun e w' => e = .returned (.bool true) ∧ ∀ may, W.keptBut w' may :=
  top_trueg (xp_ok _) (xp_fns _) mixed QmT looked (globs h) (mem_all (n % 8) (Nat.mod_lt _ (by decide)))
    (vs := [.int .u8 (Int.ofNat n), .int .i64 m, .int .i64 k]) (fun i => match i with | 0 => .int .u8 (Int.ofNat n) | 1 => .int .i64 m | _ => .int .i64 k) (by simp [cvs, cv, env0, RC.val, hm, hk])

theorem nat_of {n : Int} (h : (Lit.int .u8 n).wf = true) : ∃ m : Nat, n = Int.ofNat m := by
  refine ⟨n.toNat, ?_⟩
  have h2 : (decide (IntKind.u8.min ≤ n) && decide (n ≤ IntKind.u8.max)) = true := h
  have h1 : IntKind.u8.min ≤ n := by
    simp only [Bool.and_eq_true, decide_eq_true_eq] at h2
    exact h2.1
  have h0 : IntKind.u8.min = 0 := by decide
  have : 0 ≤ n := by omega
  simp [Int.toNat_of_nonneg this]

theorem i64_of {n : Int} (h : (Lit.int .i64 n).wf = true) : (-9223372036854775808) ≤ n ∧ n ≤ 9223372036854775807 := by
  have h2 : (decide (IntKind.i64.min ≤ n) && decide (n ≤ IntKind.i64.max)) = true := h
  simp only [Bool.and_eq_true, decide_eq_true_eq] at h2
  have h0 : IntKind.i64.min = (-9223372036854775808) := by decide
  have h1 : IntKind.i64.max = 9223372036854775807 := by decide
  omega


theorem lifted (os : Os) (started : os.Started) (H : Type) (enc : TypeId × Value → H) :
    ReturnsInHanded {} Tryz.checked os 4 .any (fun w args => (Rows.mergeNilSpec.pre enc Tryz.prog Tryz.f4 [] false w args ∧ laidMetH Tryz.prog laidL w) ∧ sizedMet enc Tryz.prog Tryz.f4 (OpenSpec.ofChange Rows.mergeNilSpec) false w args)
      (Rows.mergeNilSpec.post enc Tryz.prog Tryz.f4 false true false false) := by
  refine returnsInHanded_of_change_and (C := Tryz.checked) (X := fun w _ => laidMetH Tryz.prog laidL w) (fun _ _ _ hh h => h.of_heap hh) own started (by kernel_rfl) Tryz.func4
    (ChangeSpec.witness_shaped (enc := enc) (C := Tryz.checked) (os := os) (X := fun w _ => laidMetH Tryz.prog laidL w) false (World.doorLaid Tryz.prog 400 os) #[.int .u8 0, .int .i64 0, .int .i64 0] 8 rfl (World.shaped_of_RefB (by kernel_rfl) (by kernel_rfl)) (by kernel_rfl) (by kernel_rfl) (by kernel_rfl) (door_met os _)) ?_
  intro W base args ds gs before hval0 hW _ _ hL _
  have hval : ∀ (j : Nat) t v, Tryz.f4.params[j]? = some t → args[j]? = some v → Value.okWide Tryz.prog W .any base t v := hval0
  have hW' := hW
  obtain ⟨p, q, hA0, hV, rfl, hfz, hnd⟩ := hW
  have hA : DataW.TrodAll enc Tryz.prog W 0 (fun _ => true) true Tryz.f4.params.toList args.toList ds p := hA0
  rw [Tryz.params4] at hA hval
  obtain ⟨v0, v1, v2, d0, d1, d2, p0, p1, p2, rfl, rfl, rfl, h0, h1, h2⟩ := trodAll_three hA
  obtain ⟨rfl, rfl⟩ := trodVars_none hV
  obtain ⟨n, rfl, rfl, rfl, wn⟩ := open_int Tryz.underlying5 (hval 0 _ v0 rfl rfl) h0
  obtain ⟨m, rfl, rfl, rfl, wm⟩ := open_int Tryz.underlying3 (hval 1 _ v1 rfl rfl) h1
  obtain ⟨k, rfl, rfl, rfl, wk⟩ := open_int Tryz.underlying2 (hval 2 _ v2 rfl rfl) h2
  obtain ⟨n, rfl⟩ := nat_of wn
  clear hA0 hval0
  simp only [List.append_nil] at hW'
  refine (walk hL n m k (i64_of wm) (i64_of wk)).mono fun e W' ⟨he, hk⟩ => ?_
  subst he
  refine ⟨_, rfl, _, _, _, [], [], [], hW', ?_, ?_, ?_, hk _, fun h => by cases h⟩
  · exact trodAll_mk1 (shut_bool Tryz.underlying4 true)
  · exact trodAll_mk3 (shut_int Tryz.underlying5 wn) (shut_int Tryz.underlying3 wm) (shut_int Tryz.underlying2 wk)
  · rfl

end Go.Proofs.YtffklfjhcdggkaaGreatDoor.mergeNil
