/- JudgeNames returns true for every set and every other number, at every world whose package variables are as the program's text lays them; no condition beside the row's own. -/
import Derived.Test.YtbplpekmpoenaaaGreatDoorJNamA
import Derived.Test.YtbplpekmpoenaaaGreatDoorDxTbSZ
import Derived.Test.YtbplpekmpoenaaaGreatDoorJNamT
import Derived.Test.YtbplpekmpoenaaaGreatDoorCards
namespace Go.Proofs.YtbplpekmpoenaaaGreatDoor.judgeNames
open Go.ChangeShapes Go.WideShapes Go.ChangeAt Go.RowKit Go.X
set_option linter.unusedVariables false
set_option maxRecDepth 100000
set_option maxHeartbeats 40000000

/-- the greatest number that is in a set -/
def lastOf (S : Nat) : Nat := if S = 0 then 0 else S.log2 + 1
def bitsArg (S : Nat) : AV := .res 0 (.bits .u16 1 256 S 0)
def others (S : Nat) : List AV := [.res 2 (.rng .i64 (-9223372036854775808) (Int.ofNat (lastOf S)))] ++ (List.range (8 - lastOf S)).map (fun i => .int .i64 (Int.ofNat (lastOf S + 1 + i))) ++ [.res 2 (.rng .i64 9 9223372036854775807)]
def all : List (List AV) := (List.range 256).flatMap fun S => (others S).map fun o => [bitsArg S, o]

theorem all_eq : SL0 ++ (SL1 ++ (SL2 ++ (SL3 ++ (SL4 ++ (SL5 ++ (SL6 ++ (SL7 ++ (SL8 ++ (SL9 ++ (SL10 ++ (SL11 ++ (SL12 ++ (SL13 ++ (SL14 ++ (SL15 ++ (SL16 ++ (SL17 ++ (SL18 ++ (SL19 ++ (SL20 ++ (SL21 ++ (SL22 ++ (SL23 ++ (SL24 ++ (SL25))))))))))))))))))))))))) = all := by kernel_rfl

theorem looked : chkTop (xp SMT []) 20000 7 ⟨Tryz.prog.globals.size, SG⟩ all = true := by
  rw [nGlob, ← all_eq]
  exact (top_append ST0 (top_append ST1 (top_append ST2 (top_append ST3 (top_append ST4 (top_append ST5 (top_append ST6 (top_append ST7 (top_append ST8 (top_append ST9 (top_append ST10 (top_append ST11 (top_append ST12 (top_append ST13 (top_append ST14 (top_append ST15 (top_append ST16 (top_append ST17 (top_append ST18 (top_append ST19 (top_append ST20 (top_append ST21 (top_append ST22 (top_append ST23 (top_append ST24 ST25)))))))))))))))))))))))))

theorem lastOf_le {S : Nat} (h : S < 256) : lastOf S ≤ 8 := by
  unfold lastOf
  split
  · omega
  · rename_i h0
    have := (Nat.log2_lt h0).2 (show S < 2 ^ 8 from h)
    omega

theorem other_in {S : Nat} (hS : S < 256) {e : Env} {m : Int} (hs : e.sy 2 = .int .i64 m) (hm : (-9223372036854775808) ≤ m ∧ m ≤ 9223372036854775807) : ∃ o ∈ others S, cv e o = some (.int .i64 m) := by
  have hl := lastOf_le hS
  by_cases h1 : m ≤ Int.ofNat (lastOf S)
  · exact ⟨_, List.mem_append_left _ (List.mem_append_left _ (List.mem_singleton.2 rfl)), rng_cv hs ⟨hm.1, h1⟩⟩
  · by_cases h2 : 9 ≤ m
    · exact ⟨_, List.mem_append_right _ (List.mem_singleton.2 rfl), rng_cv hs ⟨h2, hm.2⟩⟩
    · have hn : ∃ n : Nat, m = Int.ofNat n := ⟨m.toNat, by simp at h1; simp; omega⟩
      obtain ⟨n, rfl⟩ := hn
      simp at h1 h2
      refine ⟨.int .i64 (Int.ofNat n), ?_, rfl⟩
      refine List.mem_append_left _ (List.mem_append_right _ (List.mem_map.2 ⟨n - (lastOf S + 1), List.mem_range.2 (by omega), ?_⟩))
      congr 2; omega

theorem bits_cv {e : Env} {n : Nat} (hs : e.sy 0 = .int .u16 (Int.ofNat n)) : cv e (bitsArg (n / 2 % 256)) = some (.int .u16 (Int.ofNat n)) := by
  show (RC.bits .u16 1 256 (n / 2 % 256) 0).val (e.sy 0) = _
  rw [hs]
  simp only [RC.val, Nat.pow_one, Nat.pow_zero, Nat.div_one, and_self, if_true]

def sy (n m : Int) : Nat → Value
  | 0 => .int .u16 n
  | _ => .int .i64 m

theorem walk {W : World} (h : laidMetH Tryz.prog laidL W) {n : Nat} {m : Int} (hm : (-9223372036854775808) ≤ m ∧ m ≤ 9223372036854775807) :
    Calls Tryz.prog 7 #[.int .u16 (Int.ofNat n), .int .i64 m] W fun e w' => e = .returned (.bool true) ∧ (∀ B, B < W.heap.size → w'.heap[B]? = W.heap[B]?) ∧ ∀ may, W.keptBut w' may := by
  have hS : n / 2 % 256 < 256 := Nat.mod_lt _ (by decide)
  obtain ⟨o, ho, hoc⟩ := other_in hS (e := env0 Tryz.prog.globals.size W (sy (Int.ofNat n) m)) (m := m) rfl hm
  refine top_trueg (xp_ok _ _) (xp_fns _ _) mixed (SmT _) looked (globs h) («as» := [bitsArg (n / 2 % 256), o]) (List.mem_flatMap.2 ⟨_, List.mem_range.2 hS, List.mem_map.2 ⟨o, ho, rfl⟩⟩) (vs := [.int .u16 (Int.ofNat n), .int .i64 m]) (sy (Int.ofNat n) m) (ora_nil _) ?_
  exact cvs_mk (bits_cv rfl) (cvs_mk hoc rfl)

theorem nat_of {n : Int} (h : (Lit.int .u16 n).wf = true) : ∃ m : Nat, n = Int.ofNat m := by
  refine ⟨n.toNat, ?_⟩
  have h2 : (decide (IntKind.u16.min ≤ n) && decide (n ≤ IntKind.u16.max)) = true := h
  have h1 : IntKind.u16.min ≤ n := by
    simp only [Bool.and_eq_true, decide_eq_true_eq] at h2
    exact h2.1
  have h0 : IntKind.u16.min = 0 := by decide
  have : 0 ≤ n := by omega
  simp [Int.toNat_of_nonneg this]


theorem lifted (os : Os) (started : os.Started) (H : Type) (enc : TypeId × Value → H) :
    ReturnsInHanded {} Tryz.checked os 7 .any (fun w args => (Rows.judgeNamesSpec.pre enc Tryz.prog Tryz.f7 [] false w args ∧ laidMetH Tryz.prog laidL w) ∧ sizedMet enc Tryz.prog Tryz.f7 (OpenSpec.ofChange Rows.judgeNamesSpec) false w args)
      (Rows.judgeNamesSpec.post enc Tryz.prog Tryz.f7 false true false false) := by
  refine returnsInHanded_of_change_and (C := Tryz.checked) (X := fun w _ => laidMetH Tryz.prog laidL w) (fun _ _ _ hh h => h.of_heap hh) own started (by kernel_rfl) Tryz.func7
    (ChangeSpec.witness_shaped (enc := enc) (C := Tryz.checked) (os := os) (X := fun w _ => laidMetH Tryz.prog laidL w) false (World.laidAll Tryz.prog os laidL) #[.int .u16 0, .int .i64 0] 8 (World.laidAll_os _ _ _) (World.shaped_of_ZipB (by kernel_rfl) (by kernel_rfl)) (by kernel_rfl) (by kernel_rfl) (by kernel_rfl) (door_met os _)) ?_
  intro W base args ds gs before hval0 hW _ _ hL _
  have hval : ∀ (j : Nat) t v, Tryz.f7.params[j]? = some t → args[j]? = some v → Value.okWide Tryz.prog W .any base t v := hval0
  have hW' := hW
  obtain ⟨p, q, hA0, hV, rfl, hfz, hnd⟩ := hW
  have hA : DataW.TrodAll enc Tryz.prog W 0 (fun _ => true) true Tryz.f7.params.toList args.toList ds p := hA0
  have hA1 := hA0
  rw [Tryz.params7] at hA hval
  obtain ⟨v0, v1, d0, d1, p0, p1, rfl, rfl, rfl, h0, h1⟩ := trodAll_two hA
  obtain ⟨rfl, rfl⟩ := trodVars_none hV
  obtain ⟨n, rfl, rfl, rfl, wn⟩ := open_int Tryz.underlying37 (hval 0 _ v0 rfl rfl) h0
  obtain ⟨m, rfl, rfl, rfl, wm⟩ := open_int Tryz.underlying3 (hval 1 _ v1 rfl rfl) h1
  obtain ⟨n, rfl⟩ := nat_of wn
  clear hval0
  simp only [List.append_nil] at hW'
  refine (walk hL (i64_of wm)).mono fun e W' ⟨he, hkp, hk⟩ => ?_
  subst he
  refine ⟨_, rfl, _, _, _, [], [], [], hW', ?_, ?_, ?_, hk _, fun h => by cases h⟩
  · exact trodAll_mk1 (shut_bool Tryz.underlying4 true)
  · exact DataW.TrodAll.respare kids full (by rw [Tryz.params7]; decide +kernel) (trodAll_keep hkp hA1) (fun q hq => by simpa using DataW.TrodAll.lt hA1 q hq)
  · rfl

end Go.Proofs.YtbplpekmpoenaaaGreatDoor.judgeNames
