/- ConsoleNil returns true for every line, at every world whose package variables are as the program's text lays them; no condition beside the row's own. -/
import Derived.Test.YtfpiabkkelhgbaaGreatDoorCNilA
import Derived.Test.YtfpiabkkelhgbaaGreatDoorDxTbQZ
import Derived.Test.YtfpiabkkelhgbaaGreatDoorCNilT
import Derived.Test.YtfpiabkkelhgbaaGreatDoorCards
namespace Go.Proofs.YtfpiabkkelhgbaaGreatDoor.consoleNil
open Go.ChangeShapes Go.WideShapes Go.ChangeAt Go.RowKit Go.X
set_option linter.unusedVariables false
set_option maxRecDepth 100000
set_option maxHeartbeats 40000000

def one (p : Nat × Nat) : List AV := [.res 0 (.strLen p.1 p.2)]
def two (n : Nat) : List (Nat × Nat) := [(0, n), (n + 1, 9223372036854775807)]
def all : List (List AV) := (two 1000).map one

theorem all_eq : QL0 = all := by kernel_rfl

theorem looked : chkTop (xp QMT []) 20000 4 ⟨Tryz.prog.globals.size, QG⟩ all = true := by
  rw [nGlob, ← all_eq]
  exact QT0

theorem in_two (n m : Nat) (hm : m ≤ maxLen) : ∃ k ∈ two n, k.1 ≤ m ∧ m ≤ k.2 := by
  have hx : maxLen ≤ 9223372036854775807 := by decide
  by_cases h : m ≤ n
  · exact ⟨(0, n), by simp [two], Nat.zero_le _, h⟩
  · exact ⟨(n + 1, 9223372036854775807), by simp [two], by show n + 1 ≤ m; omega, by show m ≤ 9223372036854775807; omega⟩

theorem walk {W : World} (h : laidMetH Tryz.prog laidL W) {s : ByteArray} (hs : s.size ≤ maxLen) :
    Calls Tryz.prog 4 #[.string s] W fun e w' => e = .returned (.bool true) ∧ (∀ B, B < W.heap.size → w'.heap[B]? = W.heap[B]?) ∧ ∀ may, W.keptBut w' may := by
  obtain ⟨rp, mp, ip⟩ := in_two 1000 s.size hs
  refine top_trueg (xp_ok _ _) (xp_fns _ _) mixed (QmT _) (xp_sums _ _) looked (globs h) («as» := one rp) (List.mem_map.2 ⟨rp, mp, rfl⟩) (vs := [.string s]) (fun _ => .string s) (ora_nil _) ?_
  exact cvs_mk (str_cv rfl ip) rfl


theorem lifted (os : Os) (started : os.Started) (H : Type) (enc : TypeId × Value → H) :
    ReturnsInHanded {} Tryz.checked os 4 .any (fun w args => (Rows.consoleNilSpec.pre enc Tryz.prog Tryz.f4 [] false w args ∧ laidMetH Tryz.prog laidL w) ∧ sizedMet enc Tryz.prog Tryz.f4 (OpenSpec.ofChange Rows.consoleNilSpec) false w args)
      (Rows.consoleNilSpec.post enc Tryz.prog Tryz.f4 false true false false) := by
  refine returnsInHanded_of_change_and (C := Tryz.checked) (X := fun w _ => laidMetH Tryz.prog laidL w) (fun _ _ _ hh h => h.of_heap hh) own started (by kernel_rfl) Tryz.func4
    (ChangeSpec.witness_shaped (enc := enc) (C := Tryz.checked) (os := os) (X := fun w _ => laidMetH Tryz.prog laidL w) false (World.laidAll Tryz.prog os laidL) #[.string ⟨#[]⟩] 8 (World.laidAll_os _ _ _) (World.shaped_of_ZipB (by kernel_rfl) (by kernel_rfl)) (by kernel_rfl) (by kernel_rfl) (by kernel_rfl) (door_met os _)) ?_
  intro W base args ds gs before hval0 hW _ _ hL _
  have hval : ∀ (j : Nat) t v, Tryz.f4.params[j]? = some t → args[j]? = some v → Value.okWide Tryz.prog W .any base t v := hval0
  have hW' := hW
  obtain ⟨p, q, hA0, hV, rfl, hfz, hnd⟩ := hW
  have hA : DataW.TrodAll enc Tryz.prog W 0 (fun _ => true) true Tryz.f4.params.toList args.toList ds p := hA0
  have hA1 := hA0
  rw [Tryz.params4] at hA hval
  obtain ⟨v0, d0, rfl, rfl, h0⟩ := trodAll_one hA
  obtain ⟨rfl, rfl⟩ := trodVars_none hV
  obtain ⟨s0, rfl⟩ := okWide_string Tryz.underlying9 (hval 0 _ v0 rfl rfl)
  obtain ⟨fu, h0⟩ := h0
  have hs0 := arg_string Tryz.underlying9 h0
  clear hval0
  simp only [List.append_nil] at hW'
  refine (walk hL hs0).mono fun e W' ⟨he, hkp, hk⟩ => ?_
  subst he
  refine ⟨_, rfl, _, _, _, [], p, [], hW', ?_, ?_, ?_, hk _, fun h => by cases h⟩
  · exact trodAll_mk1 (shut_bool Tryz.underlying4 true)
  · exact DataW.TrodAll.respare kids full (by rw [Tryz.params4]; decide +kernel) (trodAll_keep hkp hA1) (fun q hq => by simpa using DataW.TrodAll.lt hA1 q hq)
  · rfl

end Go.Proofs.YtfpiabkkelhgbaaGreatDoor.consoleNil
