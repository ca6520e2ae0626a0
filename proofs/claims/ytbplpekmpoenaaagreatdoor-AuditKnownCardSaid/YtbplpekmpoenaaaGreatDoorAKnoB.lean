/- AuditKnown returns true, at every world whose package variables are as the program's text lays them; no condition beside the row's own. -/
import Derived.Test.YtbplpekmpoenaaaGreatDoorAKnoA
import Derived.Test.YtbplpekmpoenaaaGreatDoorDxTbXZ
import Derived.Test.YtbplpekmpoenaaaGreatDoorAKnoT
import Derived.Test.YtbplpekmpoenaaaGreatDoorCards
namespace Go.Proofs.YtbplpekmpoenaaaGreatDoor.auditKnown
open Go.ChangeShapes Go.WideShapes Go.ChangeAt Go.RowKit Go.X
set_option linter.unusedVariables false
set_option maxRecDepth 100000
set_option maxHeartbeats 40000000

def all : List (List AV) := [[]]

theorem all_eq : XL0 = all := by kernel_rfl

theorem looked : chkTop (xp XMT []) 20000 5 ⟨Tryz.prog.globals.size, QG⟩ all = true := by
  rw [nGlob, ← all_eq]
  exact XT0

theorem walk {W : World} (h : laidMetH Tryz.prog laidL W) : Calls Tryz.prog 5 #[] W fun e w' => e = .returned (.bool true) ∧ (∀ B, B < W.heap.size → w'.heap[B]? = W.heap[B]?) ∧ ∀ may, W.keptBut w' may :=
  top_trueg (xp_ok _ _) (xp_fns _ _) mixed (XmT _) looked (globs h) («as» := []) (by simp [all]) (vs := []) (fun _ => .bool false) (ora_nil _) rfl


theorem lifted (os : Os) (started : os.Started) (H : Type) (enc : TypeId × Value → H) :
    ReturnsInHanded {} Tryz.checked os 5 .any (fun w args => (Rows.auditKnownSpec.pre enc Tryz.prog Tryz.f5 [] false w args ∧ laidMetH Tryz.prog laidL w) ∧ sizedMet enc Tryz.prog Tryz.f5 (OpenSpec.ofChange Rows.auditKnownSpec) false w args)
      (Rows.auditKnownSpec.post enc Tryz.prog Tryz.f5 false true false false) := by
  refine returnsInHanded_of_change_and (C := Tryz.checked) (X := fun w _ => laidMetH Tryz.prog laidL w) (fun _ _ _ hh h => h.of_heap hh) own started (by kernel_rfl) Tryz.func5
    (ChangeSpec.witness_shaped (enc := enc) (C := Tryz.checked) (os := os) (X := fun w _ => laidMetH Tryz.prog laidL w) false (World.laidAll Tryz.prog os laidL) #[] 8 (World.laidAll_os _ _ _) (World.shaped_of_ZipB (by kernel_rfl) (by kernel_rfl)) (by kernel_rfl) (by kernel_rfl) (by kernel_rfl) (door_met os _)) ?_
  intro W base args ds gs before hval0 hW _ _ hL _
  have hval : ∀ (j : Nat) t v, Tryz.f5.params[j]? = some t → args[j]? = some v → Value.okWide Tryz.prog W .any base t v := hval0
  have hW' := hW
  obtain ⟨p, q, hA0, hV, rfl, hfz, hnd⟩ := hW
  have hA : DataW.TrodAll enc Tryz.prog W 0 (fun _ => true) true Tryz.f5.params.toList args.toList ds p := hA0
  have hA1 := hA0
  rw [Tryz.params5] at hA hval
  obtain ⟨rfl, rfl, rfl⟩ := trodAll_none hA
  obtain ⟨rfl, rfl⟩ := trodVars_none hV
  clear hval0
  simp only [List.append_nil] at hW'
  refine (walk hL).mono fun e W' ⟨he, hkp, hk⟩ => ?_
  subst he
  refine ⟨_, rfl, _, _, _, [], [], [], hW', ?_, ?_, ?_, hk _, fun h => by cases h⟩
  · exact trodAll_mk1 (shut_bool Tryz.underlying4 true)
  · rfl
  · rfl

end Go.Proofs.YtbplpekmpoenaaaGreatDoor.auditKnown
