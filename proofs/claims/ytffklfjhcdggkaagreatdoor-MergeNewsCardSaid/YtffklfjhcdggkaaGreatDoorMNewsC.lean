/- MergeNews returns true for every configuration, at every world whose package variables are as the program's text lays them; no condition beside the row's own. -/
import Derived.Test.YtffklfjhcdggkaaGreatDoorMNewsB
namespace Go.Proofs.YtffklfjhcdggkaaGreatDoor.mergeNews
open Go.ChangeShapes Go.WideShapes Go.ChangeAt Go.RowKit Go.X
set_option linter.unusedVariables false
set_option maxRecDepth 100000

theorem row : Rows.MergeNewsSaid :=
  OpenClaim.holds_of_wide 3 Tryz.f3 rfl rfl rfl rfl rfl rfl rfl ⟨rfl, rfl, rfl, rfl, rfl⟩ rfl rfl rfl rfl rfl (by kernel_rfl) Tryz.func3 (by kernel_rfl)
    (of_decide_eq_true (by kernel_rfl)) (by unfold Func.isWrapper; first | (rw [if_pos (by decide +kernel)]; kernel_rfl) | (rw [if_neg (by decide +kernel)]; exact ⟨rfl, rfl⟩))
    (fun os started H enc _ => lifted os started H enc)
end Go.Proofs.YtffklfjhcdggkaaGreatDoor.mergeNews
