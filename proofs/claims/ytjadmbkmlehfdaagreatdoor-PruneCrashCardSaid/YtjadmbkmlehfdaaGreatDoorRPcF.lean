/- PruneCrash returns true for every setup, list of numbers, truth value, byte and truth value, at every world whose package variables are as the program's text lays them; no condition beside the row's own. -/
import Derived.Test.YtjadmbkmlehfdaaGreatDoorRows
import Derived.Test.YtjadmbkmlehfdaaGreatDoorChecked
import Derived.Stop.Joined
import Derived.SevenTiedAt
import Derived.ClosedOfChecked
import Derived.Test.YtjadmbkmlehfdaaGreatDoorProg
import Derived.Test.YtjadmbkmlehfdaaGreatDoorK1
import Derived.KernelRfl
import Derived.WalkKit
import Derived.ProofKit
import Derived.ReadAgain
import Derived.LaidMore
import Derived.OpenShut
namespace Go.Proofs.YtjadmbkmlehfdaaGreatDoor.pruneCrash
set_option maxRecDepth 100000
set_option maxHeartbeats 40000000
theorem tables : laidOutB Tryz.prog = true ∧ mapsRowed Tryz.prog = true ∧ Tryz.prog.plainKeys = true := ClosedOfChecked.closed_of_checked Tryz.checked (by kernel_rfl) (by kernel_rfl) (by kernel_rfl)
theorem fPk : (Rows.pruneCrashRow.plainKeys == Tryz.prog.plainKeys) = true := by rw [tables.2.2]; rfl
end Go.Proofs.YtjadmbkmlehfdaaGreatDoor.pruneCrash
namespace Go.M
open Go.Proofs
set_option maxRecDepth 1000000
set_option maxHeartbeats 40000000
noncomputable def leadT : List (List Nat) := [[], [], [1], [6, 7, 8, 9, 10, 11, 12, 13, 14, 15, 16, 17, 19, 18, 8], [20, 21, 22, 23, 24, 25, 23, 26, 27, 27, 28, 29, 30, 31, 32, 32, 33, 30, 33, 33, 34, 25, 34, 20], [20, 21, 24, 22, 25, 34, 34, 22, 13, 25, 35, 33, 33, 33, 33, 11, 20], [36, 37, 38, 39, 40], [32, 30], [41, 42, 42, 14, 43, 44, 28, 13, 14, 45, 46, 45, 46, 47, 42, 14, 27, 48], [49], [50, 51], [12, 52], [53, 46], [54, 55, 56], [57, 30, 58, 59, 60, 61], [39, 45, 46, 62, 63, 64], [54], [65], [], [39, 64, 17], [66, 24, 25, 25, 67, 68, 27, 48], [6, 9, 69, 70], [43, 44, 28], [72, 71, 67], [73, 75, 74], [43, 24, 76, 77, 16, 14], [], [50, 78], [79, 80, 81, 83, 82, 83], [84], [87], [79, 88, 89, 90, 83, 92, 91, 93, 82], [50, 94], [12, 95], [54], [54], [], [97, 96, 98], [99, 100], [80], [10, 101, 102, 103, 104, 27, 101, 27, 105, 12, 106, 107, 64], [37, 38, 39, 103, 106, 105, 107, 64, 108, 109], [57, 110, 30], [54, 111, 112], [50, 85], [54, 111], [113, 114], [115, 110, 108], [79], [89, 116], [], [117], [113, 118], [54], [], [119, 120], [121], [115, 77, 77, 76, 32], [47], [53, 123, 122, 125], [31], [126], [128, 127], [130, 106], [79, 88, 131, 90, 132, 133, 134, 136, 137, 138, 83, 136, 82], [139], [37, 38, 39, 141, 103, 106, 107, 64, 108, 142], [132], [], [143, 144, 132, 27, 146, 148, 149, 150, 151, 145], [152, 10, 153], [154], [155], [44, 28, 156, 77], [157], [158], [54], [79], [160, 161], [], [], [162], [164, 165], [], [50, 85, 86], [160], [166], [28, 77, 89, 167], [79], [168], [164], [170], [], [90, 171, 172], [173], [53, 62], [174], [175], [], [], [173], [49, 176, 107, 108, 109], [177], [178, 179, 180, 179, 181], [53, 182], [50, 78, 27, 183], [184], [53, 182, 185, 122, 187], [53, 188, 122, 190], [126], [191], [192, 193], [98, 194], [195, 127], [196], [156, 76, 76, 16], [197], [160, 198], [196], [199, 199, 200, 201], [202], [192, 203, 204, 205], [194, 206, 56], [124], [127, 207], [], [32, 78, 209], [192], [129], [196, 210], [211], [213], [214], [], [135], [215, 215], [216, 217], [], [219, 135, 218], [72, 140], [220, 67], [], [126], [152, 221, 144], [10, 104], [], [70, 147], [50, 78, 27, 183], [95], [12], [107], [64], [156, 76, 77, 76, 77, 16], [152, 32, 222, 176, 223, 224, 225, 145], [], [79, 81], [50], [], [28, 29, 74, 30, 31, 159], [], [], [], [163], [226], [171, 226], [227, 228], [160], [230, 229, 231, 229, 232, 229], [88, 169], [233], [], [226, 235, 234], [], [160], [], [236, 237], [238, 179, 180, 179], [175, 239, 239, 239, 239, 239, 240, 241, 242, 242, 242, 243, 241, 243], [213, 244], [245, 246, 247], [248], [], [113, 249], [51, 209], [178, 250], [186], [251, 127], [], [189], [127, 253], [], [76, 11], [], [196, 210], [120], [], [], [], [], [], [255], [199], [], [], [256], [196, 254], [], [208], [196], [258, 100], [], [212], [259, 260, 178], [261], [79, 90, 169], [], [], [262], [], [263, 263], [77], [132], [89], [107], [108], [109], [], [], [264], [132], [], [], [], [], [], [], [], [], [], [265], [266, 267], [266], [], [], [], [268, 269, 269, 269], [], [271, 270, 272, 210], [273], [196], [], [252], [196], [254], [196], [], [257, 114], [192], [173], [246, 274, 245], [180], [275], [276, 276, 276], [], [277, 277, 277], [], [278], [279], [], [], [280], [], [271, 270], [], [271, 270], [281, 282, 281, 283, 284], [], [], [], [], [], [285], [], [], [], [286], [], [], [], [], [], [], [], [], [], [], [], [], [], [], [], [], [], [], [], [], [], [], [], [], [], [], [], []]
theorem leadT0 : leadR Tryz.prog leadT 0 64 = true := by kernel_rfl
theorem leadT1 : leadR Tryz.prog leadT 64 64 = true := by kernel_rfl
theorem leadT2 : leadR Tryz.prog leadT 128 64 = true := by kernel_rfl
theorem leadT3 : leadR Tryz.prog leadT 192 64 = true := by kernel_rfl
theorem leadT4 : leadR Tryz.prog leadT 256 58 = true := by kernel_rfl
theorem leadT_lt : leadT.length = 314 := by kernel_rfl
theorem leadT_n : Tryz.prog.funcs.size = 314 := by kernel_rfl
theorem leadT_all : ∀ g : Nat, g < 314 → (Tryz.prog.funcs[g]?).elim [] Tryz.prog.leadsTo = leadOf leadT g := by
  intro g hg
  rcases Nat.lt_or_ge g 64 with h0 | h0
  · exact leadR_spec leadT0 g (by omega) (by omega)
  rcases Nat.lt_or_ge g 128 with h1 | h1
  · exact leadR_spec leadT1 g (by omega) (by omega)
  rcases Nat.lt_or_ge g 192 with h2 | h2
  · exact leadR_spec leadT2 g (by omega) (by omega)
  rcases Nat.lt_or_ge g 256 with h3 | h3
  · exact leadR_spec leadT3 g (by omega) (by omega)
  exact leadR_spec leadT4 g (by omega) (by omega)
noncomputable def closL : List Nat := [5, 20, 66, 37, 97, 175, 236, 237, 96, 174, 98, 38, 99, 100, 173, 160, 39, 80, 141, 103, 178, 213, 261, 275, 281, 285, 286, 282, 283, 284, 244, 179, 245, 268, 269, 246, 247, 271, 270, 280, 272, 210, 180, 248, 273, 181, 106, 184, 250, 107, 53, 54, 182, 113, 195, 127, 192, 249, 196, 185, 186, 251, 252, 122, 194, 120, 202, 206, 56, 121, 203, 204, 256, 257, 114, 205, 254, 187, 64, 79, 88, 131, 90, 164, 171, 226, 235, 234, 132, 214, 169, 233, 133, 134, 135, 215, 136, 216, 217, 262, 276, 137, 138, 219, 263, 218, 83, 82, 165, 227, 228, 264, 277, 108, 188, 189, 253, 190, 142, 126, 32, 50, 94, 78, 161, 209, 258, 24, 73, 44, 85, 28, 81, 162, 163, 156, 77, 75, 158, 29, 84, 86, 166, 74, 157, 30, 87, 89, 168, 167, 230, 229, 231, 232, 31, 92, 91, 170, 93, 172, 159, 25, 43, 111, 193, 112, 76, 16, 14, 57, 115, 58, 47, 110, 191, 11, 12, 46, 52, 118, 59, 123, 124, 207, 208, 125, 60, 61, 67, 68, 27, 48, 21, 6, 36, 40, 10, 51, 117, 198, 101, 49, 116, 197, 176, 238, 109, 102, 177, 239, 265, 240, 266, 278, 267, 279, 241, 242, 243, 104, 105, 183, 9, 69, 143, 152, 221, 144, 146, 70, 153, 222, 223, 224, 225, 145, 147, 148, 95, 62, 128, 129, 149, 150, 151, 22, 34, 13, 55, 119, 199, 200, 255, 201, 35, 33]
theorem clos_t : closT leadT (1 + sumT leadT 314) [5] [] = closL := by decide +kernel
theorem clos : Tryz.prog.closure 5 = closL := closure_of leadT_all leadT_lt leadT_n clos_t
end Go.M
namespace Go.Proofs.YtjadmbkmlehfdaaGreatDoor.pruneCrash
open Go.ChangeShapes Go.WideShapes Go.ChangeAt Go.RowKit Go.M
set_option linter.unusedVariables false
set_option maxRecDepth 100000
set_option maxHeartbeats 40000000
theorem fIn : (Rows.pruneCrashRow.inPlace == Tryz.prog.inPlace 5) = true := by rw [inPlace_of clos]; as_aux_lemma => kernel_rfl
theorem fUn : (Rows.pruneCrashRow.unfollowed == Tryz.prog.unfollowed 5) = true := by rw [unfollowed_of clos]; as_aux_lemma => kernel_rfl
theorem fRe : (Rows.pruneCrashRow.recurses == Tryz.prog.recurses 5) = true := by rw [recurses_of (show Tryz.prog.unfollowed 5 = true by rw [unfollowed_of clos]; kernel_rfl)]; as_aux_lemma => kernel_rfl
theorem fNa : (Rows.pruneCrashRow.named == Tryz.prog.varsNamed 5) = true := by rw [varsNamed_of clos]; as_aux_lemma => kernel_rfl
theorem closed : joinedFacts Tryz.prog 5 Tryz.f5 Rows.pruneCrashSpec Rows.pruneCrashRow = true := by
  unfold joinedFacts
  repeat' (with_reducible apply andI)
  all_goals first
    | (with_reducible exact fIn)
    | (with_reducible exact fUn)
    | (with_reducible exact fRe)
    | (with_reducible exact fNa)
    | (with_reducible exact tables.1)
    | (with_reducible exact tables.2.1)
    | (with_reducible exact fPk)
    | (as_aux_lemma => kernel_rfl)
end Go.Proofs.YtjadmbkmlehfdaaGreatDoor.pruneCrash
namespace Go.Proofs.YtjadmbkmlehfdaaGreatDoor
open Go
theorem noGo : Tryz.prog.funcs.any Func.goes = false := by as_aux_lemma => kernel_rfl
end Go.Proofs.YtjadmbkmlehfdaaGreatDoor
