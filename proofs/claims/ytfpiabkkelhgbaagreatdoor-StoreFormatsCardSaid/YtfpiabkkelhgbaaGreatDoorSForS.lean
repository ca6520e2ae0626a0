/- The variables that StoreFormats's row lists are named by the program's text. -/
import Derived.Test.YtfpiabkkelhgbaaGreatDoorSForR
import Derived.LaidByTextLater
import Derived.SevenTiedAt
import Derived.LaidSub
import Derived.LaidOnce
namespace Go.Proofs.YtfpiabkkelhgbaaGreatDoor
open Go
set_option maxRecDepth 100000
set_option maxHeartbeats 40000000
def storeFormatsDoors : List (List UInt8) := [[100, 114, 117, 109, 108, 105, 110, 47, 97, 117, 100, 105, 116, 46, 114, 101, 111, 112, 101, 110, 32, 105, 115, 32, 108, 97, 105, 100, 32, 98, 121, 32, 105, 116, 115, 32, 111, 119, 110, 32, 105, 110, 105, 116, 105, 97, 108, 105, 115, 101, 114, 44, 32, 112, 108, 97, 105, 110, 32, 100, 97, 116, 97, 32, 40, 108, 111, 111, 107, 32, 49, 49, 41], [100, 114, 117, 109, 108, 105, 110, 47, 115, 108, 111, 116, 115, 46, 99, 104, 111, 111, 115, 105, 110, 103, 32, 105, 115, 32, 108, 97, 105, 100, 32, 98, 121, 32, 105, 116, 115, 32, 111, 119, 110, 32, 105, 110, 105, 116, 105, 97, 108, 105, 115, 101, 114, 44, 32, 112, 108, 97, 105, 110, 32, 100, 97, 116, 97, 32, 40, 108, 111, 111, 107, 32, 49, 49, 41], [100, 114, 117, 109, 108, 105, 110, 47, 115, 108, 111, 116, 115, 46, 100, 114, 111, 112, 112, 105, 110, 103, 32, 105, 115, 32, 108, 97, 105, 100, 32, 98, 121, 32, 105, 116, 115, 32, 111, 119, 110, 32, 105, 110, 105, 116, 105, 97, 108, 105, 115, 101, 114, 44, 32, 112, 108, 97, 105, 110, 32, 100, 97, 116, 97, 32, 40, 108, 111, 111, 107, 32, 49, 49, 41], [100, 114, 117, 109, 108, 105, 110, 47, 115, 108, 111, 116, 115, 46, 108, 111, 97, 100, 105, 110, 103, 32, 105, 115, 32, 108, 97, 105, 100, 32, 98, 121, 32, 105, 116, 115, 32, 111, 119, 110, 32, 105, 110, 105, 116, 105, 97, 108, 105, 115, 101, 114, 44, 32, 112, 108, 97, 105, 110, 32, 100, 97, 116, 97, 32, 40, 108, 111, 111, 107, 32, 49, 49, 41], [100, 114, 117, 109, 108, 105, 110, 47, 115, 108, 111, 116, 115, 46, 115, 101, 97, 108, 105, 110, 103, 32, 105, 115, 32, 108, 97, 105, 100, 32, 98, 121, 32, 105, 116, 115, 32, 111, 119, 110, 32, 105, 110, 105, 116, 105, 97, 108, 105, 115, 101, 114, 44, 32, 112, 108, 97, 105, 110, 32, 100, 97, 116, 97, 32, 40, 108, 111, 111, 107, 32, 49, 49, 41], [103, 111, 115, 101, 109, 46, 99, 117, 116, 46, 118, 97, 114, 115, 32, 104, 111, 108, 100, 115, 32, 105, 110, 105, 116, 105, 97, 108, 105, 115, 101, 114, 115, 32, 97, 108, 111, 110, 101, 59, 32, 115, 101, 101, 32, 116, 104, 101, 32, 109, 97, 110, 105, 102, 101, 115, 116, 39, 115, 32, 114, 111, 119, 32, 99, 117, 116, 118, 97, 114, 115, 119, 111, 114, 100, 32, 40, 108, 111, 111, 107, 32, 49, 49, 44, 32, 116, 101, 115, 116, 32, 102, 105, 108, 101, 115, 32, 116, 111, 111, 41], [105, 110, 116, 101, 114, 110, 97, 108, 47, 115, 116, 114, 99, 111, 110, 118, 46, 117, 105, 110, 116, 54, 52, 112, 111, 119, 49, 48, 32, 105, 115, 32, 108, 97, 105, 100, 32, 98, 121, 32, 105, 116, 115, 32, 111, 119, 110, 32, 105, 110, 105, 116, 105, 97, 108, 105, 115, 101, 114, 44, 32, 112, 108, 97, 105, 110, 32, 100, 97, 116, 97, 32, 40, 108, 111, 111, 107, 32, 49, 49, 41], [109, 97, 116, 104, 47, 98, 105, 116, 115, 46, 100, 101, 66, 114, 117, 105, 106, 110, 51, 50, 116, 97, 98, 32, 105, 115, 32, 108, 97, 105, 100, 32, 98, 121, 32, 105, 116, 115, 32, 111, 119, 110, 32, 105, 110, 105, 116, 105, 97, 108, 105, 115, 101, 114, 44, 32, 112, 108, 97, 105, 110, 32, 100, 97, 116, 97, 32, 40, 108, 111, 111, 107, 32, 49, 49, 41], [109, 97, 116, 104, 47, 98, 105, 116, 115, 46, 100, 101, 66, 114, 117, 105, 106, 110, 54, 52, 116, 97, 98, 32, 105, 115, 32, 108, 97, 105, 100, 32, 98, 121, 32, 105, 116, 115, 32, 111, 119, 110, 32, 105, 110, 105, 116, 105, 97, 108, 105, 115, 101, 114, 44, 32, 112, 108, 97, 105, 110, 32, 100, 97, 116, 97, 32, 40, 108, 111, 111, 107, 32, 49, 49, 41], [115, 116, 114, 99, 111, 110, 118, 46, 69, 114, 114, 82, 97, 110, 103, 101, 32, 105, 115, 32, 108, 97, 105, 100, 32, 98, 121, 32, 105, 116, 115, 32, 111, 119, 110, 32, 99, 97, 108, 108, 32, 111, 102, 32, 101, 114, 114, 111, 114, 115, 46, 78, 101, 119, 32, 111, 110, 32, 111, 110, 101, 32, 108, 105, 116, 101, 114, 97, 108, 32, 40, 108, 111, 111, 107, 32, 49, 49, 41], [115, 116, 114, 99, 111, 110, 118, 46, 69, 114, 114, 83, 121, 110, 116, 97, 120, 32, 105, 115, 32, 108, 97, 105, 100, 32, 98, 121, 32, 105, 116, 115, 32, 111, 119, 110, 32, 99, 97, 108, 108, 32, 111, 102, 32, 101, 114, 114, 111, 114, 115, 46, 78, 101, 119, 32, 111, 110, 32, 111, 110, 101, 32, 108, 105, 116, 101, 114, 97, 108, 32, 40, 108, 111, 111, 107, 32, 49, 49, 41], [116, 104, 101, 32, 108, 111, 111, 107, 32, 111, 102, 32, 103, 111, 115, 101, 109, 46, 99, 117, 116, 46, 118, 97, 114, 115, 32, 119, 101, 110, 116, 32, 111, 118, 101, 114, 32, 116, 104, 101, 32, 102, 111, 108, 100, 101, 114, 32, 116, 104, 97, 116, 32, 116, 104, 101, 32, 99, 97, 108, 108, 101, 114, 32, 110, 97, 109, 101, 100, 32, 97, 115, 32, 116, 104, 101, 32, 114, 101, 112, 111, 115, 105, 116, 111, 114, 121, 39, 115, 32, 114, 111, 111, 116, 32, 40, 108, 111, 111, 107, 32, 49, 49, 41], [117, 110, 105, 99, 111, 100, 101, 47, 117, 116, 102, 56, 46, 97, 99, 99, 101, 112, 116, 82, 97, 110, 103, 101, 115, 32, 105, 115, 32, 108, 97, 105, 100, 32, 98, 121, 32, 105, 116, 115, 32, 111, 119, 110, 32, 105, 110, 105, 116, 105, 97, 108, 105, 115, 101, 114, 44, 32, 112, 108, 97, 105, 110, 32, 100, 97, 116, 97, 32, 40, 108, 111, 111, 107, 32, 49, 49, 41], [117, 110, 105, 99, 111, 100, 101, 47, 117, 116, 102, 56, 46, 102, 105, 114, 115, 116, 32, 105, 115, 32, 108, 97, 105, 100, 32, 98, 121, 32, 105, 116, 115, 32, 116, 101, 120, 116, 32, 97, 108, 111, 110, 101, 32, 40, 112, 105, 110, 110, 101, 100, 32, 49, 41]]
theorem storeFormatsDoor : Tryz.prog.doorBytes = storeFormatsDoors := by kernel_rfl
theorem storeFormatsKb0 : Tryz.prog.kindBase "math/bits.deBruijn64tab" = some .data := by
  unfold Program.kindBase Program.wordedOn Program.tailsOn
  rw [storeFormatsDoor]
  kernel_rfl
theorem storeFormatsKo0 : Tryz.prog.kindOfLater "math/bits.deBruijn64tab" = some .data := by
  unfold Program.kindOfLater
  rw [storeFormatsKb0]
theorem storeFormatsGn0 : Tryz.prog.globalNamed "math/bits.deBruijn64tab" = some 6 := by kernel_rfl
theorem storeFormatsKb1 : Tryz.prog.kindBase "drumlin/slots.sealing" = some .data := by
  unfold Program.kindBase Program.wordedOn Program.tailsOn
  rw [storeFormatsDoor]
  kernel_rfl
theorem storeFormatsKo1 : Tryz.prog.kindOfLater "drumlin/slots.sealing" = some .data := by
  unfold Program.kindOfLater
  rw [storeFormatsKb1]
theorem storeFormatsGn1 : Tryz.prog.globalNamed "drumlin/slots.sealing" = some 3 := by kernel_rfl
theorem storeFormatsKb2 : Tryz.prog.kindBase "math/bits.deBruijn32tab" = some .data := by
  unfold Program.kindBase Program.wordedOn Program.tailsOn
  rw [storeFormatsDoor]
  kernel_rfl
theorem storeFormatsKo2 : Tryz.prog.kindOfLater "math/bits.deBruijn32tab" = some .data := by
  unfold Program.kindOfLater
  rw [storeFormatsKb2]
theorem storeFormatsGn2 : Tryz.prog.globalNamed "math/bits.deBruijn32tab" = some 7 := by kernel_rfl
theorem storeFormatsKb3 : Tryz.prog.kindBase "drumlin/slots.choosing" = some .data := by
  unfold Program.kindBase Program.wordedOn Program.tailsOn
  rw [storeFormatsDoor]
  kernel_rfl
theorem storeFormatsKo3 : Tryz.prog.kindOfLater "drumlin/slots.choosing" = some .data := by
  unfold Program.kindOfLater
  rw [storeFormatsKb3]
theorem storeFormatsGn3 : Tryz.prog.globalNamed "drumlin/slots.choosing" = some 5 := by kernel_rfl
theorem storeFormatsKb4 : Tryz.prog.kindBase "drumlin/slots.dropping" = some .data := by
  unfold Program.kindBase Program.wordedOn Program.tailsOn
  rw [storeFormatsDoor]
  kernel_rfl
theorem storeFormatsKo4 : Tryz.prog.kindOfLater "drumlin/slots.dropping" = some .data := by
  unfold Program.kindOfLater
  rw [storeFormatsKb4]
theorem storeFormatsGn4 : Tryz.prog.globalNamed "drumlin/slots.dropping" = some 1 := by kernel_rfl
theorem storeFormatsKb5 : Tryz.prog.kindBase "drumlin/slots.loading" = some .data := by
  unfold Program.kindBase Program.wordedOn Program.tailsOn
  rw [storeFormatsDoor]
  kernel_rfl
theorem storeFormatsKo5 : Tryz.prog.kindOfLater "drumlin/slots.loading" = some .data := by
  unfold Program.kindOfLater
  rw [storeFormatsKb5]
theorem storeFormatsGn5 : Tryz.prog.globalNamed "drumlin/slots.loading" = some 0 := by kernel_rfl
theorem storeFormatsVid : varsId Tryz.prog = 818 := by kernel_rfl
noncomputable def storeFormatsCode : Code := ((Tryz.prog.funcs[818]?).bind (·.body)).getD Code.skip
theorem storeFormatsVc : (Tryz.prog.funcs[818]?).bind (·.body) = some storeFormatsCode := by kernel_rfl
noncomputable def storeFormatsStored : List Nat := (storeFormatsCode.laysInOrder []).getD []
theorem storeFormatsVs : storeFormatsCode.laysInOrder [] = some storeFormatsStored := by kernel_rfl
theorem storeFormatsVa : Tryz.prog.callsLaidAlone 818 storeFormatsCode = true := by kernel_rfl
theorem storeFormatsTieN : varsNamedLaterB Tryz.prog (varsId Tryz.prog) storeFormatsLaid = true := by
  unfold varsNamedLaterB storeFormatsLaid
  rw [storeFormatsVid, storeFormatsVc]
  simp only [storeFormatsVs, storeFormatsVa, List.all_cons, List.all_nil, storeFormatsGn0, storeFormatsGn1, storeFormatsGn2, storeFormatsGn3, storeFormatsGn4, storeFormatsGn5, storeFormatsKb0, storeFormatsKb1, storeFormatsKb2, storeFormatsKb3, storeFormatsKb4, storeFormatsKb5, Option.any_some, Bool.and_true]
  kernel_rfl
theorem storeFormatsTieK : storeFormatsLaid.map (fun x => Tryz.prog.kindOfLater x.1) = ([.data, .data, .data, .data, .data, .data] : List LaidKind).map some := by
  unfold storeFormatsLaid
  simp only [List.map_cons, List.map_nil, storeFormatsKo0, storeFormatsKo1, storeFormatsKo2, storeFormatsKo3, storeFormatsKo4, storeFormatsKo5]
end Go.Proofs.YtfpiabkkelhgbaaGreatDoor
