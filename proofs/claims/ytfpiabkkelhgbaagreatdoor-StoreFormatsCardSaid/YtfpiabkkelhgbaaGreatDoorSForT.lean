/- The tie of StoreFormats's row: what it lists is what the program's text lays. -/
import Derived.Test.YtfpiabkkelhgbaaGreatDoorRows
import Derived.Test.YtfpiabkkelhgbaaGreatDoorSForS
import Derived.LaidByTextLater
import Derived.SevenTiedAt
import Derived.LaidSub
import Derived.LaidOnce
namespace Go.Proofs.YtfpiabkkelhgbaaGreatDoor
open Go
set_option maxRecDepth 100000
set_option maxHeartbeats 40000000
theorem storeFormatsTieA : Tryz.prog.worded (varsWordLater true) = true := by kernel_rfl
theorem storeFormatsTieB : Tryz.prog.worded (varsWordLater !true) = false := by kernel_rfl
theorem storeFormatsTieC : Tryz.prog.worded rootWordLater = true := by kernel_rfl
theorem storeFormatsTieG : (Tryz.prog.funcNamed "gosem.cut.vars").isSome = true := by kernel_rfl
theorem storeFormatsTie : Tryz.prog.laidByTextLater storeFormatsLaid [.data, .data, .data, .data, .data, .data] true := Program.laidByTextLater_by_one 400 8 65 storeFormatsTieA storeFormatsTieB storeFormatsTieC storeFormatsTieK storeFormatsTieG storeFormatsTieN storeFormatsTieR
theorem storeFormatsNoOwn : Tryz.pinned.checked.prog.headLifts.contains "ownunsafe" = false := by kernel_rfl
theorem storeFormats_row_tie : Rows.storeFormatsRow.laidByTextAt .later Tryz.pinned [.data, .data, .data, .data, .data, .data] true :=
  OpenClaim.laidByTextAt_later rfl rfl storeFormatsTie storeFormatsNoOwn
end Go.Proofs.YtfpiabkkelhgbaaGreatDoor
