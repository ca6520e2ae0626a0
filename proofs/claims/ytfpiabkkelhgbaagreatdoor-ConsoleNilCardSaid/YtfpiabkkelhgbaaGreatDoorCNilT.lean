/- The tie of ConsoleNil's row: what it lists is what the program's text lays. -/
import Derived.Test.YtfpiabkkelhgbaaGreatDoorRows
import Derived.Test.YtfpiabkkelhgbaaGreatDoorCNilS
import Derived.LaidByTextLater
import Derived.SevenTiedAt
import Derived.LaidSub
import Derived.LaidOnce
namespace Go.Proofs.YtfpiabkkelhgbaaGreatDoor
open Go
set_option maxRecDepth 100000
set_option maxHeartbeats 40000000
theorem consoleNilTieA : Tryz.prog.worded (varsWordLater true) = true := by kernel_rfl
theorem consoleNilTieB : Tryz.prog.worded (varsWordLater !true) = false := by kernel_rfl
theorem consoleNilTieC : Tryz.prog.worded rootWordLater = true := by kernel_rfl
theorem consoleNilTieG : (Tryz.prog.funcNamed "gosem.cut.vars").isSome = true := by kernel_rfl
theorem consoleNilTie : Tryz.prog.laidByTextLater consoleNilLaid [.data, .data, .data, .data, .sentinel, .sentinel, .data, .data, .data, .data, .data] true := Program.laidByTextLater_by_one 400 8 65 consoleNilTieA consoleNilTieB consoleNilTieC consoleNilTieK consoleNilTieG consoleNilTieN consoleNilTieR
theorem consoleNilNoOwn : Tryz.pinned.checked.prog.headLifts.contains "ownunsafe" = false := by kernel_rfl
theorem consoleNilPin0 : Tryz.pinned.checked.prog.pinnedFits "unicode/utf8.first" = true := by kernel_rfl
theorem consoleNilFits : Tryz.pinned.checked.prog.listedFits [("internal/strconv.uint64pow10", Rows.laid_internal_strconv_uint64pow10), ("math/bits.deBruijn32tab", Rows.laid_math_bits_deBruijn32tab), ("math/bits.deBruijn64tab", Rows.laid_math_bits_deBruijn64tab), ("unicode/utf8.first", Rows.laid_unicode_utf8_first), ("unicode/utf8.acceptRanges", Rows.laid_unicode_utf8_acceptRanges), ("strconv.ErrSyntax", Rows.laid_strconv_ErrSyntax), ("strconv.ErrRange", Rows.laid_strconv_ErrRange), ("drumlin/slots.sealing", Rows.laid_drumlin_slots_sealing), ("drumlin/slots.choosing", Rows.laid_drumlin_slots_choosing), ("drumlin/slots.dropping", Rows.laid_drumlin_slots_dropping), ("drumlin/slots.loading", Rows.laid_drumlin_slots_loading), ("drumlin/audit.reopen", Rows.laid_drumlin_audit_reopen)] = true := by
  unfold Program.listedFits
  rw [consoleNilNoOwn]
  kernel_rfl
theorem consoleNil_row_tie : Rows.consoleNilRow.laidByTextAt .later Tryz.pinned [.data, .data, .data, .pinned, .data, .sentinel, .sentinel, .data, .data, .data, .data, .data] true :=
  OpenClaim.laidByTextAt_pinned rfl rfl consoleNilTie rfl rfl rfl rfl (fun y hy _e => by
    simp only [Rows.consoleNilRow, List.zip_cons_cons, List.zip_nil_right, List.mem_cons, List.mem_nil_iff, or_false] at hy
    rcases hy with rfl | rfl | rfl | rfl | rfl | rfl | rfl | rfl | rfl | rfl | rfl | rfl
    · cases _e
    · cases _e
    · cases _e
    · exact ⟨consoleNilPin0, by kernel_rfl⟩
    · cases _e
    · cases _e
    · cases _e
    · cases _e
    · cases _e
    · cases _e
    · cases _e
    · cases _e) consoleNilFits
end Go.Proofs.YtfpiabkkelhgbaaGreatDoor
