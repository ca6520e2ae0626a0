/- The tie of JudgeNames's row: what it lists is what the program's text lays. -/
import Derived.Test.YtbplpekmpoenaaaGreatDoorRows
import Derived.LaidByTextLater
import Derived.SevenTiedAt
import Derived.LaidSub
import Derived.LaidOnce
namespace Go.Proofs.YtbplpekmpoenaaaGreatDoor
open Go
set_option maxRecDepth 100000
set_option maxHeartbeats 40000000
def judgeNamesLaid : List (String × DataW Unit) := [("drumlin/judge.names", Rows.laid_drumlin_judge_names), ("internal/strconv.uint64pow10", Rows.laid_internal_strconv_uint64pow10), ("math/bits.deBruijn32tab", Rows.laid_math_bits_deBruijn32tab), ("math/bits.deBruijn64tab", Rows.laid_math_bits_deBruijn64tab), ("unicode/utf8.acceptRanges", Rows.laid_unicode_utf8_acceptRanges), ("strconv.ErrSyntax", Rows.laid_strconv_ErrSyntax), ("strconv.ErrRange", Rows.laid_strconv_ErrRange), ("drumlin/slots.sealing", Rows.laid_drumlin_slots_sealing), ("drumlin/slots.choosing", Rows.laid_drumlin_slots_choosing), ("drumlin/slots.dropping", Rows.laid_drumlin_slots_dropping), ("drumlin/slots.loading", Rows.laid_drumlin_slots_loading), ("drumlin/audit.reopen", Rows.laid_drumlin_audit_reopen)]
theorem judgeNamesTieA : Tryz.prog.worded (varsWordLater true) = true := by kernel_rfl
theorem judgeNamesTieB : Tryz.prog.worded (varsWordLater !true) = false := by kernel_rfl
theorem judgeNamesTieC : Tryz.prog.worded rootWordLater = true := by kernel_rfl
theorem judgeNamesTieK : judgeNamesLaid.map (fun x => Tryz.prog.kindOfLater x.1) = ([.data, .data, .data, .data, .data, .sentinel, .sentinel, .data, .data, .data, .data, .data] : List LaidKind).map some := by kernel_rfl
theorem judgeNamesTieG : (Tryz.prog.funcNamed "gosem.cut.vars").isSome = true := by kernel_rfl
theorem judgeNamesTieN : varsNamedLaterB Tryz.prog (varsId Tryz.prog) judgeNamesLaid = true := by kernel_rfl
theorem judgeNamesTieR : ∀ os tape, doorLeaves Tryz.prog 400 8 65 judgeNamesLaid os tape = some (judgeNamesLaid.filter fun x => x.2.handleName?.isNone, (funcsListed judgeNamesLaid).map (·.2.funcsOut)) := fun _ _ => by kernel_rfl
theorem judgeNamesTie : Tryz.prog.laidByTextLater judgeNamesLaid [.data, .data, .data, .data, .data, .sentinel, .sentinel, .data, .data, .data, .data, .data] true := Program.laidByTextLater_by_one 400 8 65 judgeNamesTieA judgeNamesTieB judgeNamesTieC judgeNamesTieK judgeNamesTieG judgeNamesTieN judgeNamesTieR
theorem judgeNamesNoOwn : Tryz.pinned.checked.prog.headLifts.contains "ownunsafe" = false := by kernel_rfl
theorem judgeNamesPin0 : Tryz.pinned.checked.prog.pinnedFits "unicode/utf8.first" = true := by kernel_rfl
theorem judgeNamesFits : Tryz.pinned.checked.prog.listedFits [("drumlin/judge.names", Rows.laid_drumlin_judge_names), ("internal/strconv.uint64pow10", Rows.laid_internal_strconv_uint64pow10), ("math/bits.deBruijn32tab", Rows.laid_math_bits_deBruijn32tab), ("math/bits.deBruijn64tab", Rows.laid_math_bits_deBruijn64tab), ("unicode/utf8.first", Rows.laid_unicode_utf8_first), ("unicode/utf8.acceptRanges", Rows.laid_unicode_utf8_acceptRanges), ("strconv.ErrSyntax", Rows.laid_strconv_ErrSyntax), ("strconv.ErrRange", Rows.laid_strconv_ErrRange), ("drumlin/slots.sealing", Rows.laid_drumlin_slots_sealing), ("drumlin/slots.choosing", Rows.laid_drumlin_slots_choosing), ("drumlin/slots.dropping", Rows.laid_drumlin_slots_dropping), ("drumlin/slots.loading", Rows.laid_drumlin_slots_loading), ("drumlin/audit.reopen", Rows.laid_drumlin_audit_reopen)] = true := by
  unfold Program.listedFits
  rw [judgeNamesNoOwn]
  kernel_rfl
theorem judgeNames_row_tie : Rows.judgeNamesRow.laidByTextAt .later Tryz.pinned [.data, .data, .data, .data, .pinned, .data, .sentinel, .sentinel, .data, .data, .data, .data, .data] true :=
  OpenClaim.laidByTextAt_pinned rfl rfl judgeNamesTie rfl rfl rfl rfl (fun y hy _e => by
    simp only [Rows.judgeNamesRow, List.zip_cons_cons, List.zip_nil_right, List.mem_cons, List.mem_nil_iff, or_false] at hy
    rcases hy with rfl | rfl | rfl | rfl | rfl | rfl | rfl | rfl | rfl | rfl | rfl | rfl | rfl
    · cases _e
    · cases _e
    · cases _e
    · cases _e
    · exact ⟨judgeNamesPin0, by kernel_rfl⟩
    · cases _e
    · cases _e
    · cases _e
    · cases _e
    · cases _e
    · cases _e
    · cases _e
    · cases _e) judgeNamesFits
end Go.Proofs.YtbplpekmpoenaaaGreatDoor
