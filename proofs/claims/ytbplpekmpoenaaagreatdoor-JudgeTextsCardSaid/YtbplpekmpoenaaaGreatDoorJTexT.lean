/- The tie of JudgeTexts's row: what it lists is what the program's text lays. -/
import Derived.Test.YtbplpekmpoenaaaGreatDoorRows
import Derived.LaidByTextLater
import Derived.SevenTiedAt
import Derived.LaidSub
import Derived.LaidOnce
namespace Go.Proofs.YtbplpekmpoenaaaGreatDoor
open Go
set_option maxRecDepth 100000
set_option maxHeartbeats 40000000
def judgeTextsLaid : List (String × DataW Unit) := [("internal/strconv.uint64pow10", Rows.laid_internal_strconv_uint64pow10), ("math/bits.deBruijn32tab", Rows.laid_math_bits_deBruijn32tab), ("math/bits.deBruijn64tab", Rows.laid_math_bits_deBruijn64tab), ("unicode/utf8.acceptRanges", Rows.laid_unicode_utf8_acceptRanges), ("strconv.ErrSyntax", Rows.laid_strconv_ErrSyntax), ("strconv.ErrRange", Rows.laid_strconv_ErrRange), ("drumlin/slots.sealing", Rows.laid_drumlin_slots_sealing), ("drumlin/slots.choosing", Rows.laid_drumlin_slots_choosing), ("drumlin/slots.dropping", Rows.laid_drumlin_slots_dropping), ("drumlin/slots.loading", Rows.laid_drumlin_slots_loading), ("drumlin/audit.reopen", Rows.laid_drumlin_audit_reopen), ("drumlin/judge.names", Rows.laid_drumlin_judge_names)]
theorem judgeTextsTieA : Tryz.prog.worded (varsWordLater true) = true := by kernel_rfl
theorem judgeTextsTieB : Tryz.prog.worded (varsWordLater !true) = false := by kernel_rfl
theorem judgeTextsTieC : Tryz.prog.worded rootWordLater = true := by kernel_rfl
theorem judgeTextsTieK : judgeTextsLaid.map (fun x => Tryz.prog.kindOfLater x.1) = ([.data, .data, .data, .data, .sentinel, .sentinel, .data, .data, .data, .data, .data, .data] : List LaidKind).map some := by kernel_rfl
theorem judgeTextsTieG : (Tryz.prog.funcNamed "gosem.cut.vars").isSome = true := by kernel_rfl
theorem judgeTextsTieN : varsNamedLaterB Tryz.prog (varsId Tryz.prog) judgeTextsLaid = true := by kernel_rfl
theorem judgeTextsTieR : ∀ os tape, doorLeaves Tryz.prog 400 8 65 judgeTextsLaid os tape = some (judgeTextsLaid.filter fun x => x.2.handleName?.isNone, (funcsListed judgeTextsLaid).map (·.2.funcsOut)) := fun _ _ => by kernel_rfl
theorem judgeTextsTie : Tryz.prog.laidByTextLater judgeTextsLaid [.data, .data, .data, .data, .sentinel, .sentinel, .data, .data, .data, .data, .data, .data] true := Program.laidByTextLater_by_one 400 8 65 judgeTextsTieA judgeTextsTieB judgeTextsTieC judgeTextsTieK judgeTextsTieG judgeTextsTieN judgeTextsTieR
theorem judgeTextsNoOwn : Tryz.pinned.checked.prog.headLifts.contains "ownunsafe" = false := by kernel_rfl
theorem judgeTextsPin0 : Tryz.pinned.checked.prog.pinnedFits "unicode/utf8.first" = true := by kernel_rfl
theorem judgeTextsFits : Tryz.pinned.checked.prog.listedFits [("internal/strconv.uint64pow10", Rows.laid_internal_strconv_uint64pow10), ("math/bits.deBruijn32tab", Rows.laid_math_bits_deBruijn32tab), ("math/bits.deBruijn64tab", Rows.laid_math_bits_deBruijn64tab), ("unicode/utf8.first", Rows.laid_unicode_utf8_first), ("unicode/utf8.acceptRanges", Rows.laid_unicode_utf8_acceptRanges), ("strconv.ErrSyntax", Rows.laid_strconv_ErrSyntax), ("strconv.ErrRange", Rows.laid_strconv_ErrRange), ("drumlin/slots.sealing", Rows.laid_drumlin_slots_sealing), ("drumlin/slots.choosing", Rows.laid_drumlin_slots_choosing), ("drumlin/slots.dropping", Rows.laid_drumlin_slots_dropping), ("drumlin/slots.loading", Rows.laid_drumlin_slots_loading), ("drumlin/audit.reopen", Rows.laid_drumlin_audit_reopen), ("drumlin/judge.names", Rows.laid_drumlin_judge_names)] = true := by
  unfold Program.listedFits
  rw [judgeTextsNoOwn]
  kernel_rfl
theorem judgeTexts_row_tie : Rows.judgeTextsRow.laidByTextAt .later Tryz.pinned [.data, .data, .data, .pinned, .data, .sentinel, .sentinel, .data, .data, .data, .data, .data, .data] true :=
  OpenClaim.laidByTextAt_pinned rfl rfl judgeTextsTie rfl rfl rfl rfl (fun y hy _e => by
    simp only [Rows.judgeTextsRow, List.zip_cons_cons, List.zip_nil_right, List.mem_cons, List.mem_nil_iff, or_false] at hy
    rcases hy with rfl | rfl | rfl | rfl | rfl | rfl | rfl | rfl | rfl | rfl | rfl | rfl | rfl
    · cases _e
    · cases _e
    · cases _e
    · exact ⟨judgeTextsPin0, by kernel_rfl⟩
    · cases _e
    · cases _e
    · cases _e
    · cases _e
    · cases _e
    · cases _e
    · cases _e
    · cases _e
    · cases _e) judgeTextsFits
end Go.Proofs.YtbplpekmpoenaaaGreatDoor
