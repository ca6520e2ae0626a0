/- The tie of AuditRefuses's row: what it lists is what the program's text lays. -/
import Derived.Test.YtbplpekmpoenaaaGreatDoorRows
import Derived.LaidByTextLater
import Derived.SevenTiedAt
import Derived.LaidSub
import Derived.LaidOnce
namespace Go.Proofs.YtbplpekmpoenaaaGreatDoor
open Go
set_option maxRecDepth 100000
set_option maxHeartbeats 40000000
def auditRefusesLaid : List (String × DataW Unit) := [("math/bits.deBruijn64tab", Rows.laid_math_bits_deBruijn64tab), ("drumlin/slots.sealing", Rows.laid_drumlin_slots_sealing), ("math/bits.deBruijn32tab", Rows.laid_math_bits_deBruijn32tab), ("drumlin/slots.choosing", Rows.laid_drumlin_slots_choosing), ("drumlin/slots.dropping", Rows.laid_drumlin_slots_dropping), ("internal/strconv.uint64pow10", Rows.laid_internal_strconv_uint64pow10), ("unicode/utf8.acceptRanges", Rows.laid_unicode_utf8_acceptRanges), ("strconv.ErrSyntax", Rows.laid_strconv_ErrSyntax), ("strconv.ErrRange", Rows.laid_strconv_ErrRange), ("drumlin/slots.loading", Rows.laid_drumlin_slots_loading), ("drumlin/audit.reopen", Rows.laid_drumlin_audit_reopen)]
theorem auditRefusesTieA : Tryz.prog.worded (varsWordLater true) = true := by kernel_rfl
theorem auditRefusesTieB : Tryz.prog.worded (varsWordLater !true) = false := by kernel_rfl
theorem auditRefusesTieC : Tryz.prog.worded rootWordLater = true := by kernel_rfl
theorem auditRefusesTieK : auditRefusesLaid.map (fun x => Tryz.prog.kindOfLater x.1) = ([.data, .data, .data, .data, .data, .data, .data, .sentinel, .sentinel, .data, .data] : List LaidKind).map some := by kernel_rfl
theorem auditRefusesTieG : (Tryz.prog.funcNamed "gosem.cut.vars").isSome = true := by kernel_rfl
theorem auditRefusesTieN : varsNamedLaterB Tryz.prog (varsId Tryz.prog) auditRefusesLaid = true := by kernel_rfl
theorem auditRefusesTieR : ∀ os tape, doorLeaves Tryz.prog 400 8 65 auditRefusesLaid os tape = some (auditRefusesLaid.filter fun x => x.2.handleName?.isNone, (funcsListed auditRefusesLaid).map (·.2.funcsOut)) := fun _ _ => by kernel_rfl
theorem auditRefusesTie : Tryz.prog.laidByTextLater auditRefusesLaid [.data, .data, .data, .data, .data, .data, .data, .sentinel, .sentinel, .data, .data] true := Program.laidByTextLater_by_one 400 8 65 auditRefusesTieA auditRefusesTieB auditRefusesTieC auditRefusesTieK auditRefusesTieG auditRefusesTieN auditRefusesTieR
theorem auditRefusesNoOwn : Tryz.pinned.checked.prog.headLifts.contains "ownunsafe" = false := by kernel_rfl
theorem auditRefusesPin0 : Tryz.pinned.checked.prog.pinnedFits "unicode/utf8.first" = true := by kernel_rfl
theorem auditRefusesFits : Tryz.pinned.checked.prog.listedFits [("math/bits.deBruijn64tab", Rows.laid_math_bits_deBruijn64tab), ("drumlin/slots.sealing", Rows.laid_drumlin_slots_sealing), ("math/bits.deBruijn32tab", Rows.laid_math_bits_deBruijn32tab), ("drumlin/slots.choosing", Rows.laid_drumlin_slots_choosing), ("drumlin/slots.dropping", Rows.laid_drumlin_slots_dropping), ("internal/strconv.uint64pow10", Rows.laid_internal_strconv_uint64pow10), ("unicode/utf8.first", Rows.laid_unicode_utf8_first), ("unicode/utf8.acceptRanges", Rows.laid_unicode_utf8_acceptRanges), ("strconv.ErrSyntax", Rows.laid_strconv_ErrSyntax), ("strconv.ErrRange", Rows.laid_strconv_ErrRange), ("drumlin/slots.loading", Rows.laid_drumlin_slots_loading), ("drumlin/audit.reopen", Rows.laid_drumlin_audit_reopen)] = true := by
  unfold Program.listedFits
  rw [auditRefusesNoOwn]
  kernel_rfl
theorem auditRefuses_row_tie : Rows.auditRefusesRow.laidByTextAt .later Tryz.pinned [.data, .data, .data, .data, .data, .data, .pinned, .data, .sentinel, .sentinel, .data, .data] true :=
  OpenClaim.laidByTextAt_pinned rfl rfl auditRefusesTie rfl rfl rfl rfl (fun y hy _e => by
    simp only [Rows.auditRefusesRow, List.zip_cons_cons, List.zip_nil_right, List.mem_cons, List.mem_nil_iff, or_false] at hy
    rcases hy with rfl | rfl | rfl | rfl | rfl | rfl | rfl | rfl | rfl | rfl | rfl | rfl
    · cases _e
    · cases _e
    · cases _e
    · cases _e
    · cases _e
    · cases _e
    · exact ⟨auditRefusesPin0, by kernel_rfl⟩
    · cases _e
    · cases _e
    · cases _e
    · cases _e
    · cases _e) auditRefusesFits
end Go.Proofs.YtbplpekmpoenaaaGreatDoor
