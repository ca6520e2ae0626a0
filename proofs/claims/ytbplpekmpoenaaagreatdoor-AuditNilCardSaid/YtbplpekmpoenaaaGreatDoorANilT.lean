/- The tie of AuditNil's row: what it lists is what the program's text lays. -/
import Derived.Test.YtbplpekmpoenaaaGreatDoorRows
import Derived.LaidByTextLater
import Derived.SevenTiedAt
import Derived.LaidSub
import Derived.LaidOnce
namespace Go.Proofs.YtbplpekmpoenaaaGreatDoor
open Go
set_option maxRecDepth 100000
set_option maxHeartbeats 40000000
def auditNilLaid : List (String × DataW Unit) := [("math/bits.deBruijn64tab", Rows.laid_math_bits_deBruijn64tab), ("drumlin/slots.sealing", Rows.laid_drumlin_slots_sealing), ("math/bits.deBruijn32tab", Rows.laid_math_bits_deBruijn32tab), ("drumlin/slots.choosing", Rows.laid_drumlin_slots_choosing), ("drumlin/slots.dropping", Rows.laid_drumlin_slots_dropping), ("internal/strconv.uint64pow10", Rows.laid_internal_strconv_uint64pow10), ("unicode/utf8.acceptRanges", Rows.laid_unicode_utf8_acceptRanges), ("strconv.ErrSyntax", Rows.laid_strconv_ErrSyntax), ("strconv.ErrRange", Rows.laid_strconv_ErrRange), ("drumlin/slots.loading", Rows.laid_drumlin_slots_loading), ("drumlin/audit.reopen", Rows.laid_drumlin_audit_reopen)]
theorem auditNilTieA : Tryz.prog.worded (varsWordLater true) = true := by kernel_rfl
theorem auditNilTieB : Tryz.prog.worded (varsWordLater !true) = false := by kernel_rfl
theorem auditNilTieC : Tryz.prog.worded rootWordLater = true := by kernel_rfl
theorem auditNilTieK : auditNilLaid.map (fun x => Tryz.prog.kindOfLater x.1) = ([.data, .data, .data, .data, .data, .data, .data, .sentinel, .sentinel, .data, .data] : List LaidKind).map some := by kernel_rfl
theorem auditNilTieG : (Tryz.prog.funcNamed "gosem.cut.vars").isSome = true := by kernel_rfl
theorem auditNilTieN : varsNamedLaterB Tryz.prog (varsId Tryz.prog) auditNilLaid = true := by kernel_rfl
theorem auditNilTieR : ∀ os tape, doorLeaves Tryz.prog 400 8 65 auditNilLaid os tape = some (auditNilLaid.filter fun x => x.2.handleName?.isNone, (funcsListed auditNilLaid).map (·.2.funcsOut)) := fun _ _ => by kernel_rfl
theorem auditNilTie : Tryz.prog.laidByTextLater auditNilLaid [.data, .data, .data, .data, .data, .data, .data, .sentinel, .sentinel, .data, .data] true := Program.laidByTextLater_by_one 400 8 65 auditNilTieA auditNilTieB auditNilTieC auditNilTieK auditNilTieG auditNilTieN auditNilTieR
theorem auditNilNoOwn : Tryz.pinned.checked.prog.headLifts.contains "ownunsafe" = false := by kernel_rfl
theorem auditNilPin0 : Tryz.pinned.checked.prog.pinnedFits "unicode/utf8.first" = true := by kernel_rfl
theorem auditNilFits : Tryz.pinned.checked.prog.listedFits [("math/bits.deBruijn64tab", Rows.laid_math_bits_deBruijn64tab), ("drumlin/slots.sealing", Rows.laid_drumlin_slots_sealing), ("math/bits.deBruijn32tab", Rows.laid_math_bits_deBruijn32tab), ("drumlin/slots.choosing", Rows.laid_drumlin_slots_choosing), ("drumlin/slots.dropping", Rows.laid_drumlin_slots_dropping), ("internal/strconv.uint64pow10", Rows.laid_internal_strconv_uint64pow10), ("unicode/utf8.first", Rows.laid_unicode_utf8_first), ("unicode/utf8.acceptRanges", Rows.laid_unicode_utf8_acceptRanges), ("strconv.ErrSyntax", Rows.laid_strconv_ErrSyntax), ("strconv.ErrRange", Rows.laid_strconv_ErrRange), ("drumlin/slots.loading", Rows.laid_drumlin_slots_loading), ("drumlin/audit.reopen", Rows.laid_drumlin_audit_reopen)] = true := by
  unfold Program.listedFits
  rw [auditNilNoOwn]
  kernel_rfl
theorem auditNil_row_tie : Rows.auditNilRow.laidByTextAt .later Tryz.pinned [.data, .data, .data, .data, .data, .data, .pinned, .data, .sentinel, .sentinel, .data, .data] true :=
  OpenClaim.laidByTextAt_pinned rfl rfl auditNilTie rfl rfl rfl rfl (fun y hy _e => by
    simp only [Rows.auditNilRow, List.zip_cons_cons, List.zip_nil_right, List.mem_cons, List.mem_nil_iff, or_false] at hy
    rcases hy with rfl | rfl | rfl | rfl | rfl | rfl | rfl | rfl | rfl | rfl | rfl | rfl
    · cases _e
    · cases _e
    · cases _e
    · cases _e
    · cases _e
    · cases _e
    · exact ⟨auditNilPin0, by kernel_rfl⟩
    · cases _e
    · cases _e
    · cases _e
    · cases _e
    · cases _e) auditNilFits
end Go.Proofs.YtbplpekmpoenaaaGreatDoor
