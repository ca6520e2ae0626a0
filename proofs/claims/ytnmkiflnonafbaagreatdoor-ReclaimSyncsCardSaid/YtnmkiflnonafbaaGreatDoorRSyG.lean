/- Of the program's table of types: three closed facts, out of what was checked. -/
import Derived.Test.YtnmkiflnonafbaaGreatDoorRows
import Derived.Test.YtnmkiflnonafbaaGreatDoorChecked
import Derived.Stop.Joined
import Derived.SevenTiedAt
import Derived.ClosedOfChecked
namespace Go.Proofs.YtnmkiflnonafbaaGreatDoor.reclaimSyncs
set_option maxRecDepth 100000
set_option maxHeartbeats 40000000
theorem tables : laidOutB Tryz.prog = true ∧ mapsRowed Tryz.prog = true ∧ Tryz.prog.plainKeys = true := ClosedOfChecked.closed_of_checked Tryz.checked (by kernel_rfl) (by kernel_rfl) (by kernel_rfl)
theorem fPk : (Rows.reclaimSyncsRow.plainKeys == Tryz.prog.plainKeys) = true := by rw [tables.2.2]; rfl
end Go.Proofs.YtnmkiflnonafbaaGreatDoor.reclaimSyncs
