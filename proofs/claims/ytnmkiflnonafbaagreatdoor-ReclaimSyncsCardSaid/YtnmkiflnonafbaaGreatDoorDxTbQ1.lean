/- What is known of calls: printed by program (wip/dx/Drv.lean). -/
import Derived.Test.YtnmkiflnonafbaaGreatDoorDxTbQD0
namespace Go.X
open Go.Proofs
noncomputable section
set_option maxRecDepth 1000000
set_option maxHeartbeats 40000000
def QO0 : List OraE := []
def QL0 : List (List AV) := [[]]
theorem QT0 : chkTop (xp QMT QO0) 20000 12 ⟨4, QG⟩ QL0 = true := by decide +kernel
end
end Go.X
