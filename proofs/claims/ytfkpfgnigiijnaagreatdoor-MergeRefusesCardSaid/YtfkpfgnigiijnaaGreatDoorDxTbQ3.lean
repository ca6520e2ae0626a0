/- What is known of calls: printed by program (wip/dx/Drv.lean). -/
import Derived.Test.YtfkpfgnigiijnaaGreatDoorDxTbQD0
namespace Go.X
open Go.Proofs
noncomputable section
set_option maxRecDepth 1000000
set_option maxHeartbeats 40000000
def QO0 : List OraE := []
def QL0 : List (List AV) := [[]]
theorem QT0 : Zld (xp QMT QO0) 20000 23 ⟨7, QG⟩ QL0 = true := by decide +kernel
end
end Go.X
