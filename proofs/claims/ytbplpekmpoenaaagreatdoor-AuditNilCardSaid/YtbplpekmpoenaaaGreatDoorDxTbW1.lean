/- What is known of calls: printed by program (wip/dx/Drv.lean). -/
import Derived.Test.YtbplpekmpoenaaaGreatDoorDxTbWD0
namespace Go.X
open Go.Proofs
noncomputable section
set_option maxRecDepth 1000000
set_option maxHeartbeats 40000000
def WO0 : List OraE := []
def WL0 : List (List AV) := [[(.res 0 (.slLen 0 36))], [(.res 0 (.slLen 37 9223372036854775807))]]
theorem WT0 : chkTop (xp WMT WO0) 20000 3 ⟨14, RG⟩ WL0 = true := by decide +kernel
end
end Go.X
