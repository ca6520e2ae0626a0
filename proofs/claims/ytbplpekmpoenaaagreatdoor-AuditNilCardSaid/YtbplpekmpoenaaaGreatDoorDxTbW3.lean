/- What is known of calls: printed by program (wip/dx/Drv.lean). -/
import Derived.Test.YtbplpekmpoenaaaGreatDoorDxTbWD0
namespace Go.X
open Go.Proofs
noncomputable section
set_option maxRecDepth 1000000
set_option maxHeartbeats 40000000
theorem Wc2 : chkLoc (xp WM2 []) 20000 12 Wa2 Wp2 Wo2 = true := by decide +kernel
end
end Go.X
