/- What is known of calls: printed by program (wip/dx/Drv.lean). -/
import Derived.Test.YtbplpekmpoenaaaGreatDoorDxTbWD0
namespace Go.X
open Go.Proofs
noncomputable section
set_option maxRecDepth 1000000
set_option maxHeartbeats 40000000
theorem Wc1 : chkLoc (xp WM1 []) 20000 16 Wa1 Wp1 Wo1 = true := by decide +kernel
end
end Go.X
