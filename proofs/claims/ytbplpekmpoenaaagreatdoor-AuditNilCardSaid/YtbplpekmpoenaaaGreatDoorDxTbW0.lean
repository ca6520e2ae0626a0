/- What is known of calls: printed by program (wip/dx/Drv.lean). -/
import Derived.Test.YtbplpekmpoenaaaGreatDoorDxTbWD0
namespace Go.X
open Go.Proofs
noncomputable section
set_option maxRecDepth 1000000
set_option maxHeartbeats 40000000
theorem Wc4 : chkLoc (xp WM4 []) 20000 9 Wa4 Wp4 Wo4 = true := by decide +kernel
end
end Go.X
