/- What is known of calls: printed by program (wip/dx/Drv.lean). -/
import Derived.Test.YtbplpekmpoenaaaGreatDoorDxTbWD0
namespace Go.X
open Go.Proofs
noncomputable section
set_option maxRecDepth 1000000
set_option maxHeartbeats 40000000
theorem Wc0 : chkLoc (xp WM0 []) 20000 18 Wa0 Wp0 Wo0 = true := by decide +kernel
theorem Wc3 : chkLoc (xp WM3 []) 20000 16 Wa3 Wp3 Wo3 = true := by decide +kernel
end
end Go.X
