/- What is known of calls: printed by program (wip/dx/Drv.lean). -/
import Derived.Test.YtfpiabkkelhgbaaGreatDoorDxTbYD1
namespace Go.X
open Go.Proofs
noncomputable section
set_option maxRecDepth 1000000
set_option maxHeartbeats 40000000
theorem Yc32 : chkLoc (xp YM32 YB44) 20000 45 Ya32 Yp32 Yo32 = true := by decide +kernel
theorem Yc29 : chkLoc (xp YM29 YB41) 20000 45 Ya29 Yp29 Yo29 = true := by decide +kernel
end
end Go.X
