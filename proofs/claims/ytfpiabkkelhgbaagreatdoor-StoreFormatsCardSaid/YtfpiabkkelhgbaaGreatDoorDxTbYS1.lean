/- What is known of calls: printed by program (wip/dx/Drv.lean). -/
import Derived.Test.YtfpiabkkelhgbaaGreatDoorDxTbYD1
namespace Go.X
open Go.Proofs
noncomputable section
set_option maxRecDepth 1000000
set_option maxHeartbeats 40000000
theorem Yc31 : chkLoc (xp YM31 YB43) 20000 45 Ya31 Yp31 Yo31 = true := by decide +kernel
theorem Yc30 : chkLoc (xp YM30 YB42) 20000 45 Ya30 Yp30 Yo30 = true := by decide +kernel
end
end Go.X
