/- What is known of calls: printed by program (wip/dx/Drv.lean). -/
import Derived.Test.YtfpiabkkelhgbaaGreatDoorDxTbYD0
namespace Go.X
open Go.Proofs
noncomputable section
set_option maxRecDepth 1000000
set_option maxHeartbeats 40000000
theorem Yc0 : chkPure (xp YM0 []) 20000 549 Ya0 Yv0 = true := by decide +kernel
theorem Yc23 : chkLoc (xp YM23 []) 20000 8 Ya23 Yp23 Yo23 = true := by decide +kernel
end
end Go.X
