/- What is known of calls: printed by program (wip/dx/Drv.lean). -/
import Derived.Test.YtfpiabkkelhgbaaGreatDoorDxTbYD1
namespace Go.X
open Go.Proofs
noncomputable section
set_option maxRecDepth 1000000
set_option maxHeartbeats 40000000
theorem Yc28 : chkLoc (xp YM28 YB40) 20000 45 Ya28 Yp28 Yo28 = true := by decide +kernel
theorem Yc27 : chkLoc (xp YM27 YB39) 20000 45 Ya27 Yp27 Yo27 = true := by decide +kernel
end
end Go.X
