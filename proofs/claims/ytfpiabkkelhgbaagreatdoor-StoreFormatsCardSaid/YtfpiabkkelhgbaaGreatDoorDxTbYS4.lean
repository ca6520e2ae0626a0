/- What is known of calls: printed by program (wip/dx/Drv.lean). -/
import Derived.Test.YtfpiabkkelhgbaaGreatDoorDxTbYD1
namespace Go.X
open Go.Proofs
noncomputable section
set_option maxRecDepth 1000000
set_option maxHeartbeats 40000000
theorem Yc24 : chkLoc (xp YM24 YB36) 20000 45 Ya24 Yp24 Yo24 = true := by decide +kernel
end
end Go.X
