/- What is known of calls: printed by program (wip/dx/Drv.lean). -/
import Derived.Test.YtfpiabkkelhgbaaGreatDoorDxTbYD0
namespace Go.X
open Go.Proofs
noncomputable section
set_option maxRecDepth 1000000
set_option maxHeartbeats 40000000
theorem Yc22 : chkLoc (xp YM22 []) 20000 178 Ya22 Yp22 Yo22 = true := by decide +kernel
theorem Yc6 : chkLoc (xp YM6 []) 20000 14 Ya6 Yp6 Yo6 = true := by decide +kernel
theorem Yc8 : chkLoc (xp YM8 []) 20000 14 Ya8 Yp8 Yo8 = true := by decide +kernel
end
end Go.X
