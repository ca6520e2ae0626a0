/- What is known of calls: printed by program (wip/dx/Drv.lean). -/
import Derived.Test.YtbplpekmpoenaaaGreatDoorDxTbYD0
namespace Go.X
open Go.Proofs
noncomputable section
set_option maxRecDepth 1000000
set_option maxHeartbeats 40000000
theorem Yc0 : chkPure (xp YM0 []) 20000 466 Ya0 Yv0 = true := by decide +kernel
theorem Yc15 : chkLoc (xp YM15 []) 20000 185 Ya15 Yp15 Yo15 = true := by decide +kernel
theorem Yc17 : chkLoc (xp YM17 []) 20000 56 Ya17 Yp17 Yo17 = true := by decide +kernel
theorem Yc1 : chkLoc (xp YM1 []) 20000 189 Ya1 Yp1 Yo1 = true := by decide +kernel
theorem Yc22 : chkLoc (xp YM22 []) 20000 41 Ya22 Yp22 Yo22 = true := by decide +kernel
end
end Go.X
