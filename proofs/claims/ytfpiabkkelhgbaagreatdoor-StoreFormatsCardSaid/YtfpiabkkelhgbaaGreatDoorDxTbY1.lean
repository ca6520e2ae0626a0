/- What is known of calls: printed by program (wip/dx/Drv.lean). -/
import Derived.Test.YtfpiabkkelhgbaaGreatDoorDxTbYD0
namespace Go.X
open Go.Proofs
noncomputable section
set_option maxRecDepth 1000000
set_option maxHeartbeats 40000000
theorem Yc16 : chkLoc (xp YM16 []) 20000 370 Ya16 Yp16 Yo16 = true := by decide +kernel
theorem Yc20 : chkLoc (xp YM20 []) 20000 14 Ya20 Yp20 Yo20 = true := by decide +kernel
theorem Yc10 : chkLoc (xp YM10 []) 20000 237 Ya10 Yp10 Yo10 = true := by decide +kernel
theorem Yc11 : chkLoc (xp YM11 []) 20000 237 Ya11 Yp11 Yo11 = true := by decide +kernel
theorem Yc5 : chkLoc (xp YM5 []) 20000 237 Ya5 Yp5 Yo5 = true := by decide +kernel
theorem Yc7 : chkLoc (xp YM7 []) 20000 237 Ya7 Yp7 Yo7 = true := by decide +kernel
theorem Yc15 : chkLoc (xp YM15 []) 20000 502 Ya15 Yp15 Yo15 = true := by decide +kernel
end
end Go.X
