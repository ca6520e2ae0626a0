/- What is known of calls: printed by program (wip/dx/Drv.lean). -/
import Derived.Test.YtfpiabkkelhgbaaGreatDoorDxTbYD0
namespace Go.X
open Go.Proofs
noncomputable section
set_option maxRecDepth 1000000
set_option maxHeartbeats 40000000
theorem Yc4 : chkLoc (xp YM4 []) 20000 237 Ya4 Yp4 Yo4 = true := by decide +kernel
theorem Yc17 : chkLoc (xp YM17 []) 20000 154 Ya17 Yp17 Yo17 = true := by decide +kernel
theorem Yc3 : chkLoc (xp YM3 []) 20000 14 Ya3 Yp3 Yo3 = true := by decide +kernel
theorem Yc18 : chkLoc (xp YM18 []) 20000 504 Ya18 Yp18 Yo18 = true := by decide +kernel
theorem Yc9 : chkLoc (xp YM9 []) 20000 350 Ya9 Yp9 Yo9 = true := by decide +kernel
theorem Yc13 : chkLoc (xp YM13 []) 20000 501 Ya13 Yp13 Yo13 = true := by decide +kernel
theorem Yc14 : chkLoc (xp YM14 []) 20000 501 Ya14 Yp14 Yo14 = true := by decide +kernel
theorem Yc21 : chkLoc (xp YM21 []) 20000 501 Ya21 Yp21 Yo21 = true := by decide +kernel
theorem Yc12 : chkLoc (xp YM12 []) 20000 14 Ya12 Yp12 Yo12 = true := by decide +kernel
theorem Yc1 : chkLoc (xp YM1 []) 20000 178 Ya1 Yp1 Yo1 = true := by decide +kernel
theorem Yc2 : chkLoc (xp YM2 []) 20000 178 Ya2 Yp2 Yo2 = true := by decide +kernel
theorem Yc19 : chkLoc (xp YM19 []) 20000 178 Ya19 Yp19 Yo19 = true := by decide +kernel
end
end Go.X
