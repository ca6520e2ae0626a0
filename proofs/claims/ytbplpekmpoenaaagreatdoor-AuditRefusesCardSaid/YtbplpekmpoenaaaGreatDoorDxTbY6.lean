/- What is known of calls: printed by program (wip/dx/Drv.lean). -/
import Derived.Test.YtbplpekmpoenaaaGreatDoorDxTbYD0
namespace Go.X
open Go.Proofs
noncomputable section
set_option maxRecDepth 1000000
set_option maxHeartbeats 40000000
theorem Yc28 : chkLoc (xp YM28 []) 20000 361 Ya28 Yp28 Yo28 = true := by decide +kernel
theorem Yc48 : chkLoc (xp YM48 []) 20000 361 Ya48 Yp48 Yo48 = true := by decide +kernel
theorem Yc80 : chkLoc (xp YM80 []) 20000 361 Ya80 Yp80 Yo80 = true := by decide +kernel
theorem Yc95 : chkLoc (xp YM95 []) 20000 361 Ya95 Yp95 Yo95 = true := by decide +kernel
theorem Yc71 : chkLoc (xp YM71 []) 20000 361 Ya71 Yp71 Yo71 = true := by decide +kernel
theorem Yc23 : chkLoc (xp YM23 []) 20000 355 Ya23 Yp23 Yo23 = true := by decide +kernel
theorem Yc33 : chkLoc (xp YM33 []) 20000 355 Ya33 Yp33 Yo33 = true := by decide +kernel
theorem Yc2 : chkLoc (xp YM2 []) 20000 355 Ya2 Yp2 Yo2 = true := by decide +kernel
theorem Yc27 : chkLoc (xp YM27 []) 20000 303 Ya27 Yp27 Yo27 = true := by decide +kernel
theorem Yc121 : chkLoc (xp YM121 []) 20000 9 Ya121 Yp121 Yo121 = true := by decide +kernel
theorem Yc21 : chkLoc (xp YM21 []) 20000 28 Ya21 Yp21 Yo21 = true := by decide +kernel
theorem Yc73 : chkLoc (xp YM73 []) 20000 44 Ya73 Yp73 Yo73 = true := by decide +kernel
end
end Go.X
