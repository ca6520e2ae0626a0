/- What is known of calls: printed by program (wip/dx/Drv.lean). -/
import Derived.Test.YtbplpekmpoenaaaGreatDoorDxTbYD0
namespace Go.X
open Go.Proofs
noncomputable section
set_option maxRecDepth 1000000
set_option maxHeartbeats 40000000
theorem Yc10 : chkLoc (xp YM10 []) 20000 524 Ya10 Yp10 Yo10 = true := by decide +kernel
theorem Yc11 : chkLoc (xp YM11 []) 20000 524 Ya11 Yp11 Yo11 = true := by decide +kernel
theorem Yc54 : chkLoc (xp YM54 []) 20000 524 Ya54 Yp54 Yo54 = true := by decide +kernel
theorem Yc12 : chkLoc (xp YM12 []) 20000 31 Ya12 Yp12 Yo12 = true := by decide +kernel
theorem Yc37 : chkLoc (xp YM37 []) 20000 355 Ya37 Yp37 Yo37 = true := by decide +kernel
theorem Yc42 : chkLoc (xp YM42 []) 20000 355 Ya42 Yp42 Yo42 = true := by decide +kernel
theorem Yc7 : chkLoc (xp YM7 []) 20000 355 Ya7 Yp7 Yo7 = true := by decide +kernel
theorem Yc47 : chkLoc (xp YM47 []) 20000 371 Ya47 Yp47 Yo47 = true := by decide +kernel
theorem Yc55 : chkLoc (xp YM55 []) 20000 371 Ya55 Yp55 Yo55 = true := by decide +kernel
theorem Yc5 : chkLoc (xp YM5 []) 20000 28 Ya5 Yp5 Yo5 = true := by decide +kernel
end
end Go.X
