/- What is known of calls: printed by program (wip/dx/Drv.lean). -/
import Derived.Test.YtbplpekmpoenaaaGreatDoorDxTbYD0
namespace Go.X
open Go.Proofs
noncomputable section
set_option maxRecDepth 1000000
set_option maxHeartbeats 40000000
theorem Yc77 : chkLoc (xp YM77 []) 20000 185 Ya77 Yp77 Yo77 = true := by decide +kernel
theorem Yc88 : chkLoc (xp YM88 []) 20000 185 Ya88 Yp88 Yo88 = true := by decide +kernel
theorem Yc92 : chkLoc (xp YM92 []) 20000 185 Ya92 Yp92 Yo92 = true := by decide +kernel
theorem Yc103 : chkLoc (xp YM103 []) 20000 185 Ya103 Yp103 Yo103 = true := by decide +kernel
theorem Yc49 : chkLoc (xp YM49 []) 20000 185 Ya49 Yp49 Yo49 = true := by decide +kernel
theorem Yc107 : chkLoc (xp YM107 []) 20000 185 Ya107 Yp107 Yo107 = true := by decide +kernel
theorem Yc38 : chkLoc (xp YM38 []) 20000 28 Ya38 Yp38 Yo38 = true := by decide +kernel
end
end Go.X
