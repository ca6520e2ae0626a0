/- What is known of calls: printed by program (wip/dx/Drv.lean). -/
import Derived.Test.YtbplpekmpoenaaaGreatDoorDxTbRD0
namespace Go.X
open Go.Proofs
noncomputable section
set_option maxRecDepth 1000000
set_option maxHeartbeats 40000000
theorem Rc79 : chkLoc (xp RM79 []) 20000 185 Ra79 Rp79 Ro79 = true := by decide +kernel
theorem Rc94 : chkLoc (xp RM94 []) 20000 185 Ra94 Rp94 Ro94 = true := by decide +kernel
theorem Rc70 : chkLoc (xp RM70 []) 20000 185 Ra70 Rp70 Ro70 = true := by decide +kernel
theorem Rc55 : chkLoc (xp RM55 []) 20000 185 Ra55 Rp55 Ro55 = true := by decide +kernel
theorem Rc25 : chkLoc (xp RM25 []) 20000 301 Ra25 Rp25 Ro25 = true := by decide +kernel
end
end Go.X
