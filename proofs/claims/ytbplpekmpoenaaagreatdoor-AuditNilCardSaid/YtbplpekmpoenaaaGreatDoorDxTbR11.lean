/- What is known of calls: printed by program (wip/dx/Drv.lean). -/
import Derived.Test.YtbplpekmpoenaaaGreatDoorDxTbRD0
namespace Go.X
open Go.Proofs
noncomputable section
set_option maxRecDepth 1000000
set_option maxHeartbeats 40000000
theorem Rc13 : chkLoc (xp RM13 []) 20000 373 Ra13 Rp13 Ro13 = true := by decide +kernel
theorem Rc89 : chkLoc (xp RM89 []) 20000 261 Ra89 Rp89 Ro89 = true := by decide +kernel
theorem Rc100 : chkLoc (xp RM100 []) 20000 261 Ra100 Rp100 Ro100 = true := by decide +kernel
theorem Rc74 : chkLoc (xp RM74 []) 20000 261 Ra74 Rp74 Ro74 = true := by decide +kernel
theorem Rc85 : chkLoc (xp RM85 []) 20000 261 Ra85 Rp85 Ro85 = true := by decide +kernel
theorem Rc23 : chkLoc (xp RM23 []) 20000 28 Ra23 Rp23 Ro23 = true := by decide +kernel
theorem Rc33 : chkLoc (xp RM33 []) 20000 28 Ra33 Rp33 Ro33 = true := by decide +kernel
theorem Rc3 : chkLoc (xp RM3 []) 20000 28 Ra3 Rp3 Ro3 = true := by decide +kernel
theorem Rc34 : chkLoc (xp RM34 []) 20000 28 Ra34 Rp34 Ro34 = true := by decide +kernel
theorem Rc81 : chkLoc (xp RM81 []) 20000 44 Ra81 Rp81 Ro81 = true := by decide +kernel
end
end Go.X
