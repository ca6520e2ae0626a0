/- What is known of calls: printed by program (wip/dx/Drv.lean). -/
import Derived.Test.YtbplpekmpoenaaaGreatDoorDxTbVD0
namespace Go.X
open Go.Proofs
noncomputable section
set_option maxRecDepth 1000000
set_option maxHeartbeats 40000000
theorem Vc51 : chkLoc (xp VM51 []) 20000 371 Va51 Vp51 Vo51 = true := by decide +kernel
theorem Vc55 : chkLoc (xp VM55 []) 20000 371 Va55 Vp55 Vo55 = true := by decide +kernel
theorem Vc62 : chkLoc (xp VM62 []) 20000 371 Va62 Vp62 Vo62 = true := by decide +kernel
theorem Vc66 : chkLoc (xp VM66 []) 20000 371 Va66 Vp66 Vo66 = true := by decide +kernel
theorem Vc70 : chkLoc (xp VM70 []) 20000 371 Va70 Vp70 Vo70 = true := by decide +kernel
theorem Vc77 : chkLoc (xp VM77 []) 20000 371 Va77 Vp77 Vo77 = true := by decide +kernel
theorem Vc81 : chkLoc (xp VM81 []) 20000 371 Va81 Vp81 Vo81 = true := by decide +kernel
theorem Vc87 : chkLoc (xp VM87 []) 20000 371 Va87 Vp87 Vo87 = true := by decide +kernel
theorem Vc94 : chkLoc (xp VM94 []) 20000 371 Va94 Vp94 Vo94 = true := by decide +kernel
theorem Vc52 : chkLoc (xp VM52 []) 20000 261 Va52 Vp52 Vo52 = true := by decide +kernel
end
end Go.X
