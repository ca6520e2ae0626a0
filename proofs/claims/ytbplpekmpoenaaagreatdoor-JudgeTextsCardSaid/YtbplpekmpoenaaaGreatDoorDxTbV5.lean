/- What is known of calls: printed by program (wip/dx/Drv.lean). -/
import Derived.Test.YtbplpekmpoenaaaGreatDoorDxTbVD0
namespace Go.X
open Go.Proofs
noncomputable section
set_option maxRecDepth 1000000
set_option maxHeartbeats 40000000
theorem Vc22 : chkLoc (xp VM22 []) 20000 524 Va22 Vp22 Vo22 = true := by decide +kernel
theorem Vc30 : chkLoc (xp VM30 []) 20000 524 Va30 Vp30 Vo30 = true := by decide +kernel
theorem Vc106 : chkLoc (xp VM106 []) 20000 524 Va106 Vp106 Vo106 = true := by decide +kernel
theorem Vc13 : chkLoc (xp VM13 []) 20000 371 Va13 Vp13 Vo13 = true := by decide +kernel
theorem Vc23 : chkLoc (xp VM23 []) 20000 371 Va23 Vp23 Vo23 = true := by decide +kernel
theorem Vc31 : chkLoc (xp VM31 []) 20000 371 Va31 Vp31 Vo31 = true := by decide +kernel
theorem Vc35 : chkLoc (xp VM35 []) 20000 371 Va35 Vp35 Vo35 = true := by decide +kernel
theorem Vc42 : chkLoc (xp VM42 []) 20000 371 Va42 Vp42 Vo42 = true := by decide +kernel
theorem Vc46 : chkLoc (xp VM46 []) 20000 371 Va46 Vp46 Vo46 = true := by decide +kernel
theorem Vc148 : chkLoc (xp VM148 []) 20000 41 Va148 Vp148 Vo148 = true := by decide +kernel
theorem Vc9 : chkLoc (xp VM9 []) 20000 28 Va9 Vp9 Vo9 = true := by decide +kernel
end
end Go.X
