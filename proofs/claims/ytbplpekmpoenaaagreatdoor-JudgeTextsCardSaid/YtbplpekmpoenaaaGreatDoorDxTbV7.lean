/- What is known of calls: printed by program (wip/dx/Drv.lean). -/
import Derived.Test.YtbplpekmpoenaaaGreatDoorDxTbVD0
namespace Go.X
open Go.Proofs
noncomputable section
set_option maxRecDepth 1000000
set_option maxHeartbeats 40000000
theorem Vc98 : chkLoc (xp VM98 []) 20000 371 Va98 Vp98 Vo98 = true := by decide +kernel
theorem Vc102 : chkLoc (xp VM102 []) 20000 371 Va102 Vp102 Vo102 = true := by decide +kernel
theorem Vc107 : chkLoc (xp VM107 []) 20000 371 Va107 Vp107 Vo107 = true := by decide +kernel
theorem Vc114 : chkLoc (xp VM114 []) 20000 371 Va114 Vp114 Vo114 = true := by decide +kernel
theorem Vc118 : chkLoc (xp VM118 []) 20000 371 Va118 Vp118 Vo118 = true := by decide +kernel
theorem Vc122 : chkLoc (xp VM122 []) 20000 371 Va122 Vp122 Vo122 = true := by decide +kernel
theorem Vc129 : chkLoc (xp VM129 []) 20000 371 Va129 Vp129 Vo129 = true := by decide +kernel
theorem Vc133 : chkLoc (xp VM133 []) 20000 371 Va133 Vp133 Vo133 = true := by decide +kernel
theorem Vc139 : chkLoc (xp VM139 []) 20000 371 Va139 Vp139 Vo139 = true := by decide +kernel
theorem Vc63 : chkLoc (xp VM63 []) 20000 261 Va63 Vp63 Vo63 = true := by decide +kernel
end
end Go.X
