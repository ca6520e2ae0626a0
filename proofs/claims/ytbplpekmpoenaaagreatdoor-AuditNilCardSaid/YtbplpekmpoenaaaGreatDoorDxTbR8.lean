/- What is known of calls: printed by program (wip/dx/Drv.lean). -/
import Derived.Test.YtbplpekmpoenaaaGreatDoorDxTbRD0
namespace Go.X
open Go.Proofs
noncomputable section
set_option maxRecDepth 1000000
set_option maxHeartbeats 40000000
theorem Rc92 : chkLoc (xp RM92 []) 20000 371 Ra92 Rp92 Ro92 = true := by decide +kernel
theorem Rc99 : chkLoc (xp RM99 []) 20000 371 Ra99 Rp99 Ro99 = true := by decide +kernel
theorem Rc103 : chkLoc (xp RM103 []) 20000 371 Ra103 Rp103 Ro103 = true := by decide +kernel
theorem Rc109 : chkLoc (xp RM109 []) 20000 371 Ra109 Rp109 Ro109 = true := by decide +kernel
theorem Rc114 : chkLoc (xp RM114 []) 20000 10 Ra114 Rp114 Ro114 = true := by decide +kernel
theorem Rc54 : chkLoc (xp RM54 []) 20000 361 Ra54 Rp54 Ro54 = true := by decide +kernel
theorem Rc37 : chkLoc (xp RM37 []) 20000 28 Ra37 Rp37 Ro37 = true := by decide +kernel
end
end Go.X
