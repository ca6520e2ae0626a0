/- What is known of calls: printed by program (wip/dx/Drv.lean). -/
import Derived.Test.YtbplpekmpoenaaaGreatDoorDxTbVD0
namespace Go.X
open Go.Proofs
noncomputable section
set_option maxRecDepth 1000000
set_option maxHeartbeats 40000000
theorem Vc1 : chkPure (xp VM1 []) 20000 466 Va1 Vv1 = true := by decide +kernel
theorem Vc149 : chkLoc (xp VM149 []) 20000 56 Va149 Vp149 Vo149 = true := by decide +kernel
theorem Vc2 : chkLoc (xp VM2 []) 20000 189 Va2 Vp2 Vo2 = true := by decide +kernel
theorem Vc53 : chkLoc (xp VM53 []) 20000 185 Va53 Vp53 Vo53 = true := by decide +kernel
theorem Vc10 : chkLoc (xp VM10 []) 20000 41 Va10 Vp10 Vo10 = true := by decide +kernel
theorem Vc39 : chkLoc (xp VM39 []) 20000 44 Va39 Vp39 Vo39 = true := by decide +kernel
end
end Go.X
