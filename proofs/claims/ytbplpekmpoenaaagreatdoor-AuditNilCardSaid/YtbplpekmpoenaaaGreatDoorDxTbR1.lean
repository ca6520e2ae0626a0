/- What is known of calls: printed by program (wip/dx/Drv.lean). -/
import Derived.Test.YtbplpekmpoenaaaGreatDoorDxTbRD0
namespace Go.X
open Go.Proofs
noncomputable section
set_option maxRecDepth 1000000
set_option maxHeartbeats 40000000
theorem Rc17 : chkLoc (xp RM17 []) 20000 56 Ra17 Rp17 Ro17 = true := by decide +kernel
theorem Rc1 : chkLoc (xp RM1 []) 20000 189 Ra1 Rp1 Ro1 = true := by decide +kernel
theorem Rc21 : chkLoc (xp RM21 []) 20000 41 Ra21 Rp21 Ro21 = true := by decide +kernel
end
end Go.X
