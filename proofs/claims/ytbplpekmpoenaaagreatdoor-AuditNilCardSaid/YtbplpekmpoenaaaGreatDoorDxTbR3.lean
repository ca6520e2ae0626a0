/- What is known of calls: printed by program (wip/dx/Drv.lean). -/
import Derived.Test.YtbplpekmpoenaaaGreatDoorDxTbRD0
namespace Go.X
open Go.Proofs
noncomputable section
set_option maxRecDepth 1000000
set_option maxHeartbeats 40000000
theorem Rc47 : chkLoc (xp RM47 []) 20000 185 Ra47 Rp47 Ro47 = true := by decide +kernel
theorem Rc105 : chkLoc (xp RM105 []) 20000 185 Ra105 Rp105 Ro105 = true := by decide +kernel
theorem Rc111 : chkLoc (xp RM111 []) 20000 185 Ra111 Rp111 Ro111 = true := by decide +kernel
theorem Rc59 : chkLoc (xp RM59 []) 20000 185 Ra59 Rp59 Ro59 = true := by decide +kernel
theorem Rc22 : chkLoc (xp RM22 []) 20000 355 Ra22 Rp22 Ro22 = true := by decide +kernel
end
end Go.X
