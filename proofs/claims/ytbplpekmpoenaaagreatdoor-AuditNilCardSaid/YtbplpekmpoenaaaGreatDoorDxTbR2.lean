/- What is known of calls: printed by program (wip/dx/Drv.lean). -/
import Derived.Test.YtbplpekmpoenaaaGreatDoorDxTbRD0
namespace Go.X
open Go.Proofs
noncomputable section
set_option maxRecDepth 1000000
set_option maxHeartbeats 40000000
theorem Rc75 : chkLoc (xp RM75 []) 20000 185 Ra75 Rp75 Ro75 = true := by decide +kernel
theorem Rc86 : chkLoc (xp RM86 []) 20000 185 Ra86 Rp86 Ro86 = true := by decide +kernel
theorem Rc90 : chkLoc (xp RM90 []) 20000 185 Ra90 Rp90 Ro90 = true := by decide +kernel
theorem Rc101 : chkLoc (xp RM101 []) 20000 185 Ra101 Rp101 Ro101 = true := by decide +kernel
theorem Rc16 : chkLoc (xp RM16 []) 20000 41 Ra16 Rp16 Ro16 = true := by decide +kernel
end
end Go.X
