/- What is known of calls: printed by program (wip/dx/Drv.lean). -/
import Derived.Test.YtbplpekmpoenaaaGreatDoorDxTbRD0
namespace Go.X
open Go.Proofs
noncomputable section
set_option maxRecDepth 1000000
set_option maxHeartbeats 40000000
theorem Rc104 : chkLoc (xp RM104 []) 20000 361 Ra104 Rp104 Ro104 = true := by decide +kernel
theorem Rc110 : chkLoc (xp RM110 []) 20000 361 Ra110 Rp110 Ro110 = true := by decide +kernel
theorem Rc65 : chkLoc (xp RM65 []) 20000 361 Ra65 Rp65 Ro65 = true := by decide +kernel
theorem Rc58 : chkLoc (xp RM58 []) 20000 361 Ra58 Rp58 Ro58 = true := by decide +kernel
theorem Rc14 : chkLoc (xp RM14 []) 20000 361 Ra14 Rp14 Ro14 = true := by decide +kernel
theorem Rc27 : chkLoc (xp RM27 []) 20000 361 Ra27 Rp27 Ro27 = true := by decide +kernel
theorem Rc42 : chkLoc (xp RM42 []) 20000 28 Ra42 Rp42 Ro42 = true := by decide +kernel
theorem Rc18 : chkLoc (xp RM18 []) 20000 41 Ra18 Rp18 Ro18 = true := by decide +kernel
end
end Go.X
