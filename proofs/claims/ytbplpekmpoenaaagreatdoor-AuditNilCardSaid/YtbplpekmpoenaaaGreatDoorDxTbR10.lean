/- What is known of calls: printed by program (wip/dx/Drv.lean). -/
import Derived.Test.YtbplpekmpoenaaaGreatDoorDxTbRD0
namespace Go.X
open Go.Proofs
noncomputable section
set_option maxRecDepth 1000000
set_option maxHeartbeats 40000000
theorem Rc46 : chkLoc (xp RM46 []) 20000 361 Ra46 Rp46 Ro46 = true := by decide +kernel
theorem Rc78 : chkLoc (xp RM78 []) 20000 361 Ra78 Rp78 Ro78 = true := by decide +kernel
theorem Rc93 : chkLoc (xp RM93 []) 20000 361 Ra93 Rp93 Ro93 = true := by decide +kernel
theorem Rc69 : chkLoc (xp RM69 []) 20000 361 Ra69 Rp69 Ro69 = true := by decide +kernel
theorem Rc32 : chkLoc (xp RM32 []) 20000 355 Ra32 Rp32 Ro32 = true := by decide +kernel
theorem Rc2 : chkLoc (xp RM2 []) 20000 355 Ra2 Rp2 Ro2 = true := by decide +kernel
theorem Rc26 : chkLoc (xp RM26 []) 20000 303 Ra26 Rp26 Ro26 = true := by decide +kernel
end
end Go.X
