/- What is known of calls: printed by program (wip/dx/Drv.lean). -/
import Derived.Test.YtbplpekmpoenaaaGreatDoorDxTbRD0
namespace Go.X
open Go.Proofs
noncomputable section
set_option maxRecDepth 1000000
set_option maxHeartbeats 40000000
theorem Rc36 : chkLoc (xp RM36 []) 20000 355 Ra36 Rp36 Ro36 = true := by decide +kernel
theorem Rc41 : chkLoc (xp RM41 []) 20000 355 Ra41 Rp41 Ro41 = true := by decide +kernel
theorem Rc7 : chkLoc (xp RM7 []) 20000 355 Ra7 Rp7 Ro7 = true := by decide +kernel
theorem Rc45 : chkLoc (xp RM45 []) 20000 371 Ra45 Rp45 Ro45 = true := by decide +kernel
theorem Rc53 : chkLoc (xp RM53 []) 20000 371 Ra53 Rp53 Ro53 = true := by decide +kernel
theorem Rc57 : chkLoc (xp RM57 []) 20000 371 Ra57 Rp57 Ro57 = true := by decide +kernel
theorem Rc30 : chkLoc (xp RM30 []) 20000 28 Ra30 Rp30 Ro30 = true := by decide +kernel
theorem Rc71 : chkLoc (xp RM71 []) 20000 44 Ra71 Rp71 Ro71 = true := by decide +kernel
end
end Go.X
