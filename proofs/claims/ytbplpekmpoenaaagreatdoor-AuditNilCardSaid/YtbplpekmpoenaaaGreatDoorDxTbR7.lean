/- What is known of calls: printed by program (wip/dx/Drv.lean). -/
import Derived.Test.YtbplpekmpoenaaaGreatDoorDxTbRD0
namespace Go.X
open Go.Proofs
noncomputable section
set_option maxRecDepth 1000000
set_option maxHeartbeats 40000000
theorem Rc64 : chkLoc (xp RM64 []) 20000 371 Ra64 Rp64 Ro64 = true := by decide +kernel
theorem Rc68 : chkLoc (xp RM68 []) 20000 371 Ra68 Rp68 Ro68 = true := by decide +kernel
theorem Rc73 : chkLoc (xp RM73 []) 20000 371 Ra73 Rp73 Ro73 = true := by decide +kernel
theorem Rc77 : chkLoc (xp RM77 []) 20000 371 Ra77 Rp77 Ro77 = true := by decide +kernel
theorem Rc84 : chkLoc (xp RM84 []) 20000 371 Ra84 Rp84 Ro84 = true := by decide +kernel
theorem Rc88 : chkLoc (xp RM88 []) 20000 371 Ra88 Rp88 Ro88 = true := by decide +kernel
theorem Rc28 : chkLoc (xp RM28 []) 20000 28 Ra28 Rp28 Ro28 = true := by decide +kernel
end
end Go.X
