/- What is known of calls: printed by program (wip/dx/Drv.lean). -/
import Derived.Test.YtbplpekmpoenaaaGreatDoorDxTbRD0
namespace Go.X
open Go.Proofs
noncomputable section
set_option maxRecDepth 1000000
set_option maxHeartbeats 40000000
theorem Rc0 : chkPure (xp RM0 []) 20000 466 Ra0 Rv0 = true := by decide +kernel
theorem Rc15 : chkLoc (xp RM15 []) 20000 185 Ra15 Rp15 Ro15 = true := by decide +kernel
theorem Rc49 : chkLoc (xp RM49 []) 20000 45 Ra49 Rp49 Ro49 = true := by decide +kernel
end
end Go.X
