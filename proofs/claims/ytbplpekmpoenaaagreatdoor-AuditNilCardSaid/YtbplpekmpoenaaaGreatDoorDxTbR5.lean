/- What is known of calls: printed by program (wip/dx/Drv.lean). -/
import Derived.Test.YtbplpekmpoenaaaGreatDoorDxTbRD0
namespace Go.X
open Go.Proofs
noncomputable section
set_option maxRecDepth 1000000
set_option maxHeartbeats 40000000
theorem Rc66 : chkLoc (xp RM66 []) 20000 185 Ra66 Rp66 Ro66 = true := by decide +kernel
theorem Rc10 : chkLoc (xp RM10 []) 20000 524 Ra10 Rp10 Ro10 = true := by decide +kernel
theorem Rc11 : chkLoc (xp RM11 []) 20000 524 Ra11 Rp11 Ro11 = true := by decide +kernel
theorem Rc52 : chkLoc (xp RM52 []) 20000 524 Ra52 Rp52 Ro52 = true := by decide +kernel
theorem Rc12 : chkLoc (xp RM12 []) 20000 31 Ra12 Rp12 Ro12 = true := by decide +kernel
theorem Rc20 : chkLoc (xp RM20 []) 20000 28 Ra20 Rp20 Ro20 = true := by decide +kernel
theorem Rc61 : chkLoc (xp RM61 []) 20000 44 Ra61 Rp61 Ro61 = true := by decide +kernel
end
end Go.X
