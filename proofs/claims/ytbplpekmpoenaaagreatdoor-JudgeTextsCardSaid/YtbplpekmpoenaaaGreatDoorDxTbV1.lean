/- What is known of calls: printed by program (wip/dx/Drv.lean). -/
import Derived.Test.YtbplpekmpoenaaaGreatDoorDxTbVD0
namespace Go.X
open Go.Proofs
noncomputable section
set_option maxRecDepth 1000000
set_option maxHeartbeats 40000000
theorem Vc64 : chkLoc (xp VM64 []) 20000 185 Va64 Vp64 Vo64 = true := by decide +kernel
theorem Vc68 : chkLoc (xp VM68 []) 20000 185 Va68 Vp68 Vo68 = true := by decide +kernel
theorem Vc79 : chkLoc (xp VM79 []) 20000 185 Va79 Vp79 Vo79 = true := by decide +kernel
theorem Vc104 : chkLoc (xp VM104 []) 20000 185 Va104 Vp104 Vo104 = true := by decide +kernel
theorem Vc116 : chkLoc (xp VM116 []) 20000 185 Va116 Vp116 Vo116 = true := by decide +kernel
theorem Vc120 : chkLoc (xp VM120 []) 20000 185 Va120 Vp120 Vo120 = true := by decide +kernel
theorem Vc147 : chkLoc (xp VM147 []) 20000 41 Va147 Vp147 Vo147 = true := by decide +kernel
theorem Vc49 : chkLoc (xp VM49 []) 20000 44 Va49 Vp49 Vo49 = true := by decide +kernel
end
end Go.X
