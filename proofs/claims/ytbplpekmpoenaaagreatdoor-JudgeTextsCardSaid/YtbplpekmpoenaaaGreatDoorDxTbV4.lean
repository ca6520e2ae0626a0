/- What is known of calls: printed by program (wip/dx/Drv.lean). -/
import Derived.Test.YtbplpekmpoenaaaGreatDoorDxTbVD0
namespace Go.X
open Go.Proofs
noncomputable section
set_option maxRecDepth 1000000
set_option maxHeartbeats 40000000
theorem Vc33 : chkLoc (xp VM33 []) 20000 185 Va33 Vp33 Vo33 = true := by decide +kernel
theorem Vc44 : chkLoc (xp VM44 []) 20000 185 Va44 Vp44 Vo44 = true := by decide +kernel
theorem Vc96 : chkLoc (xp VM96 []) 20000 185 Va96 Vp96 Vo96 = true := by decide +kernel
theorem Vc100 : chkLoc (xp VM100 []) 20000 185 Va100 Vp100 Vo100 = true := by decide +kernel
theorem Vc152 : chkLoc (xp VM152 []) 20000 26 Va152 Vp152 Vo152 = true := by decide +kernel
theorem Vc11 : chkLoc (xp VM11 []) 20000 524 Va11 Vp11 Vo11 = true := by decide +kernel
theorem Vc12 : chkLoc (xp VM12 []) 20000 524 Va12 Vp12 Vo12 = true := by decide +kernel
theorem Vc7 : chkLoc (xp VM7 []) 20000 28 Va7 Vp7 Vo7 = true := by decide +kernel
end
end Go.X
