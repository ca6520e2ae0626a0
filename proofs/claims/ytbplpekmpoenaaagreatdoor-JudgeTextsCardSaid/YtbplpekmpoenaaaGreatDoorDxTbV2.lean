/- What is known of calls: printed by program (wip/dx/Drv.lean). -/
import Derived.Test.YtbplpekmpoenaaaGreatDoorDxTbVD0
namespace Go.X
open Go.Proofs
noncomputable section
set_option maxRecDepth 1000000
set_option maxHeartbeats 40000000
theorem Vc131 : chkLoc (xp VM131 []) 20000 185 Va131 Vp131 Vo131 = true := by decide +kernel
theorem Vc83 : chkLoc (xp VM83 []) 20000 185 Va83 Vp83 Vo83 = true := by decide +kernel
theorem Vc89 : chkLoc (xp VM89 []) 20000 185 Va89 Vp89 Vo89 = true := by decide +kernel
theorem Vc135 : chkLoc (xp VM135 []) 20000 185 Va135 Vp135 Vo135 = true := by decide +kernel
theorem Vc141 : chkLoc (xp VM141 []) 20000 185 Va141 Vp141 Vo141 = true := by decide +kernel
theorem Vc25 : chkLoc (xp VM25 []) 20000 185 Va25 Vp25 Vo25 = true := by decide +kernel
theorem Vc154 : chkLoc (xp VM154 []) 20000 20 Va154 Vp154 Vo154 = true := by decide +kernel
end
end Go.X
