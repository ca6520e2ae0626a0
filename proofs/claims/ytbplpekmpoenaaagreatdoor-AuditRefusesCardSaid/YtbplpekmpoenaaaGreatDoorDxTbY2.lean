/- What is known of calls: printed by program (wip/dx/Drv.lean). -/
import Derived.Test.YtbplpekmpoenaaaGreatDoorDxTbYD0
namespace Go.X
open Go.Proofs
noncomputable section
set_option maxRecDepth 1000000
set_option maxHeartbeats 40000000
theorem Yc113 : chkLoc (xp YM113 []) 20000 185 Ya113 Yp113 Yo113 = true := by decide +kernel
theorem Yc61 : chkLoc (xp YM61 []) 20000 185 Ya61 Yp61 Yo61 = true := by decide +kernel
theorem Yc81 : chkLoc (xp YM81 []) 20000 185 Ya81 Yp81 Yo81 = true := by decide +kernel
theorem Yc96 : chkLoc (xp YM96 []) 20000 185 Ya96 Yp96 Yo96 = true := by decide +kernel
theorem Yc72 : chkLoc (xp YM72 []) 20000 185 Ya72 Yp72 Yo72 = true := by decide +kernel
theorem Yc57 : chkLoc (xp YM57 []) 20000 185 Ya57 Yp57 Yo57 = true := by decide +kernel
theorem Yc68 : chkLoc (xp YM68 []) 20000 185 Ya68 Yp68 Yo68 = true := by decide +kernel
theorem Yc118 : chkLoc (xp YM118 []) 20000 16 Ya118 Yp118 Yo118 = true := by decide +kernel
end
end Go.X
