/- What is known of calls: printed by program (wip/dx/Drv.lean). -/
import Derived.Test.YtbplpekmpoenaaaGreatDoorDxTbVD0
namespace Go.X
open Go.Proofs
noncomputable section
set_option maxRecDepth 1000000
set_option maxHeartbeats 40000000
theorem Vc109 : chkLoc (xp VM109 []) 20000 185 Va109 Vp109 Vo109 = true := by decide +kernel
theorem Vc124 : chkLoc (xp VM124 []) 20000 185 Va124 Vp124 Vo124 = true := by decide +kernel
theorem Vc15 : chkLoc (xp VM15 []) 20000 185 Va15 Vp15 Vo15 = true := by decide +kernel
theorem Vc37 : chkLoc (xp VM37 []) 20000 185 Va37 Vp37 Vo37 = true := by decide +kernel
theorem Vc57 : chkLoc (xp VM57 []) 20000 185 Va57 Vp57 Vo57 = true := by decide +kernel
theorem Vc72 : chkLoc (xp VM72 []) 20000 185 Va72 Vp72 Vo72 = true := by decide +kernel
theorem Vc48 : chkLoc (xp VM48 []) 20000 185 Va48 Vp48 Vo48 = true := by decide +kernel
theorem Vc59 : chkLoc (xp VM59 []) 20000 44 Va59 Vp59 Vo59 = true := by decide +kernel
end
end Go.X
