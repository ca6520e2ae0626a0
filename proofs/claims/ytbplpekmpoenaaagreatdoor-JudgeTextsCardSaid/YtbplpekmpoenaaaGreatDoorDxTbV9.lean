/- What is known of calls: printed by program (wip/dx/Drv.lean). -/
import Derived.Test.YtbplpekmpoenaaaGreatDoorDxTbVD0
namespace Go.X
open Go.Proofs
noncomputable section
set_option maxRecDepth 1000000
set_option maxHeartbeats 40000000
theorem Vc18 : chkLoc (xp VM18 []) 20000 70 Va18 Vp18 Vo18 = true := by decide +kernel
theorem Vc24 : chkLoc (xp VM24 []) 20000 361 Va24 Vp24 Vo24 = true := by decide +kernel
theorem Vc108 : chkLoc (xp VM108 []) 20000 361 Va108 Vp108 Vo108 = true := by decide +kernel
theorem Vc123 : chkLoc (xp VM123 []) 20000 361 Va123 Vp123 Vo123 = true := by decide +kernel
theorem Vc14 : chkLoc (xp VM14 []) 20000 361 Va14 Vp14 Vo14 = true := by decide +kernel
theorem Vc36 : chkLoc (xp VM36 []) 20000 361 Va36 Vp36 Vo36 = true := by decide +kernel
theorem Vc56 : chkLoc (xp VM56 []) 20000 361 Va56 Vp56 Vo56 = true := by decide +kernel
theorem Vc71 : chkLoc (xp VM71 []) 20000 361 Va71 Vp71 Vo71 = true := by decide +kernel
theorem Vc47 : chkLoc (xp VM47 []) 20000 361 Va47 Vp47 Vo47 = true := by decide +kernel
theorem Vc3 : chkLoc (xp VM3 []) 20000 355 Va3 Vp3 Vo3 = true := by decide +kernel
theorem Vc27 : chkLoc (xp VM27 []) 20000 45 Va27 Vp27 Vo27 = true := by decide +kernel
end
end Go.X
