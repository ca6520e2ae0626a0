/- What is known of calls: printed by program (wip/dx/Drv.lean). -/
import Derived.Test.YtbplpekmpoenaaaGreatDoorDxTbYD0
namespace Go.X
open Go.Proofs
noncomputable section
set_option maxRecDepth 1000000
set_option maxHeartbeats 40000000
theorem Yc13 : chkLoc (xp YM13 []) 20000 373 Ya13 Yp13 Yo13 = true := by decide +kernel
theorem Yc91 : chkLoc (xp YM91 []) 20000 261 Ya91 Yp91 Yo91 = true := by decide +kernel
theorem Yc102 : chkLoc (xp YM102 []) 20000 261 Ya102 Yp102 Yo102 = true := by decide +kernel
theorem Yc87 : chkLoc (xp YM87 []) 20000 261 Ya87 Yp87 Yo87 = true := by decide +kernel
theorem Yc45 : chkLoc (xp YM45 []) 20000 16 Ya45 Yp45 Yo45 = true := by decide +kernel
theorem Yc116 : chkLoc (xp YM116 []) 20000 12 Ya116 Yp116 Yo116 = true := by decide +kernel
theorem Yc43 : chkLoc (xp YM43 []) 20000 28 Ya43 Yp43 Yo43 = true := by decide +kernel
theorem Yc24 : chkLoc (xp YM24 []) 20000 28 Ya24 Yp24 Yo24 = true := by decide +kernel
theorem Yc34 : chkLoc (xp YM34 []) 20000 28 Ya34 Yp34 Yo34 = true := by decide +kernel
theorem Yc18 : chkLoc (xp YM18 []) 20000 18 Ya18 Yp18 Yo18 = true := by decide +kernel
theorem Yc29 : chkLoc (xp YM29 []) 20000 28 Ya29 Yp29 Yo29 = true := by decide +kernel
theorem Yc3 : chkLoc (xp YM3 []) 20000 28 Ya3 Yp3 Yo3 = true := by decide +kernel
theorem Yc119 : chkLoc (xp YM119 []) 20000 28 Ya119 Yp119 Yo119 = true := by decide +kernel
theorem Yc31 : chkLoc (xp YM31 []) 20000 28 Ya31 Yp31 Yo31 = true := by decide +kernel
theorem Yc35 : chkLoc (xp YM35 []) 20000 28 Ya35 Yp35 Yo35 = true := by decide +kernel
theorem Yc83 : chkLoc (xp YM83 []) 20000 44 Ya83 Yp83 Yo83 = true := by decide +kernel
end
end Go.X
