/- What is known of calls: printed by program (wip/dx/Drv.lean). -/
import Derived.Test.YtbplpekmpoenaaaGreatDoorDxTbXD0
namespace Go.X
open Go.Proofs
noncomputable section
set_option maxRecDepth 1000000
set_option maxHeartbeats 40000000
theorem Xc2 : chkLoc (xp XM2 []) 20000 16 Xa2 Xp2 Xo2 = true := by decide +kernel
theorem Xc9 : chkLoc (xp XM9 []) 20000 9 Xa9 Xp9 Xo9 = true := by decide +kernel
theorem Xc4 : chkLoc (xp XM4 []) 20000 12 Xa4 Xp4 Xo4 = true := by decide +kernel
theorem Xc6 : chkLoc (xp XM6 []) 20000 16 Xa6 Xp6 Xo6 = true := by decide +kernel
theorem Xc7 : chkLoc (xp XM7 []) 20000 12 Xa7 Xp7 Xo7 = true := by decide +kernel
theorem Xc5 : chkLoc (xp XM5 []) 20000 18 Xa5 Xp5 Xo5 = true := by decide +kernel
theorem Xc3 : chkLoc (xp XM3 []) 20000 16 Xa3 Xp3 Xo3 = true := by decide +kernel
theorem Xc1 : chkLoc (xp XM1 []) 20000 18 Xa1 Xp1 Xo1 = true := by decide +kernel
theorem Xc0 : chkLoc (xp XM0 []) 20000 17 Xa0 Xp0 Xo0 = true := by decide +kernel
theorem Xc8 : chkLoc (xp XM8 []) 20000 16 Xa8 Xp8 Xo8 = true := by decide +kernel
end
end Go.X
