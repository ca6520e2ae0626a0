/- What is known of calls: printed by program (wip/dx/Drv.lean). -/
import Derived.Test.YtbplpekmpoenaaaGreatDoorDxTbVD0
namespace Go.X
open Go.Proofs
noncomputable section
set_option maxRecDepth 1000000
set_option maxHeartbeats 40000000
theorem Vc151 : chkLoc (xp VM151 []) 20000 10 Va151 Vp151 Vo151 = true := by decide +kernel
theorem Vc32 : chkLoc (xp VM32 []) 20000 361 Va32 Vp32 Vo32 = true := by decide +kernel
theorem Vc95 : chkLoc (xp VM95 []) 20000 361 Va95 Vp95 Vo95 = true := by decide +kernel
theorem Vc82 : chkLoc (xp VM82 []) 20000 361 Va82 Vp82 Vo82 = true := by decide +kernel
theorem Vc88 : chkLoc (xp VM88 []) 20000 361 Va88 Vp88 Vo88 = true := by decide +kernel
theorem Vc134 : chkLoc (xp VM134 []) 20000 361 Va134 Vp134 Vo134 = true := by decide +kernel
theorem Vc140 : chkLoc (xp VM140 []) 20000 361 Va140 Vp140 Vo140 = true := by decide +kernel
theorem Vc43 : chkLoc (xp VM43 []) 20000 361 Va43 Vp43 Vo43 = true := by decide +kernel
theorem Vc99 : chkLoc (xp VM99 []) 20000 361 Va99 Vp99 Vo99 = true := by decide +kernel
theorem Vc6 : chkLoc (xp VM6 []) 20000 355 Va6 Vp6 Vo6 = true := by decide +kernel
theorem Vc5 : chkLoc (xp VM5 []) 20000 28 Va5 Vp5 Vo5 = true := by decide +kernel
end
end Go.X
