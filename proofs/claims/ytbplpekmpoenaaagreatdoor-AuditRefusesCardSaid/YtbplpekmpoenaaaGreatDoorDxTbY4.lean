/- What is known of calls: printed by program (wip/dx/Drv.lean). -/
import Derived.Test.YtbplpekmpoenaaaGreatDoorDxTbYD0
namespace Go.X
open Go.Proofs
noncomputable section
set_option maxRecDepth 1000000
set_option maxHeartbeats 40000000
theorem Yc59 : chkLoc (xp YM59 []) 20000 371 Ya59 Yp59 Yo59 = true := by decide +kernel
theorem Yc66 : chkLoc (xp YM66 []) 20000 371 Ya66 Yp66 Yo66 = true := by decide +kernel
theorem Yc70 : chkLoc (xp YM70 []) 20000 371 Ya70 Yp70 Yo70 = true := by decide +kernel
theorem Yc75 : chkLoc (xp YM75 []) 20000 371 Ya75 Yp75 Yo75 = true := by decide +kernel
theorem Yc79 : chkLoc (xp YM79 []) 20000 371 Ya79 Yp79 Yo79 = true := by decide +kernel
theorem Yc86 : chkLoc (xp YM86 []) 20000 371 Ya86 Yp86 Yo86 = true := by decide +kernel
theorem Yc90 : chkLoc (xp YM90 []) 20000 371 Ya90 Yp90 Yo90 = true := by decide +kernel
theorem Yc94 : chkLoc (xp YM94 []) 20000 371 Ya94 Yp94 Yo94 = true := by decide +kernel
theorem Yc101 : chkLoc (xp YM101 []) 20000 371 Ya101 Yp101 Yo101 = true := by decide +kernel
theorem Yc76 : chkLoc (xp YM76 []) 20000 261 Ya76 Yp76 Yo76 = true := by decide +kernel
end
end Go.X
