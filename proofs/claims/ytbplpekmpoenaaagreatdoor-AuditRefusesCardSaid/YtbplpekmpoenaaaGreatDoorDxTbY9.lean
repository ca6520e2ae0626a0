/- What is known of calls: printed by program (wip/dx/Drv.lean). -/
import Derived.Test.YtbplpekmpoenaaaGreatDoorDxTbYD0
namespace Go.X
open Go.Proofs
noncomputable section
set_option maxRecDepth 1000000
set_option maxHeartbeats 40000000
theorem Yc62 : chkLoc (xp YM62 []) 20000 41 Ya62 Yp62 Yo62 = true := by decide +kernel
theorem Yc78 : chkLoc (xp YM78 []) 20000 41 Ya78 Yp78 Yo78 = true := by decide +kernel
theorem Yc82 : chkLoc (xp YM82 []) 20000 41 Ya82 Yp82 Yo82 = true := by decide +kernel
theorem Yc93 : chkLoc (xp YM93 []) 20000 41 Ya93 Yp93 Yo93 = true := by decide +kernel
theorem Yc97 : chkLoc (xp YM97 []) 20000 41 Ya97 Yp97 Yo97 = true := by decide +kernel
theorem Yc120 : chkLoc (xp YM120 []) 20000 41 Ya120 Yp120 Yo120 = true := by decide +kernel
theorem Yc69 : chkLoc (xp YM69 []) 20000 41 Ya69 Yp69 Yo69 = true := by decide +kernel
theorem Yc16 : chkLoc (xp YM16 []) 20000 41 Ya16 Yp16 Yo16 = true := by decide +kernel
theorem Yc19 : chkLoc (xp YM19 []) 20000 41 Ya19 Yp19 Yo19 = true := by decide +kernel
theorem Yc30 : chkLoc (xp YM30 []) 20000 41 Ya30 Yp30 Yo30 = true := by decide +kernel
end
end Go.X
