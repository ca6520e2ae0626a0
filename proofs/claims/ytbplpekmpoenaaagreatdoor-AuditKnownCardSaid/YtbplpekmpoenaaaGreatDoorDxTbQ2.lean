/- What is known of calls: printed by program (wip/dx/Drv.lean). -/
import Derived.Test.YtbplpekmpoenaaaGreatDoorDxTbQD1
namespace Go.X
open Go.Proofs
noncomputable section
set_option maxRecDepth 1000000
set_option maxHeartbeats 40000000
theorem Qc200 : chkLoc (xp QM200 []) 20000 185 Qa200 Qp200 Qo200 = true := by decide +kernel
theorem Qc211 : chkLoc (xp QM211 []) 20000 185 Qa211 Qp211 Qo211 = true := by decide +kernel
theorem Qc6 : chkLoc (xp QM6 []) 20000 363 Qa6 Qp6 Qo6 = true := by decide +kernel
theorem Qc20 : chkLoc (xp QM20 []) 20000 363 Qa20 Qp20 Qo20 = true := by decide +kernel
theorem Qc31 : chkLoc (xp QM31 []) 20000 363 Qa31 Qp31 Qo31 = true := by decide +kernel
theorem Qc43 : chkLoc (xp QM43 []) 20000 363 Qa43 Qp43 Qo43 = true := by decide +kernel
theorem Qc50 : chkLoc (xp QM50 []) 20000 363 Qa50 Qp50 Qo50 = true := by decide +kernel
theorem Qc62 : chkLoc (xp QM62 []) 20000 363 Qa62 Qp62 Qo62 = true := by decide +kernel
theorem Qc69 : chkLoc (xp QM69 []) 20000 363 Qa69 Qp69 Qo69 = true := by decide +kernel
theorem Qc160 : chkLoc (xp QM160 []) 20000 373 Qa160 Qp160 Qo160 = true := by decide +kernel
end
end Go.X
