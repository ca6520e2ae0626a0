/- What is known of calls: printed by program (wip/dx/Drv.lean). -/
import Derived.Test.YtbplpekmpoenaaaGreatDoorDxTbQD1
namespace Go.X
open Go.Proofs
noncomputable section
set_option maxRecDepth 1000000
set_option maxHeartbeats 40000000
theorem Qc148 : chkLoc (xp QM148 []) 20000 361 Qa148 Qp148 Qo148 = true := by decide +kernel
theorem Qc249 : chkLoc (xp QM249 []) 20000 361 Qa249 Qp249 Qo249 = true := by decide +kernel
theorem Qc255 : chkLoc (xp QM255 []) 20000 361 Qa255 Qp255 Qo255 = true := by decide +kernel
theorem Qc73 : chkLoc (xp QM73 []) 20000 361 Qa73 Qp73 Qo73 = true := by decide +kernel
theorem Qc80 : chkLoc (xp QM80 []) 20000 361 Qa80 Qp80 Qo80 = true := by decide +kernel
theorem Qc210 : chkLoc (xp QM210 []) 20000 361 Qa210 Qp210 Qo210 = true := by decide +kernel
theorem Qc118 : chkLoc (xp QM118 []) 20000 185 Qa118 Qp118 Qo118 = true := by decide +kernel
theorem Qc127 : chkLoc (xp QM127 []) 20000 185 Qa127 Qp127 Qo127 = true := by decide +kernel
theorem Qc131 : chkLoc (xp QM131 []) 20000 185 Qa131 Qp131 Qo131 = true := by decide +kernel
theorem Qc140 : chkLoc (xp QM140 []) 20000 185 Qa140 Qp140 Qo140 = true := by decide +kernel
theorem Qc13 : chkLoc (xp QM13 []) 20000 185 Qa13 Qp13 Qo13 = true := by decide +kernel
theorem Qc25 : chkLoc (xp QM25 []) 20000 185 Qa25 Qp25 Qo25 = true := by decide +kernel
theorem Qc36 : chkLoc (xp QM36 []) 20000 185 Qa36 Qp36 Qo36 = true := by decide +kernel
theorem Qc174 : chkLoc (xp QM174 []) 20000 28 Qa174 Qp174 Qo174 = true := by decide +kernel
end
end Go.X
