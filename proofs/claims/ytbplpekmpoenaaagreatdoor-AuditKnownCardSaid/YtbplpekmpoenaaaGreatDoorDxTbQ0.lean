/- What is known of calls: printed by program (wip/dx/Drv.lean). -/
import Derived.Test.YtbplpekmpoenaaaGreatDoorDxTbQD1
namespace Go.X
open Go.Proofs
noncomputable section
set_option maxRecDepth 1000000
set_option maxHeartbeats 40000000
theorem Qc0 : chkPure (xp QM0 []) 20000 466 Qa0 Qv0 = true := by decide +kernel
theorem Qc162 : chkLoc (xp QM162 []) 20000 185 Qa162 Qp162 Qo162 = true := by decide +kernel
theorem Qc164 : chkLoc (xp QM164 []) 20000 56 Qa164 Qp164 Qo164 = true := by decide +kernel
theorem Qc1 : chkLoc (xp QM1 []) 20000 189 Qa1 Qp1 Qo1 = true := by decide +kernel
theorem Qc220 : chkLoc (xp QM220 []) 20000 185 Qa220 Qp220 Qo220 = true := by decide +kernel
theorem Qc231 : chkLoc (xp QM231 []) 20000 185 Qa231 Qp231 Qo231 = true := by decide +kernel
theorem Qc195 : chkLoc (xp QM195 []) 20000 45 Qa195 Qp195 Qo195 = true := by decide +kernel
end
end Go.X
