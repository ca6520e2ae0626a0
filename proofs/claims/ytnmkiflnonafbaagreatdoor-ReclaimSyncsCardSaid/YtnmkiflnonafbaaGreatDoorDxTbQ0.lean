/- What is known of calls: printed by program (wip/dx/Drv.lean). -/
import Derived.Test.YtnmkiflnonafbaaGreatDoorDxTbQD0
namespace Go.X
open Go.Proofs
noncomputable section
set_option maxRecDepth 1000000
set_option maxHeartbeats 40000000
theorem Qc0 : chkPure (xp QM0 []) 20000 215 Qa0 Qv0 = true := by decide +kernel
theorem Qc1 : chkLoc (xp QM1 []) 20000 35 Qa1 Qp1 Qo1 = true := by decide +kernel
theorem Qc2 : chkLoc (xp QM2 []) 20000 15 Qa2 Qp2 Qo2 = true := by decide +kernel
end
end Go.X
