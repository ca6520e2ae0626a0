/- What is known of calls: printed by program (wip/dx/Drv.lean). -/
import Derived.Test.YtfpiabkkelhgbaaGreatDoorDxTbQD0
namespace Go.X
open Go.Proofs
noncomputable section
set_option maxRecDepth 1000000
set_option maxHeartbeats 40000000
theorem Qc10 : chkPure (xp QM10 []) 20000 549 Qa10 Qv10 = true := by decide +kernel
theorem Qc72 : chkLoc (xp QM72 []) 20000 14 Qa72 Qp72 Qo72 = true := by decide +kernel
theorem Qc37 : chkLoc (xp QM37 []) 20000 281 Qa37 Qp37 Qo37 = true := by decide +kernel
theorem Qc30 : chkLoc (xp QM30 []) 20000 163 Qa30 Qp30 Qo30 = true := by decide +kernel
end
end Go.X
