/- What is known of calls: printed by program (wip/dx/Drv.lean). -/
import Derived.Test.YtfpiabkkelhgbaaGreatDoorDxTbQD0
namespace Go.X
open Go.Proofs
noncomputable section
set_option maxRecDepth 1000000
set_option maxHeartbeats 40000000
theorem Qc5 : chkLoc (xp QM5 []) 20000 405 Qa5 Qp5 Qo5 = true := by decide +kernel
theorem Qc40 : chkLoc (xp QM40 []) 20000 282 Qa40 Qp40 Qo40 = true := by decide +kernel
theorem Qc57 : chkLoc (xp QM57 []) 20000 501 Qa57 Qp57 Qo57 = true := by decide +kernel
theorem Qc58 : chkLoc (xp QM58 []) 20000 501 Qa58 Qp58 Qo58 = true := by decide +kernel
theorem Qc69 : chkLoc (xp QM69 []) 20000 501 Qa69 Qp69 Qo69 = true := by decide +kernel
theorem Qc50 : chkLoc (xp QM50 []) 20000 415 Qa50 Qp50 Qo50 = true := by decide +kernel
theorem Qc11 : chkLoc (xp QM11 []) 20000 178 Qa11 Qp11 Qo11 = true := by decide +kernel
theorem Qc12 : chkLoc (xp QM12 []) 20000 178 Qa12 Qp12 Qo12 = true := by decide +kernel
theorem Qc59 : chkLoc (xp QM59 []) 20000 178 Qa59 Qp59 Qo59 = true := by decide +kernel
theorem Qc71 : chkLoc (xp QM71 []) 20000 178 Qa71 Qp71 Qo71 = true := by decide +kernel
theorem Qc31 : chkLoc (xp QM31 []) 20000 397 Qa31 Qp31 Qo31 = true := by decide +kernel
theorem Qc52 : chkLoc (xp QM52 []) 20000 60 Qa52 Qp52 Qo52 = true := by decide +kernel
end
end Go.X
