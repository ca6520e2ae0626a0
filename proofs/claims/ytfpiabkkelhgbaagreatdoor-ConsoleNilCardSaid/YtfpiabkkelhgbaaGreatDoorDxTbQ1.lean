/- What is known of calls: printed by program (wip/dx/Drv.lean). -/
import Derived.Test.YtfpiabkkelhgbaaGreatDoorDxTbQD0
namespace Go.X
open Go.Proofs
noncomputable section
set_option maxRecDepth 1000000
set_option maxHeartbeats 40000000
theorem Qc54 : chkLoc (xp QM54 []) 20000 237 Qa54 Qp54 Qo54 = true := by decide +kernel
theorem Qc22 : chkLoc (xp QM22 []) 20000 237 Qa22 Qp22 Qo22 = true := by decide +kernel
theorem Qc32 : chkLoc (xp QM32 []) 20000 279 Qa32 Qp32 Qo32 = true := by decide +kernel
theorem Qc19 : chkLoc (xp QM19 []) 20000 237 Qa19 Qp19 Qo19 = true := by decide +kernel
theorem Qc70 : chkLoc (xp QM70 []) 20000 154 Qa70 Qp70 Qo70 = true := by decide +kernel
theorem Qc13 : chkLoc (xp QM13 []) 20000 14 Qa13 Qp13 Qo13 = true := by decide +kernel
theorem Qc9 : chkLoc (xp QM9 []) 20000 405 Qa9 Qp9 Qo9 = true := by decide +kernel
theorem Qc60 : chkLoc (xp QM60 []) 20000 397 Qa60 Qp60 Qo60 = true := by decide +kernel
end
end Go.X
