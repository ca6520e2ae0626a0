/- What is known of calls: printed by program (wip/dx/Drv.lean). -/
import Derived.Test.YtbplpekmpoenaaaGreatDoorDxTbQD1
namespace Go.X
open Go.Proofs
noncomputable section
set_option maxRecDepth 1000000
set_option maxHeartbeats 40000000
theorem Qc235 : chkLoc (xp QM235 []) 20000 185 Qa235 Qp235 Qo235 = true := by decide +kernel
theorem Qc246 : chkLoc (xp QM246 []) 20000 185 Qa246 Qp246 Qo246 = true := by decide +kernel
theorem Qc193 : chkLoc (xp QM193 []) 20000 185 Qa193 Qp193 Qo193 = true := by decide +kernel
theorem Qc250 : chkLoc (xp QM250 []) 20000 185 Qa250 Qp250 Qo250 = true := by decide +kernel
theorem Qc256 : chkLoc (xp QM256 []) 20000 185 Qa256 Qp256 Qo256 = true := by decide +kernel
theorem Qc204 : chkLoc (xp QM204 []) 20000 185 Qa204 Qp204 Qo204 = true := by decide +kernel
theorem Qc224 : chkLoc (xp QM224 []) 20000 185 Qa224 Qp224 Qo224 = true := by decide +kernel
theorem Qc239 : chkLoc (xp QM239 []) 20000 185 Qa239 Qp239 Qo239 = true := by decide +kernel
theorem Qc215 : chkLoc (xp QM215 []) 20000 185 Qa215 Qp215 Qo215 = true := by decide +kernel
theorem Qc2 : chkLoc (xp QM2 []) 20000 42 Qa2 Qp2 Qo2 = true := by decide +kernel
end
end Go.X
