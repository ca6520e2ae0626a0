/- What is known of calls: printed by program (wip/dx/Drv.lean). -/
import Derived.Test.YtbplpekmpoenaaaGreatDoorDxTbQD1
namespace Go.X
open Go.Proofs
noncomputable section
set_option maxRecDepth 1000000
set_option maxHeartbeats 40000000
theorem Qc76 : chkLoc (xp QM76 []) 20000 363 Qa76 Qp76 Qo76 = true := by decide +kernel
theorem Qc9 : chkLoc (xp QM9 []) 20000 524 Qa9 Qp9 Qo9 = true := by decide +kernel
theorem Qc10 : chkLoc (xp QM10 []) 20000 524 Qa10 Qp10 Qo10 = true := by decide +kernel
theorem Qc98 : chkLoc (xp QM98 []) 20000 524 Qa98 Qp98 Qo98 = true := by decide +kernel
theorem Qc159 : chkLoc (xp QM159 []) 20000 31 Qa159 Qp159 Qo159 = true := by decide +kernel
theorem Qc182 : chkLoc (xp QM182 []) 20000 355 Qa182 Qp182 Qo182 = true := by decide +kernel
theorem Qc187 : chkLoc (xp QM187 []) 20000 355 Qa187 Qp187 Qo187 = true := by decide +kernel
theorem Qc156 : chkLoc (xp QM156 []) 20000 355 Qa156 Qp156 Qo156 = true := by decide +kernel
theorem Qc191 : chkLoc (xp QM191 []) 20000 371 Qa191 Qp191 Qo191 = true := by decide +kernel
theorem Qc198 : chkLoc (xp QM198 []) 20000 371 Qa198 Qp198 Qo198 = true := by decide +kernel
theorem Qc202 : chkLoc (xp QM202 []) 20000 371 Qa202 Qp202 Qo202 = true := by decide +kernel
theorem Qc209 : chkLoc (xp QM209 []) 20000 371 Qa209 Qp209 Qo209 = true := by decide +kernel
theorem Qc85 : chkLoc (xp QM85 []) 20000 28 Qa85 Qp85 Qo85 = true := by decide +kernel
end
end Go.X
