/- What is known of calls: printed by program (wip/dx/Drv.lean). -/
import Derived.Test.YtbplpekmpoenaaaGreatDoorDxTbQD1
namespace Go.X
open Go.Proofs
noncomputable section
set_option maxRecDepth 1000000
set_option maxHeartbeats 40000000
theorem Qc213 : chkLoc (xp QM213 []) 20000 371 Qa213 Qp213 Qo213 = true := by decide +kernel
theorem Qc218 : chkLoc (xp QM218 []) 20000 371 Qa218 Qp218 Qo218 = true := by decide +kernel
theorem Qc222 : chkLoc (xp QM222 []) 20000 371 Qa222 Qp222 Qo222 = true := by decide +kernel
theorem Qc229 : chkLoc (xp QM229 []) 20000 371 Qa229 Qp229 Qo229 = true := by decide +kernel
theorem Qc233 : chkLoc (xp QM233 []) 20000 371 Qa233 Qp233 Qo233 = true := by decide +kernel
theorem Qc237 : chkLoc (xp QM237 []) 20000 371 Qa237 Qp237 Qo237 = true := by decide +kernel
theorem Qc244 : chkLoc (xp QM244 []) 20000 371 Qa244 Qp244 Qo244 = true := by decide +kernel
theorem Qc248 : chkLoc (xp QM248 []) 20000 371 Qa248 Qp248 Qo248 = true := by decide +kernel
theorem Qc254 : chkLoc (xp QM254 []) 20000 371 Qa254 Qp254 Qo254 = true := by decide +kernel
theorem Qc171 : chkLoc (xp QM171 []) 20000 301 Qa171 Qp171 Qo171 = true := by decide +kernel
theorem Qc259 : chkLoc (xp QM259 []) 20000 10 Qa259 Qp259 Qo259 = true := by decide +kernel
theorem Qc199 : chkLoc (xp QM199 []) 20000 361 Qa199 Qp199 Qo199 = true := by decide +kernel
theorem Qc143 : chkLoc (xp QM143 []) 20000 361 Qa143 Qp143 Qo143 = true := by decide +kernel
theorem Qc167 : chkLoc (xp QM167 []) 20000 41 Qa167 Qp167 Qo167 = true := by decide +kernel
end
end Go.X
