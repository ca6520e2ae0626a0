/- What is known of calls: printed by program (wip/dx/Drv.lean). -/
import Derived.Test.YtbplpekmpoenaaaGreatDoorDxTbQD1
namespace Go.X
open Go.Proofs
noncomputable section
set_option maxRecDepth 1000000
set_option maxHeartbeats 40000000
theorem Qc35 : chkLoc (xp QM35 []) 20000 261 Qa35 Qp35 Qo35 = true := by decide +kernel
theorem Qc47 : chkLoc (xp QM47 []) 20000 261 Qa47 Qp47 Qo47 = true := by decide +kernel
theorem Qc172 : chkLoc (xp QM172 []) 20000 303 Qa172 Qp172 Qo172 = true := by decide +kernel
theorem Qc245 : chkLoc (xp QM245 []) 20000 261 Qa245 Qp245 Qo245 = true := by decide +kernel
theorem Qc130 : chkLoc (xp QM130 []) 20000 261 Qa130 Qp130 Qo130 = true := by decide +kernel
theorem Qc139 : chkLoc (xp QM139 []) 20000 261 Qa139 Qp139 Qo139 = true := by decide +kernel
theorem Qc219 : chkLoc (xp QM219 []) 20000 261 Qa219 Qp219 Qo219 = true := by decide +kernel
theorem Qc230 : chkLoc (xp QM230 []) 20000 261 Qa230 Qp230 Qo230 = true := by decide +kernel
theorem Qc12 : chkLoc (xp QM12 []) 20000 261 Qa12 Qp12 Qo12 = true := by decide +kernel
theorem Qc24 : chkLoc (xp QM24 []) 20000 261 Qa24 Qp24 Qo24 = true := by decide +kernel
theorem Qc99 : chkLoc (xp QM99 []) 20000 301 Qa99 Qp99 Qo99 = true := by decide +kernel
theorem Qc103 : chkLoc (xp QM103 []) 20000 301 Qa103 Qp103 Qo103 = true := by decide +kernel
theorem Qc108 : chkLoc (xp QM108 []) 20000 301 Qa108 Qp108 Qo108 = true := by decide +kernel
theorem Qc116 : chkLoc (xp QM116 []) 20000 301 Qa116 Qp116 Qo116 = true := by decide +kernel
theorem Qc125 : chkLoc (xp QM125 []) 20000 301 Qa125 Qp125 Qo125 = true := by decide +kernel
theorem Qc207 : chkLoc (xp QM207 []) 20000 45 Qa207 Qp207 Qo207 = true := by decide +kernel
end
end Go.X
