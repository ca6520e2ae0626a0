/- What is known of calls: printed by program (wip/dx/Drv.lean). -/
import Derived.Test.YtbplpekmpoenaaaGreatDoorDxTbQD1
namespace Go.X
open Go.Proofs
noncomputable section
set_option maxRecDepth 1000000
set_option maxHeartbeats 40000000
theorem Qc59 : chkLoc (xp QM59 []) 20000 361 Qa59 Qp59 Qo59 = true := by decide +kernel
theorem Qc121 : chkLoc (xp QM121 []) 20000 361 Qa121 Qp121 Qo121 = true := by decide +kernel
theorem Qc134 : chkLoc (xp QM134 []) 20000 361 Qa134 Qp134 Qo134 = true := by decide +kernel
theorem Qc223 : chkLoc (xp QM223 []) 20000 361 Qa223 Qp223 Qo223 = true := by decide +kernel
theorem Qc238 : chkLoc (xp QM238 []) 20000 361 Qa238 Qp238 Qo238 = true := by decide +kernel
theorem Qc29 : chkLoc (xp QM29 []) 20000 361 Qa29 Qp29 Qo29 = true := by decide +kernel
theorem Qc113 : chkLoc (xp QM113 []) 20000 361 Qa113 Qp113 Qo113 = true := by decide +kernel
theorem Qc214 : chkLoc (xp QM214 []) 20000 361 Qa214 Qp214 Qo214 = true := by decide +kernel
theorem Qc54 : chkLoc (xp QM54 []) 20000 261 Qa54 Qp54 Qo54 = true := by decide +kernel
theorem Qc66 : chkLoc (xp QM66 []) 20000 261 Qa66 Qp66 Qo66 = true := by decide +kernel
theorem Qc168 : chkLoc (xp QM168 []) 20000 355 Qa168 Qp168 Qo168 = true := by decide +kernel
theorem Qc178 : chkLoc (xp QM178 []) 20000 355 Qa178 Qp178 Qo178 = true := by decide +kernel
theorem Qc151 : chkLoc (xp QM151 []) 20000 355 Qa151 Qp151 Qo151 = true := by decide +kernel
theorem Qc234 : chkLoc (xp QM234 []) 20000 261 Qa234 Qp234 Qo234 = true := by decide +kernel
end
end Go.X
