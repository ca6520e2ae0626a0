/- What is known of calls: printed by program (wip/dx/Drv.lean). -/
import Derived.Test.YtbplpekmpoenaaaGreatDoorDxTbQD1
namespace Go.X
open Go.Proofs
noncomputable section
set_option maxRecDepth 1000000
set_option maxHeartbeats 40000000
theorem Qc58 : chkLoc (xp QM58 []) 20000 301 Qa58 Qp58 Qo58 = true := by decide +kernel
theorem Qc120 : chkLoc (xp QM120 []) 20000 301 Qa120 Qp120 Qo120 = true := by decide +kernel
theorem Qc133 : chkLoc (xp QM133 []) 20000 301 Qa133 Qp133 Qo133 = true := by decide +kernel
theorem Qc28 : chkLoc (xp QM28 []) 20000 301 Qa28 Qp28 Qo28 = true := by decide +kernel
theorem Qc112 : chkLoc (xp QM112 []) 20000 301 Qa112 Qp112 Qo112 = true := by decide +kernel
theorem Qc117 : chkLoc (xp QM117 []) 20000 261 Qa117 Qp117 Qo117 = true := by decide +kernel
theorem Qc126 : chkLoc (xp QM126 []) 20000 261 Qa126 Qp126 Qo126 = true := by decide +kernel
theorem Qc74 : chkLoc (xp QM74 []) 20000 28 Qa74 Qp74 Qo74 = true := by decide +kernel
theorem Qc81 : chkLoc (xp QM81 []) 20000 28 Qa81 Qp81 Qo81 = true := by decide +kernel
theorem Qc144 : chkLoc (xp QM144 []) 20000 28 Qa144 Qp144 Qo144 = true := by decide +kernel
theorem Qc149 : chkLoc (xp QM149 []) 20000 28 Qa149 Qp149 Qo149 = true := by decide +kernel
theorem Qc18 : chkLoc (xp QM18 []) 20000 28 Qa18 Qp18 Qo18 = true := by decide +kernel
theorem Qc41 : chkLoc (xp QM41 []) 20000 28 Qa41 Qp41 Qo41 = true := by decide +kernel
theorem Qc60 : chkLoc (xp QM60 []) 20000 28 Qa60 Qp60 Qo60 = true := by decide +kernel
theorem Qc94 : chkLoc (xp QM94 []) 20000 28 Qa94 Qp94 Qo94 = true := by decide +kernel
theorem Qc105 : chkLoc (xp QM105 []) 20000 28 Qa105 Qp105 Qo105 = true := by decide +kernel
theorem Qc216 : chkLoc (xp QM216 []) 20000 44 Qa216 Qp216 Qo216 = true := by decide +kernel
end
end Go.X
