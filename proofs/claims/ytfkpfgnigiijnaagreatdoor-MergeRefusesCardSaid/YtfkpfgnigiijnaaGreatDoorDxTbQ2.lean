/- What is known of calls: printed by program (wip/dx/Drv.lean). -/
import Derived.Test.YtfkpfgnigiijnaaGreatDoorDxTbQD0
namespace Go.X
open Go.Proofs
noncomputable section
set_option maxRecDepth 1000000
set_option maxHeartbeats 40000000
theorem Qc4 : Zbo (xp QM4 []) 20000 228 Qa4 Qp4 Qo4 = true := by decide +kernel
theorem ZyI : Zbo (xp ZxP []) 20000 219 ZxL ZxM ZxO = true := by decide +kernel
theorem Qc8 : Zbo (xp QM8 []) 20000 146 Qa8 Qp8 Qo8 = true := by decide +kernel
theorem Qc1 : Zbo (xp QM1 []) 20000 84 Qa1 Qp1 Qo1 = true := by decide +kernel
theorem Qc2 : Zbo (xp QM2 []) 20000 84 Qa2 Qp2 Qo2 = true := by decide +kernel
theorem ZyJ : Zbo (xp ZxV []) 20000 146 ZxT Zwj ZxU = true := by decide +kernel
theorem Qc9 : Zbo (xp QM9 []) 20000 146 Qa9 Qp9 Qo9 = true := by decide +kernel
theorem Qc7 : Zbo (xp QM7 []) 20000 141 Qa7 Qp7 Qo7 = true := by decide +kernel
theorem ZyK : Zbo (xp ZxS []) 20000 141 ZxQ ZwQ ZxR = true := by decide +kernel
theorem ZyL : Zbo (xp Zx0 []) 20000 146 ZxW ZxX ZxZ = true := by decide +kernel
end
end Go.X
