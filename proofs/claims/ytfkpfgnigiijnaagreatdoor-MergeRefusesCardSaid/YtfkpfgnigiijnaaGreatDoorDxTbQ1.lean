/- What is known of calls: printed by program (wip/dx/Drv.lean). -/
import Derived.Test.YtfkpfgnigiijnaaGreatDoorDxTbQD0
namespace Go.X
open Go.Proofs
noncomputable section
set_option maxRecDepth 1000000
set_option maxHeartbeats 40000000
theorem ZyE : Zbo (xp Zx4 []) 20000 65 Zx1 Zx2 Zx3 = true := by decide +kernel
theorem ZyF : Zbo (xp ZxH []) 20000 65 ZxE ZxF ZxG = true := by decide +kernel
theorem Qc5 : Zbo (xp QM5 []) 20000 65 Qa5 Qp5 Qo5 = true := by decide +kernel
theorem ZyG : Zbo (xp Zx7 []) 20000 12 Zx5 ZwV Zx6 = true := by decide +kernel
theorem ZyH : Zbo (xp ZxK []) 20000 12 ZxI ZwN ZxJ = true := by decide +kernel
theorem Qc6 : Zbo (xp QM6 []) 20000 12 Qa6 Qp6 Qo6 = true := by decide +kernel
end
end Go.X
