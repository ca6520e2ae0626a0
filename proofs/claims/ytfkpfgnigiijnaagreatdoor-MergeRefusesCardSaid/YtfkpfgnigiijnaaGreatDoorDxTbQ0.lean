/- What is known of calls: printed by program (wip/dx/Drv.lean). -/
import Derived.Test.YtfkpfgnigiijnaaGreatDoorDxTbQD0
namespace Go.X
open Go.Proofs
noncomputable section
set_option maxRecDepth 1000000
set_option maxHeartbeats 40000000
theorem Qc0 : ZjH (xp QM0 []) 20000 340 Qa0 Qv0 = true := by decide +kernel
theorem Qc3 : Zbo (xp QM3 []) 20000 72 Qa3 Qp3 Qo3 = true := by decide +kernel
end
end Go.X
