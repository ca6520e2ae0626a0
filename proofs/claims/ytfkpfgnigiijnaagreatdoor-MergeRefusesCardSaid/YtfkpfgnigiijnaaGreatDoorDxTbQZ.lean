/- What is known of calls: printed by program (wip/dx/Drv.lean). -/
import Derived.Test.YtfkpfgnigiijnaaGreatDoorDxTbQK
import Derived.Test.YtfkpfgnigiijnaaGreatDoorDxTbQ3
namespace Go.X
open Go.Proofs
noncomputable section
set_option maxRecDepth 1000000
set_option maxHeartbeats 40000000
end
end Go.X
