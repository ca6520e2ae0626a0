/- What is known of calls: printed by program (wip/dx/Drv.lean). -/
import Derived.Test.YtbplpekmpoenaaaGreatDoorDxTbUK
import Derived.Test.YtbplpekmpoenaaaGreatDoorDxTbU0
import Derived.Test.YtbplpekmpoenaaaGreatDoorDxTbU1
import Derived.Test.YtbplpekmpoenaaaGreatDoorDxTbU2
import Derived.Test.YtbplpekmpoenaaaGreatDoorDxTbU3
import Derived.Test.YtbplpekmpoenaaaGreatDoorDxTbU4
namespace Go.X
open Go.Proofs
noncomputable section
set_option maxRecDepth 1000000
set_option maxHeartbeats 40000000
end
end Go.X
