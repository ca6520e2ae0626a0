/- What is known of calls: printed by program (wip/dx/Drv.lean). -/
import Derived.Test.YtbplpekmpoenaaaGreatDoorDxTbSK
import Derived.Test.YtbplpekmpoenaaaGreatDoorDxTbS0
import Derived.Test.YtbplpekmpoenaaaGreatDoorDxTbS1
import Derived.Test.YtbplpekmpoenaaaGreatDoorDxTbS2
import Derived.Test.YtbplpekmpoenaaaGreatDoorDxTbS3
import Derived.Test.YtbplpekmpoenaaaGreatDoorDxTbS4
import Derived.Test.YtbplpekmpoenaaaGreatDoorDxTbS5
import Derived.Test.YtbplpekmpoenaaaGreatDoorDxTbS6
namespace Go.X
open Go.Proofs
noncomputable section
set_option maxRecDepth 1000000
set_option maxHeartbeats 40000000
end
end Go.X
