/- What is known of calls: printed by program (wip/dx/Drv.lean). -/
import Derived.Test.YtbplpekmpoenaaaGreatDoorDxTbYK
import Derived.Test.YtbplpekmpoenaaaGreatDoorDxTbY10
import Derived.Test.YtbplpekmpoenaaaGreatDoorDxTbY11
import Derived.Test.YtbplpekmpoenaaaGreatDoorDxTbY12
import Derived.Test.YtbplpekmpoenaaaGreatDoorDxTbY13
import Derived.Test.YtbplpekmpoenaaaGreatDoorDxTbY14
import Derived.Test.YtbplpekmpoenaaaGreatDoorDxTbY15
import Derived.Test.YtbplpekmpoenaaaGreatDoorDxTbY16
import Derived.Test.YtbplpekmpoenaaaGreatDoorDxTbY17
import Derived.Test.YtbplpekmpoenaaaGreatDoorDxTbY18
import Derived.Test.YtbplpekmpoenaaaGreatDoorDxTbY19
import Derived.Test.YtbplpekmpoenaaaGreatDoorDxTbY20
import Derived.Test.YtbplpekmpoenaaaGreatDoorDxTbY21
namespace Go.X
open Go.Proofs
noncomputable section
set_option maxRecDepth 1000000
set_option maxHeartbeats 40000000
end
end Go.X
