/- What is known of calls: printed by program (wip/dx/Drv.lean). -/
import Derived.Test.YtfpiabkkelhgbaaGreatDoorDxTbYK
import Derived.Test.YtfpiabkkelhgbaaGreatDoorDxTbYKS
import Derived.Test.YtfpiabkkelhgbaaGreatDoorDxTbY4
import Derived.Test.YtfpiabkkelhgbaaGreatDoorDxTbY5
import Derived.Test.YtfpiabkkelhgbaaGreatDoorDxTbY6
import Derived.Test.YtfpiabkkelhgbaaGreatDoorDxTbY7
import Derived.Test.YtfpiabkkelhgbaaGreatDoorDxTbY8
import Derived.Test.YtfpiabkkelhgbaaGreatDoorDxTbY9
import Derived.Test.YtfpiabkkelhgbaaGreatDoorDxTbY10
import Derived.Test.YtfpiabkkelhgbaaGreatDoorDxTbY11
import Derived.Test.YtfpiabkkelhgbaaGreatDoorDxTbY12
import Derived.Test.YtfpiabkkelhgbaaGreatDoorDxTbY13
import Derived.Test.YtfpiabkkelhgbaaGreatDoorDxTbY14
import Derived.Test.YtfpiabkkelhgbaaGreatDoorDxTbY15
namespace Go.X
open Go.Proofs
noncomputable section
set_option maxRecDepth 1000000
set_option maxHeartbeats 40000000
end
end Go.X
