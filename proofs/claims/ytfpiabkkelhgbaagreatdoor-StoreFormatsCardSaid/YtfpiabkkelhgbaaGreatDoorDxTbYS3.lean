/- What is known of calls: printed by program (wip/dx/Drv.lean). -/
import Derived.Test.YtfpiabkkelhgbaaGreatDoorDxTbYD1
namespace Go.X
open Go.Proofs
noncomputable section
set_option maxRecDepth 1000000
set_option maxHeartbeats 40000000
theorem Yc26 : chkLoc (xp YM26 YB38) 20000 45 Ya26 Yp26 Yo26 = true := by decide +kernel
theorem Yc25 : chkLoc (xp YM25 YB37) 20000 45 Ya25 Yp25 Yo25 = true := by decide +kernel
end
end Go.X
