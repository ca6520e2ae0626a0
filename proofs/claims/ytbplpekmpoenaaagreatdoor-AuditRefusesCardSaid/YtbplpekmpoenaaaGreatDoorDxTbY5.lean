/- What is known of calls: printed by program (wip/dx/Drv.lean). -/
import Derived.Test.YtbplpekmpoenaaaGreatDoorDxTbYD0
namespace Go.X
open Go.Proofs
noncomputable section
set_option maxRecDepth 1000000
set_option maxHeartbeats 40000000
theorem Yc105 : chkLoc (xp YM105 []) 20000 371 Ya105 Yp105 Yo105 = true := by decide +kernel
theorem Yc111 : chkLoc (xp YM111 []) 20000 371 Ya111 Yp111 Yo111 = true := by decide +kernel
theorem Yc26 : chkLoc (xp YM26 []) 20000 301 Ya26 Yp26 Yo26 = true := by decide +kernel
theorem Yc117 : chkLoc (xp YM117 []) 20000 10 Ya117 Yp117 Yo117 = true := by decide +kernel
theorem Yc56 : chkLoc (xp YM56 []) 20000 361 Ya56 Yp56 Yo56 = true := by decide +kernel
theorem Yc106 : chkLoc (xp YM106 []) 20000 361 Ya106 Yp106 Yo106 = true := by decide +kernel
theorem Yc112 : chkLoc (xp YM112 []) 20000 361 Ya112 Yp112 Yo112 = true := by decide +kernel
theorem Yc67 : chkLoc (xp YM67 []) 20000 361 Ya67 Yp67 Yo67 = true := by decide +kernel
theorem Yc60 : chkLoc (xp YM60 []) 20000 361 Ya60 Yp60 Yo60 = true := by decide +kernel
theorem Yc14 : chkLoc (xp YM14 []) 20000 361 Ya14 Yp14 Yo14 = true := by decide +kernel
theorem Yc63 : chkLoc (xp YM63 []) 20000 44 Ya63 Yp63 Yo63 = true := by decide +kernel
end
end Go.X
