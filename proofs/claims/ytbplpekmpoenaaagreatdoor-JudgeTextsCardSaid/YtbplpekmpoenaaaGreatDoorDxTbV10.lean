/- What is known of calls: printed by program (wip/dx/Drv.lean). -/
import Derived.Test.YtbplpekmpoenaaaGreatDoorDxTbVD0
namespace Go.X
open Go.Proofs
noncomputable section
set_option maxRecDepth 1000000
set_option maxHeartbeats 40000000
theorem Vc0 : chkLoc (xp VM0 []) 20000 70 Va0 Vp0 Vo0 = true := by decide +kernel
theorem Vc153 : chkLoc (xp VM153 []) 20000 70 Va153 Vp153 Vo153 = true := by decide +kernel
theorem Vc67 : chkLoc (xp VM67 []) 20000 261 Va67 Vp67 Vo67 = true := by decide +kernel
theorem Vc78 : chkLoc (xp VM78 []) 20000 261 Va78 Vp78 Vo78 = true := by decide +kernel
theorem Vc119 : chkLoc (xp VM119 []) 20000 261 Va119 Vp119 Vo119 = true := by decide +kernel
theorem Vc130 : chkLoc (xp VM130 []) 20000 261 Va130 Vp130 Vo130 = true := by decide +kernel
theorem Vc103 : chkLoc (xp VM103 []) 20000 261 Va103 Vp103 Vo103 = true := by decide +kernel
theorem Vc115 : chkLoc (xp VM115 []) 20000 261 Va115 Vp115 Vo115 = true := by decide +kernel
theorem Vc150 : chkLoc (xp VM150 []) 20000 18 Va150 Vp150 Vo150 = true := by decide +kernel
theorem Vc144 : chkLoc (xp VM144 []) 20000 12 Va144 Vp144 Vo144 = true := by decide +kernel
theorem Vc92 : chkLoc (xp VM92 []) 20000 12 Va92 Vp92 Vo92 = true := by decide +kernel
theorem Vc4 : chkLoc (xp VM4 []) 20000 28 Va4 Vp4 Vo4 = true := by decide +kernel
theorem Vc84 : chkLoc (xp VM84 []) 20000 41 Va84 Vp84 Vo84 = true := by decide +kernel
end
end Go.X
