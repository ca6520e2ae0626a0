/- What is known of calls: printed by program (wip/dx/Drv.lean). -/
import Derived.Test.YtbplpekmpoenaaaGreatDoorDxTbVD0
namespace Go.X
open Go.Proofs
noncomputable section
set_option maxRecDepth 1000000
set_option maxHeartbeats 40000000
theorem Vc91 : chkLoc (xp VM91 []) 20000 45 Va91 Vp91 Vo91 = true := by decide +kernel
theorem Vc112 : chkLoc (xp VM112 []) 20000 45 Va112 Vp112 Vo112 = true := by decide +kernel
theorem Vc127 : chkLoc (xp VM127 []) 20000 45 Va127 Vp127 Vo127 = true := by decide +kernel
theorem Vc137 : chkLoc (xp VM137 []) 20000 45 Va137 Vp137 Vo137 = true := by decide +kernel
theorem Vc143 : chkLoc (xp VM143 []) 20000 45 Va143 Vp143 Vo143 = true := by decide +kernel
theorem Vc90 : chkLoc (xp VM90 []) 20000 41 Va90 Vp90 Vo90 = true := by decide +kernel
theorem Vc136 : chkLoc (xp VM136 []) 20000 41 Va136 Vp136 Vo136 = true := by decide +kernel
theorem Vc142 : chkLoc (xp VM142 []) 20000 41 Va142 Vp142 Vo142 = true := by decide +kernel
theorem Vc20 : chkLoc (xp VM20 []) 20000 43 Va20 Vp20 Vo20 = true := by decide +kernel
theorem Vc28 : chkLoc (xp VM28 []) 20000 43 Va28 Vp28 Vo28 = true := by decide +kernel
theorem Vc16 : chkLoc (xp VM16 []) 20000 41 Va16 Vp16 Vo16 = true := by decide +kernel
theorem Vc19 : chkLoc (xp VM19 []) 20000 41 Va19 Vp19 Vo19 = true := by decide +kernel
theorem Vc21 : chkLoc (xp VM21 []) 20000 41 Va21 Vp21 Vo21 = true := by decide +kernel
theorem Vc26 : chkLoc (xp VM26 []) 20000 41 Va26 Vp26 Vo26 = true := by decide +kernel
theorem Vc34 : chkLoc (xp VM34 []) 20000 41 Va34 Vp34 Vo34 = true := by decide +kernel
theorem Vc38 : chkLoc (xp VM38 []) 20000 41 Va38 Vp38 Vo38 = true := by decide +kernel
theorem Vc54 : chkLoc (xp VM54 []) 20000 41 Va54 Vp54 Vo54 = true := by decide +kernel
theorem Vc58 : chkLoc (xp VM58 []) 20000 41 Va58 Vp58 Vo58 = true := by decide +kernel
theorem Vc69 : chkLoc (xp VM69 []) 20000 41 Va69 Vp69 Vo69 = true := by decide +kernel
theorem Vc73 : chkLoc (xp VM73 []) 20000 41 Va73 Vp73 Vo73 = true := by decide +kernel
theorem Vc105 : chkLoc (xp VM105 []) 20000 41 Va105 Vp105 Vo105 = true := by decide +kernel
theorem Vc110 : chkLoc (xp VM110 []) 20000 41 Va110 Vp110 Vo110 = true := by decide +kernel
theorem Vc121 : chkLoc (xp VM121 []) 20000 41 Va121 Vp121 Vo121 = true := by decide +kernel
theorem Vc125 : chkLoc (xp VM125 []) 20000 41 Va125 Vp125 Vo125 = true := by decide +kernel
theorem Vc145 : chkLoc (xp VM145 []) 20000 41 Va145 Vp145 Vo145 = true := by decide +kernel
theorem Vc146 : chkLoc (xp VM146 []) 20000 41 Va146 Vp146 Vo146 = true := by decide +kernel
theorem Vc45 : chkLoc (xp VM45 []) 20000 41 Va45 Vp45 Vo45 = true := by decide +kernel
theorem Vc74 : chkLoc (xp VM74 []) 20000 44 Va74 Vp74 Vo74 = true := by decide +kernel
theorem Vc111 : chkLoc (xp VM111 []) 20000 44 Va111 Vp111 Vo111 = true := by decide +kernel
theorem Vc126 : chkLoc (xp VM126 []) 20000 44 Va126 Vp126 Vo126 = true := by decide +kernel
end
end Go.X
