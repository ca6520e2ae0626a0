/- What is known of calls: printed by program (wip/dx/Drv.lean). -/
import Derived.Test.YtbplpekmpoenaaaGreatDoorDxTbRD0
namespace Go.X
open Go.Proofs
noncomputable section
set_option maxRecDepth 1000000
set_option maxHeartbeats 40000000
theorem Rc115 : chkLoc (xp RM115 []) 20000 28 Ra115 Rp115 Ro115 = true := by decide +kernel
theorem Rc39 : chkLoc (xp RM39 []) 20000 28 Ra39 Rp39 Ro39 = true := by decide +kernel
theorem Rc51 : chkLoc (xp RM51 []) 20000 28 Ra51 Rp51 Ro51 = true := by decide +kernel
theorem Rc63 : chkLoc (xp RM63 []) 20000 28 Ra63 Rp63 Ro63 = true := by decide +kernel
theorem Rc72 : chkLoc (xp RM72 []) 20000 28 Ra72 Rp72 Ro72 = true := by decide +kernel
theorem Rc83 : chkLoc (xp RM83 []) 20000 28 Ra83 Rp83 Ro83 = true := by decide +kernel
theorem Rc87 : chkLoc (xp RM87 []) 20000 28 Ra87 Rp87 Ro87 = true := by decide +kernel
theorem Rc98 : chkLoc (xp RM98 []) 20000 28 Ra98 Rp98 Ro98 = true := by decide +kernel
theorem Rc102 : chkLoc (xp RM102 []) 20000 28 Ra102 Rp102 Ro102 = true := by decide +kernel
theorem Rc108 : chkLoc (xp RM108 []) 20000 28 Ra108 Rp108 Ro108 = true := by decide +kernel
theorem Rc8 : chkLoc (xp RM8 []) 20000 28 Ra8 Rp8 Ro8 = true := by decide +kernel
theorem Rc62 : chkLoc (xp RM62 []) 20000 45 Ra62 Rp62 Ro62 = true := by decide +kernel
theorem Rc82 : chkLoc (xp RM82 []) 20000 45 Ra82 Rp82 Ro82 = true := by decide +kernel
theorem Rc97 : chkLoc (xp RM97 []) 20000 45 Ra97 Rp97 Ro97 = true := by decide +kernel
theorem Rc107 : chkLoc (xp RM107 []) 20000 45 Ra107 Rp107 Ro107 = true := by decide +kernel
theorem Rc113 : chkLoc (xp RM113 []) 20000 45 Ra113 Rp113 Ro113 = true := by decide +kernel
theorem Rc96 : chkLoc (xp RM96 []) 20000 44 Ra96 Rp96 Ro96 = true := by decide +kernel
end
end Go.X
