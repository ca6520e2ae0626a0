/- What is known of calls: printed by program (wip/dx/Drv.lean). -/
import Derived.Test.YtbplpekmpoenaaaGreatDoorDxTbRD0
namespace Go.X
open Go.Proofs
noncomputable section
set_option maxRecDepth 1000000
set_option maxHeartbeats 40000000
theorem Rc31 : chkLoc (xp RM31 []) 20000 41 Ra31 Rp31 Ro31 = true := by decide +kernel
theorem Rc35 : chkLoc (xp RM35 []) 20000 41 Ra35 Rp35 Ro35 = true := by decide +kernel
theorem Rc38 : chkLoc (xp RM38 []) 20000 41 Ra38 Rp38 Ro38 = true := by decide +kernel
theorem Rc40 : chkLoc (xp RM40 []) 20000 41 Ra40 Rp40 Ro40 = true := by decide +kernel
theorem Rc43 : chkLoc (xp RM43 []) 20000 41 Ra43 Rp43 Ro43 = true := by decide +kernel
theorem Rc106 : chkLoc (xp RM106 []) 20000 41 Ra106 Rp106 Ro106 = true := by decide +kernel
theorem Rc112 : chkLoc (xp RM112 []) 20000 41 Ra112 Rp112 Ro112 = true := by decide +kernel
theorem Rc19 : chkLoc (xp RM19 []) 20000 43 Ra19 Rp19 Ro19 = true := by decide +kernel
theorem Rc50 : chkLoc (xp RM50 []) 20000 43 Ra50 Rp50 Ro50 = true := by decide +kernel
theorem Rc4 : chkLoc (xp RM4 []) 20000 41 Ra4 Rp4 Ro4 = true := by decide +kernel
theorem Rc6 : chkLoc (xp RM6 []) 20000 41 Ra6 Rp6 Ro6 = true := by decide +kernel
theorem Rc9 : chkLoc (xp RM9 []) 20000 41 Ra9 Rp9 Ro9 = true := by decide +kernel
theorem Rc24 : chkLoc (xp RM24 []) 20000 41 Ra24 Rp24 Ro24 = true := by decide +kernel
theorem Rc44 : chkLoc (xp RM44 []) 20000 41 Ra44 Rp44 Ro44 = true := by decide +kernel
theorem Rc48 : chkLoc (xp RM48 []) 20000 41 Ra48 Rp48 Ro48 = true := by decide +kernel
theorem Rc56 : chkLoc (xp RM56 []) 20000 41 Ra56 Rp56 Ro56 = true := by decide +kernel
theorem Rc60 : chkLoc (xp RM60 []) 20000 41 Ra60 Rp60 Ro60 = true := by decide +kernel
theorem Rc76 : chkLoc (xp RM76 []) 20000 41 Ra76 Rp76 Ro76 = true := by decide +kernel
theorem Rc80 : chkLoc (xp RM80 []) 20000 41 Ra80 Rp80 Ro80 = true := by decide +kernel
theorem Rc91 : chkLoc (xp RM91 []) 20000 41 Ra91 Rp91 Ro91 = true := by decide +kernel
theorem Rc95 : chkLoc (xp RM95 []) 20000 41 Ra95 Rp95 Ro95 = true := by decide +kernel
theorem Rc116 : chkLoc (xp RM116 []) 20000 41 Ra116 Rp116 Ro116 = true := by decide +kernel
theorem Rc67 : chkLoc (xp RM67 []) 20000 41 Ra67 Rp67 Ro67 = true := by decide +kernel
theorem Rc29 : chkLoc (xp RM29 []) 20000 41 Ra29 Rp29 Ro29 = true := by decide +kernel
theorem Rc5 : chkLoc (xp RM5 []) 20000 28 Ra5 Rp5 Ro5 = true := by decide +kernel
end
end Go.X
