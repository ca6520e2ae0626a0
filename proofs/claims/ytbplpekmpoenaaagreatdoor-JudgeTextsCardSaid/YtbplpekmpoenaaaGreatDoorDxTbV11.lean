/- What is known of calls: printed by program (wip/dx/Drv.lean). -/
import Derived.Test.YtbplpekmpoenaaaGreatDoorDxTbVD0
namespace Go.X
open Go.Proofs
noncomputable section
set_option maxRecDepth 1000000
set_option maxHeartbeats 40000000
theorem Vc8 : chkLoc (xp VM8 []) 20000 28 Va8 Vp8 Vo8 = true := by decide +kernel
theorem Vc93 : chkLoc (xp VM93 []) 20000 28 Va93 Vp93 Vo93 = true := by decide +kernel
theorem Vc97 : chkLoc (xp VM97 []) 20000 28 Va97 Vp97 Vo97 = true := by decide +kernel
theorem Vc101 : chkLoc (xp VM101 []) 20000 28 Va101 Vp101 Vo101 = true := by decide +kernel
theorem Vc113 : chkLoc (xp VM113 []) 20000 28 Va113 Vp113 Vo113 = true := by decide +kernel
theorem Vc117 : chkLoc (xp VM117 []) 20000 28 Va117 Vp117 Vo117 = true := by decide +kernel
theorem Vc128 : chkLoc (xp VM128 []) 20000 28 Va128 Vp128 Vo128 = true := by decide +kernel
theorem Vc132 : chkLoc (xp VM132 []) 20000 28 Va132 Vp132 Vo132 = true := by decide +kernel
theorem Vc138 : chkLoc (xp VM138 []) 20000 28 Va138 Vp138 Vo138 = true := by decide +kernel
theorem Vc29 : chkLoc (xp VM29 []) 20000 28 Va29 Vp29 Vo29 = true := by decide +kernel
theorem Vc41 : chkLoc (xp VM41 []) 20000 28 Va41 Vp41 Vo41 = true := by decide +kernel
theorem Vc50 : chkLoc (xp VM50 []) 20000 28 Va50 Vp50 Vo50 = true := by decide +kernel
theorem Vc61 : chkLoc (xp VM61 []) 20000 28 Va61 Vp61 Vo61 = true := by decide +kernel
theorem Vc65 : chkLoc (xp VM65 []) 20000 28 Va65 Vp65 Vo65 = true := by decide +kernel
theorem Vc76 : chkLoc (xp VM76 []) 20000 28 Va76 Vp76 Vo76 = true := by decide +kernel
theorem Vc80 : chkLoc (xp VM80 []) 20000 28 Va80 Vp80 Vo80 = true := by decide +kernel
theorem Vc86 : chkLoc (xp VM86 []) 20000 28 Va86 Vp86 Vo86 = true := by decide +kernel
theorem Vc17 : chkLoc (xp VM17 []) 20000 28 Va17 Vp17 Vo17 = true := by decide +kernel
theorem Vc40 : chkLoc (xp VM40 []) 20000 45 Va40 Vp40 Vo40 = true := by decide +kernel
theorem Vc60 : chkLoc (xp VM60 []) 20000 45 Va60 Vp60 Vo60 = true := by decide +kernel
theorem Vc75 : chkLoc (xp VM75 []) 20000 45 Va75 Vp75 Vo75 = true := by decide +kernel
theorem Vc85 : chkLoc (xp VM85 []) 20000 45 Va85 Vp85 Vo85 = true := by decide +kernel
end
end Go.X
