/- What is known of calls: printed by program (wip/dx/Drv.lean). -/
import Derived.Test.YtbplpekmpoenaaaGreatDoorDxTbQD1
namespace Go.X
open Go.Proofs
noncomputable section
set_option maxRecDepth 1000000
set_option maxHeartbeats 40000000
theorem Qc129 : chkLoc (xp QM129 []) 20000 301 Qa129 Qp129 Qo129 = true := by decide +kernel
theorem Qc138 : chkLoc (xp QM138 []) 20000 301 Qa138 Qp138 Qo138 = true := by decide +kernel
theorem Qc142 : chkLoc (xp QM142 []) 20000 301 Qa142 Qp142 Qo142 = true := by decide +kernel
theorem Qc147 : chkLoc (xp QM147 []) 20000 301 Qa147 Qp147 Qo147 = true := by decide +kernel
theorem Qc11 : chkLoc (xp QM11 []) 20000 301 Qa11 Qp11 Qo11 = true := by decide +kernel
theorem Qc16 : chkLoc (xp QM16 []) 20000 301 Qa16 Qp16 Qo16 = true := by decide +kernel
theorem Qc23 : chkLoc (xp QM23 []) 20000 301 Qa23 Qp23 Qo23 = true := by decide +kernel
theorem Qc34 : chkLoc (xp QM34 []) 20000 301 Qa34 Qp34 Qo34 = true := by decide +kernel
theorem Qc46 : chkLoc (xp QM46 []) 20000 301 Qa46 Qp46 Qo46 = true := by decide +kernel
theorem Qc53 : chkLoc (xp QM53 []) 20000 301 Qa53 Qp53 Qo53 = true := by decide +kernel
theorem Qc65 : chkLoc (xp QM65 []) 20000 301 Qa65 Qp65 Qo65 = true := by decide +kernel
theorem Qc72 : chkLoc (xp QM72 []) 20000 301 Qa72 Qp72 Qo72 = true := by decide +kernel
theorem Qc79 : chkLoc (xp QM79 []) 20000 301 Qa79 Qp79 Qo79 = true := by decide +kernel
theorem Qc92 : chkLoc (xp QM92 []) 20000 301 Qa92 Qp92 Qo92 = true := by decide +kernel
theorem Qc39 : chkLoc (xp QM39 []) 20000 301 Qa39 Qp39 Qo39 = true := by decide +kernel
theorem Qc188 : chkLoc (xp QM188 []) 20000 28 Qa188 Qp188 Qo188 = true := by decide +kernel
theorem Qc206 : chkLoc (xp QM206 []) 20000 44 Qa206 Qp206 Qo206 = true := by decide +kernel
end
end Go.X
