/- What is known of calls: printed by program (wip/dx/Drv.lean). -/
import Derived.Test.YtbplpekmpoenaaaGreatDoorDxTbQD1
namespace Go.X
open Go.Proofs
noncomputable section
set_option maxRecDepth 1000000
set_option maxHeartbeats 40000000
theorem Qc48 : chkLoc (xp QM48 []) 20000 185 Qa48 Qp48 Qo48 = true := by decide +kernel
theorem Qc55 : chkLoc (xp QM55 []) 20000 185 Qa55 Qp55 Qo55 = true := by decide +kernel
theorem Qc67 : chkLoc (xp QM67 []) 20000 185 Qa67 Qp67 Qo67 = true := by decide +kernel
theorem Qc100 : chkLoc (xp QM100 []) 20000 361 Qa100 Qp100 Qo100 = true := by decide +kernel
theorem Qc109 : chkLoc (xp QM109 []) 20000 361 Qa109 Qp109 Qo109 = true := by decide +kernel
theorem Qc104 : chkLoc (xp QM104 []) 20000 361 Qa104 Qp104 Qo104 = true := by decide +kernel
theorem Qc203 : chkLoc (xp QM203 []) 20000 361 Qa203 Qp203 Qo203 = true := by decide +kernel
theorem Qc17 : chkLoc (xp QM17 []) 20000 361 Qa17 Qp17 Qo17 = true := by decide +kernel
theorem Qc93 : chkLoc (xp QM93 []) 20000 361 Qa93 Qp93 Qo93 = true := by decide +kernel
theorem Qc161 : chkLoc (xp QM161 []) 20000 361 Qa161 Qp161 Qo161 = true := by decide +kernel
theorem Qc173 : chkLoc (xp QM173 []) 20000 361 Qa173 Qp173 Qo173 = true := by decide +kernel
theorem Qc192 : chkLoc (xp QM192 []) 20000 361 Qa192 Qp192 Qo192 = true := by decide +kernel
theorem Qc40 : chkLoc (xp QM40 []) 20000 361 Qa40 Qp40 Qo40 = true := by decide +kernel
theorem Qc183 : chkLoc (xp QM183 []) 20000 28 Qa183 Qp183 Qo183 = true := by decide +kernel
theorem Qc89 : chkLoc (xp QM89 []) 20000 28 Qa89 Qp89 Qo89 = true := by decide +kernel
end
end Go.X
