/- What is known of calls: printed by program (wip/dx/Drv.lean). -/
import Derived.Test.YtfpiabkkelhgbaaGreatDoorDxTbQD0
namespace Go.X
open Go.Proofs
noncomputable section
set_option maxRecDepth 1000000
set_option maxHeartbeats 40000000
theorem Qc23 : chkLoc (xp QM23 []) 20000 14 Qa23 Qp23 Qo23 = true := by decide +kernel
theorem Qc65 : chkLoc (xp QM65 []) 20000 397 Qa65 Qp65 Qo65 = true := by decide +kernel
theorem Qc20 : chkLoc (xp QM20 []) 20000 397 Qa20 Qp20 Qo20 = true := by decide +kernel
theorem Qc35 : chkLoc (xp QM35 []) 20000 60 Qa35 Qp35 Qo35 = true := by decide +kernel
theorem Qc63 : chkLoc (xp QM63 []) 20000 60 Qa63 Qp63 Qo63 = true := by decide +kernel
theorem Qc43 : chkLoc (xp QM43 []) 20000 282 Qa43 Qp43 Qo43 = true := by decide +kernel
theorem Qc55 : chkLoc (xp QM55 []) 20000 397 Qa55 Qp55 Qo55 = true := by decide +kernel
theorem Qc26 : chkLoc (xp QM26 []) 20000 397 Qa26 Qp26 Qo26 = true := by decide +kernel
theorem Qc46 : chkLoc (xp QM46 []) 20000 282 Qa46 Qp46 Qo46 = true := by decide +kernel
theorem Qc61 : chkLoc (xp QM61 []) 20000 60 Qa61 Qp61 Qo61 = true := by decide +kernel
theorem Qc17 : chkLoc (xp QM17 []) 20000 60 Qa17 Qp17 Qo17 = true := by decide +kernel
theorem Qc64 : chkLoc (xp QM64 []) 20000 163 Qa64 Qp64 Qo64 = true := by decide +kernel
theorem Qc67 : chkLoc (xp QM67 []) 20000 60 Qa67 Qp67 Qo67 = true := by decide +kernel
theorem Qc66 : chkLoc (xp QM66 []) 20000 60 Qa66 Qp66 Qo66 = true := by decide +kernel
theorem Qc74 : chkLoc (xp QM74 []) 20000 60 Qa74 Qp74 Qo74 = true := by decide +kernel
theorem Qc14 : chkLoc (xp QM14 []) 20000 274 Qa14 Qp14 Qo14 = true := by decide +kernel
theorem Qc6 : chkLoc (xp QM6 []) 20000 274 Qa6 Qp6 Qo6 = true := by decide +kernel
theorem Qc21 : chkLoc (xp QM21 []) 20000 163 Qa21 Qp21 Qo21 = true := by decide +kernel
theorem Qc29 : chkLoc (xp QM29 []) 20000 397 Qa29 Qp29 Qo29 = true := by decide +kernel
theorem Qc18 : chkLoc (xp QM18 []) 20000 163 Qa18 Qp18 Qo18 = true := by decide +kernel
end
end Go.X
