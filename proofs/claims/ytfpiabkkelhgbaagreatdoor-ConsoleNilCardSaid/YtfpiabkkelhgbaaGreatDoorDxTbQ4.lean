/- What is known of calls: printed by program (wip/dx/Drv.lean). -/
import Derived.Test.YtfpiabkkelhgbaaGreatDoorDxTbQD0
namespace Go.X
open Go.Proofs
noncomputable section
set_option maxRecDepth 1000000
set_option maxHeartbeats 40000000
theorem Qc7 : chkLoc (xp QM7 []) 20000 60 Qa7 Qp7 Qo7 = true := by decide +kernel
theorem Qc15 : chkLoc (xp QM15 []) 20000 60 Qa15 Qp15 Qo15 = true := by decide +kernel
theorem Qc49 : chkLoc (xp QM49 []) 20000 163 Qa49 Qp49 Qo49 = true := by decide +kernel
theorem Qc56 : chkLoc (xp QM56 []) 20000 163 Qa56 Qp56 Qo56 = true := by decide +kernel
theorem Qc38 : chkLoc (xp QM38 []) 20000 10 Qa38 Qp38 Qo38 = true := by decide +kernel
theorem Qc53 : chkLoc (xp QM53 []) 20000 163 Qa53 Qp53 Qo53 = true := by decide +kernel
theorem Qc4 : chkLoc (xp QM4 []) 20000 163 Qa4 Qp4 Qo4 = true := by decide +kernel
theorem Qc8 : chkLoc (xp QM8 []) 20000 163 Qa8 Qp8 Qo8 = true := by decide +kernel
theorem Qc39 : chkLoc (xp QM39 []) 20000 163 Qa39 Qp39 Qo39 = true := by decide +kernel
theorem Qc42 : chkLoc (xp QM42 []) 20000 163 Qa42 Qp42 Qo42 = true := by decide +kernel
theorem Qc45 : chkLoc (xp QM45 []) 20000 163 Qa45 Qp45 Qo45 = true := by decide +kernel
theorem Qc48 : chkLoc (xp QM48 []) 20000 163 Qa48 Qp48 Qo48 = true := by decide +kernel
theorem Qc68 : chkLoc (xp QM68 []) 20000 163 Qa68 Qp68 Qo68 = true := by decide +kernel
theorem Qc0 : chkLoc (xp QM0 []) 20000 163 Qa0 Qp0 Qo0 = true := by decide +kernel
theorem Qc2 : chkLoc (xp QM2 []) 20000 163 Qa2 Qp2 Qo2 = true := by decide +kernel
theorem Qc16 : chkLoc (xp QM16 []) 20000 163 Qa16 Qp16 Qo16 = true := by decide +kernel
theorem Qc34 : chkLoc (xp QM34 []) 20000 163 Qa34 Qp34 Qo34 = true := by decide +kernel
theorem Qc36 : chkLoc (xp QM36 []) 20000 163 Qa36 Qp36 Qo36 = true := by decide +kernel
theorem Qc62 : chkLoc (xp QM62 []) 20000 163 Qa62 Qp62 Qo62 = true := by decide +kernel
theorem Qc75 : chkLoc (xp QM75 []) 20000 163 Qa75 Qp75 Qo75 = true := by decide +kernel
theorem Qc77 : chkLoc (xp QM77 []) 20000 163 Qa77 Qp77 Qo77 = true := by decide +kernel
theorem Qc24 : chkLoc (xp QM24 []) 20000 397 Qa24 Qp24 Qo24 = true := by decide +kernel
theorem Qc25 : chkLoc (xp QM25 []) 20000 163 Qa25 Qp25 Qo25 = true := by decide +kernel
theorem Qc28 : chkLoc (xp QM28 []) 20000 163 Qa28 Qp28 Qo28 = true := by decide +kernel
theorem Qc41 : chkLoc (xp QM41 []) 20000 10 Qa41 Qp41 Qo41 = true := by decide +kernel
theorem Qc51 : chkLoc (xp QM51 []) 20000 284 Qa51 Qp51 Qo51 = true := by decide +kernel
theorem Qc44 : chkLoc (xp QM44 []) 20000 10 Qa44 Qp44 Qo44 = true := by decide +kernel
theorem Qc47 : chkLoc (xp QM47 []) 20000 10 Qa47 Qp47 Qo47 = true := by decide +kernel
theorem Qc33 : chkLoc (xp QM33 []) 20000 10 Qa33 Qp33 Qo33 = true := by decide +kernel
theorem Qc27 : chkLoc (xp QM27 []) 20000 10 Qa27 Qp27 Qo27 = true := by decide +kernel
theorem Qc76 : chkLoc (xp QM76 []) 20000 10 Qa76 Qp76 Qo76 = true := by decide +kernel
theorem Qc1 : chkLoc (xp QM1 []) 20000 10 Qa1 Qp1 Qo1 = true := by decide +kernel
theorem Qc78 : chkLoc (xp QM78 []) 20000 10 Qa78 Qp78 Qo78 = true := by decide +kernel
theorem Qc73 : chkLoc (xp QM73 []) 20000 397 Qa73 Qp73 Qo73 = true := by decide +kernel
theorem Qc3 : chkLoc (xp QM3 []) 20000 10 Qa3 Qp3 Qo3 = true := by decide +kernel
end
end Go.X
