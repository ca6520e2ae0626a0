/- What is known of calls: printed by program (wip/dx/Drv.lean). -/
import Derived.Test.YtbplpekmpoenaaaGreatDoorDxTbQD1
namespace Go.X
open Go.Proofs
noncomputable section
set_option maxRecDepth 1000000
set_option maxHeartbeats 40000000
theorem Qc122 : chkLoc (xp QM122 []) 20000 28 Qa122 Qp122 Qo122 = true := by decide +kernel
theorem Qc135 : chkLoc (xp QM135 []) 20000 28 Qa135 Qp135 Qo135 = true := by decide +kernel
theorem Qc30 : chkLoc (xp QM30 []) 20000 28 Qa30 Qp30 Qo30 = true := by decide +kernel
theorem Qc114 : chkLoc (xp QM114 []) 20000 28 Qa114 Qp114 Qo114 = true := by decide +kernel
theorem Qc101 : chkLoc (xp QM101 []) 20000 28 Qa101 Qp101 Qo101 = true := by decide +kernel
theorem Qc110 : chkLoc (xp QM110 []) 20000 28 Qa110 Qp110 Qo110 = true := by decide +kernel
theorem Qc169 : chkLoc (xp QM169 []) 20000 28 Qa169 Qp169 Qo169 = true := by decide +kernel
theorem Qc179 : chkLoc (xp QM179 []) 20000 28 Qa179 Qp179 Qo179 = true := by decide +kernel
theorem Qc152 : chkLoc (xp QM152 []) 20000 28 Qa152 Qp152 Qo152 = true := by decide +kernel
theorem Qc260 : chkLoc (xp QM260 []) 20000 28 Qa260 Qp260 Qo260 = true := by decide +kernel
theorem Qc83 : chkLoc (xp QM83 []) 20000 28 Qa83 Qp83 Qo83 = true := by decide +kernel
theorem Qc87 : chkLoc (xp QM87 []) 20000 28 Qa87 Qp87 Qo87 = true := by decide +kernel
theorem Qc5 : chkLoc (xp QM5 []) 20000 68 Qa5 Qp5 Qo5 = true := by decide +kernel
theorem Qc97 : chkLoc (xp QM97 []) 20000 28 Qa97 Qp97 Qo97 = true := by decide +kernel
theorem Qc107 : chkLoc (xp QM107 []) 20000 28 Qa107 Qp107 Qo107 = true := by decide +kernel
theorem Qc115 : chkLoc (xp QM115 []) 20000 28 Qa115 Qp115 Qo115 = true := by decide +kernel
theorem Qc124 : chkLoc (xp QM124 []) 20000 28 Qa124 Qp124 Qo124 = true := by decide +kernel
theorem Qc128 : chkLoc (xp QM128 []) 20000 28 Qa128 Qp128 Qo128 = true := by decide +kernel
theorem Qc137 : chkLoc (xp QM137 []) 20000 28 Qa137 Qp137 Qo137 = true := by decide +kernel
theorem Qc141 : chkLoc (xp QM141 []) 20000 28 Qa141 Qp141 Qo141 = true := by decide +kernel
theorem Qc146 : chkLoc (xp QM146 []) 20000 28 Qa146 Qp146 Qo146 = true := by decide +kernel
theorem Qc166 : chkLoc (xp QM166 []) 20000 28 Qa166 Qp166 Qo166 = true := by decide +kernel
theorem Qc176 : chkLoc (xp QM176 []) 20000 28 Qa176 Qp176 Qo176 = true := by decide +kernel
theorem Qc96 : chkLoc (xp QM96 []) 20000 43 Qa96 Qp96 Qo96 = true := by decide +kernel
end
end Go.X
