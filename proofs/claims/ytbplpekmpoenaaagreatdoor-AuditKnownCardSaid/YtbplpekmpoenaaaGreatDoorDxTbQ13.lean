/- What is known of calls: printed by program (wip/dx/Drv.lean). -/
import Derived.Test.YtbplpekmpoenaaaGreatDoorDxTbQD1
namespace Go.X
open Go.Proofs
noncomputable section
set_option maxRecDepth 1000000
set_option maxHeartbeats 40000000
theorem Qc8 : chkLoc (xp QM8 []) 20000 41 Qa8 Qp8 Qo8 = true := by decide +kernel
theorem Qc22 : chkLoc (xp QM22 []) 20000 41 Qa22 Qp22 Qo22 = true := by decide +kernel
theorem Qc33 : chkLoc (xp QM33 []) 20000 41 Qa33 Qp33 Qo33 = true := by decide +kernel
theorem Qc45 : chkLoc (xp QM45 []) 20000 41 Qa45 Qp45 Qo45 = true := by decide +kernel
theorem Qc52 : chkLoc (xp QM52 []) 20000 41 Qa52 Qp52 Qo52 = true := by decide +kernel
theorem Qc64 : chkLoc (xp QM64 []) 20000 41 Qa64 Qp64 Qo64 = true := by decide +kernel
theorem Qc71 : chkLoc (xp QM71 []) 20000 41 Qa71 Qp71 Qo71 = true := by decide +kernel
theorem Qc75 : chkLoc (xp QM75 []) 20000 41 Qa75 Qp75 Qo75 = true := by decide +kernel
theorem Qc78 : chkLoc (xp QM78 []) 20000 41 Qa78 Qp78 Qo78 = true := by decide +kernel
theorem Qc82 : chkLoc (xp QM82 []) 20000 41 Qa82 Qp82 Qo82 = true := by decide +kernel
theorem Qc84 : chkLoc (xp QM84 []) 20000 41 Qa84 Qp84 Qo84 = true := by decide +kernel
theorem Qc86 : chkLoc (xp QM86 []) 20000 41 Qa86 Qp86 Qo86 = true := by decide +kernel
theorem Qc88 : chkLoc (xp QM88 []) 20000 41 Qa88 Qp88 Qo88 = true := by decide +kernel
theorem Qc90 : chkLoc (xp QM90 []) 20000 41 Qa90 Qp90 Qo90 = true := by decide +kernel
theorem Qc145 : chkLoc (xp QM145 []) 20000 41 Qa145 Qp145 Qo145 = true := by decide +kernel
theorem Qc150 : chkLoc (xp QM150 []) 20000 41 Qa150 Qp150 Qo150 = true := by decide +kernel
theorem Qc4 : chkLoc (xp QM4 []) 20000 43 Qa4 Qp4 Qo4 = true := by decide +kernel
theorem Qc3 : chkLoc (xp QM3 []) 20000 41 Qa3 Qp3 Qo3 = true := by decide +kernel
theorem Qc15 : chkLoc (xp QM15 []) 20000 41 Qa15 Qp15 Qo15 = true := by decide +kernel
theorem Qc19 : chkLoc (xp QM19 []) 20000 41 Qa19 Qp19 Qo19 = true := by decide +kernel
theorem Qc38 : chkLoc (xp QM38 []) 20000 41 Qa38 Qp38 Qo38 = true := by decide +kernel
theorem Qc42 : chkLoc (xp QM42 []) 20000 41 Qa42 Qp42 Qo42 = true := by decide +kernel
theorem Qc57 : chkLoc (xp QM57 []) 20000 41 Qa57 Qp57 Qo57 = true := by decide +kernel
theorem Qc61 : chkLoc (xp QM61 []) 20000 41 Qa61 Qp61 Qo61 = true := by decide +kernel
theorem Qc91 : chkLoc (xp QM91 []) 20000 41 Qa91 Qp91 Qo91 = true := by decide +kernel
theorem Qc95 : chkLoc (xp QM95 []) 20000 41 Qa95 Qp95 Qo95 = true := by decide +kernel
theorem Qc102 : chkLoc (xp QM102 []) 20000 41 Qa102 Qp102 Qo102 = true := by decide +kernel
theorem Qc106 : chkLoc (xp QM106 []) 20000 41 Qa106 Qp106 Qo106 = true := by decide +kernel
theorem Qc119 : chkLoc (xp QM119 []) 20000 41 Qa119 Qp119 Qo119 = true := by decide +kernel
theorem Qc123 : chkLoc (xp QM123 []) 20000 41 Qa123 Qp123 Qo123 = true := by decide +kernel
theorem Qc132 : chkLoc (xp QM132 []) 20000 41 Qa132 Qp132 Qo132 = true := by decide +kernel
theorem Qc136 : chkLoc (xp QM136 []) 20000 41 Qa136 Qp136 Qo136 = true := by decide +kernel
theorem Qc163 : chkLoc (xp QM163 []) 20000 41 Qa163 Qp163 Qo163 = true := by decide +kernel
theorem Qc175 : chkLoc (xp QM175 []) 20000 41 Qa175 Qp175 Qo175 = true := by decide +kernel
theorem Qc27 : chkLoc (xp QM27 []) 20000 41 Qa27 Qp27 Qo27 = true := by decide +kernel
theorem Qc111 : chkLoc (xp QM111 []) 20000 41 Qa111 Qp111 Qo111 = true := by decide +kernel
theorem Qc154 : chkLoc (xp QM154 []) 20000 28 Qa154 Qp154 Qo154 = true := by decide +kernel
theorem Qc241 : chkLoc (xp QM241 []) 20000 44 Qa241 Qp241 Qo241 = true := by decide +kernel
theorem Qc26 : chkLoc (xp QM26 []) 20000 53 Qa26 Qp26 Qo26 = true := by decide +kernel
theorem Qc37 : chkLoc (xp QM37 []) 20000 53 Qa37 Qp37 Qo37 = true := by decide +kernel
theorem Qc49 : chkLoc (xp QM49 []) 20000 53 Qa49 Qp49 Qo49 = true := by decide +kernel
theorem Qc56 : chkLoc (xp QM56 []) 20000 53 Qa56 Qp56 Qo56 = true := by decide +kernel
theorem Qc68 : chkLoc (xp QM68 []) 20000 53 Qa68 Qp68 Qo68 = true := by decide +kernel
end
end Go.X
