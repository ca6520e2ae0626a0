/- What is known of calls: printed by program (wip/dx/Drv.lean). -/
import Derived.Test.YtfkpfgnigiijnaaGreatDoorDxSm
namespace Go.X
open Go.Proofs
noncomputable section
set_option maxRecDepth 1000000
set_option maxHeartbeats 40000000
def QG : Tr AObj := (.node (some (br 188 6 (cl [Bf,Bf,Bt,Bt,Bf,(Ii 0)]))) (.node (some (br 188 6 (cl [Bf,Bt,Bf,Bf,Bt,(Ii 2)]))) .nil (.node (some (br 411 64 (bl [0,1,56,2,57,49,28,3,61,58,42,50,38,29,17,4,62,47,59,36,45,43,51,22,53,39,33,30,24,18,12,5,63,55,48,27,60,41,37,16,46,35,44,21,52,32,23,11,54,26,40,15,34,20,31,10,25,14,19,9,13,8,7,6]))) .nil .nil)) (.node (some (br 188 6 (cl [Bf,Bf,Bt,Bf,Bf,(Ii 3)]))) (.node (some (br 374 32 (bl [0,1,28,2,29,14,24,3,30,22,20,15,25,17,4,8,31,27,13,23,21,19,16,7,26,12,18,6,11,5,10,9]))) .nil .nil) .nil))
end
end Go.X
