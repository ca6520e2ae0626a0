/- What is known of calls: printed by program (wip/dx/Drv.lean). -/
import Derived.Test.YtnmkiflnonafbaaGreatDoorDxSm
namespace Go.X
open Go.Proofs
noncomputable section
set_option maxRecDepth 1000000
set_option maxHeartbeats 40000000
def QG : Tr AObj := (.node (some (br 158 6 (cl [Bf,Bf,Bt,Bt,Bf,(Ii 0)]))) (.node (some (br 158 6 (cl [Bf,Bt,Bf,Bf,Bt,(Ii 2)]))) .nil .nil) (.node (some (br 280 64 (bl [0,1,56,2,57,49,28,3,61,58,42,50,38,29,17,4,62,47,59,36,45,43,51,22,53,39,33,30,24,18,12,5,63,55,48,27,60,41,37,16,46,35,44,21,52,32,23,11,54,26,40,15,34,20,31,10,25,14,19,9,13,8,7,6]))) .nil .nil))
end
end Go.X
