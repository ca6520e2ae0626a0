/- What is known of calls: printed by program (wip/dx/Drv.lean). -/
import Derived.Test.YtnmkiflnonafbaaGreatDoorDxTbQG
import Derived.Test.YtnmkiflnonafbaaGreatDoorDxTb
namespace Go.X
open Go.Proofs
noncomputable section
set_option maxRecDepth 1000000
set_option maxHeartbeats 40000000
def Qx0 : AObj := (bk 151 2 (cl [(Ii 5),(Iq 0)]))
def Qx1 : AObj := (bk 151 2 (cl [(Ii 5),(Iq 1)]))
def Qx2 : AObj := (bk 105 5 (cl [(.sl 543 0 1 (.opn 0)),(.sl 1050 0 1 (.opn 0)),.nils,.nils,.nils]))
def Qx3 : AObj := (.blk 5 false (.opn 20 none 1) (bl [139,155,185,139,1,1,3,0,1,0,0,0,0,0,0,0,97,120,121,122]))
def Qx4 : AObj := (.blk 135 false (.opn 7 none 1) (cl [(.ptr 43 0),(.ptr 47 0),(.ptr 51 0),(.ptr 55 0),(.ptr 59 0),(.ptr 63 0),(.ptr 67 0)]))
def Qx5 : AObj := (br 158 6 (cl [Bf,Bf,Bt,Bt,Bf,(Ii 0)]))
def Qx6 : AObj := (bk 151 2 (cl [(Ii 5),(Iq 28)]))
def Qx7 : AObj := (.blk 111 false (.opn 1 none 6) (cl [(Ii 2),(.str [97]),Bf,(Ii 1),(Ii 0),(Ii 20)]))
def Qx8 : AObj := (bk 99 7 (cl [(Ii 5),(Ii 2),(.ptr 74 0),(.ptr 76 0),(.ptr 78 0),(.ptr 80 0),(.ptr 82 0)]))
def Qx9 : AObj := (bk 104 2 (cl [(.ptr 146 0),(.sl 141 0 5 (.fix 5))]))
def Qx10 : AObj := (bk 168 1 (cl [(.sl 69 0 7 (.opn 0))]))
def Qx11 : AObj := (bk 205 3 (cl [.nils,(Ii 64),(Ii 0)]))
def Qx12 : AObj := (.blk 111 false (.opn 2 none 6) (cl [(Ii 2),(.str [97]),Bf,(Ii 1),(Ii 0),(Ii 20),(Ii 1),(.str [97]),Bf,(Ii 0),(Ii 0),(Ii 20)]))
def Qx13 : AObj := (br 280 64 (bl [0,1,56,2,57,49,28,3,61,58,42,50,38,29,17,4,62,47,59,36,45,43,51,22,53,39,33,30,24,18,12,5,63,55,48,27,60,41,37,16,46,35,44,21,52,32,23,11,54,26,40,15,34,20,31,10,25,14,19,9,13,8,7,6]))
def Qx14 : AObj := (br 158 6 (cl [Bf,Bt,Bf,Bf,Bt,(Ii 2)]))
def Qx15 : AObj := (bk 205 3 (cl [(.sl 388 0 20 (.opn 0)),(Ii 60),(Ii 20)]))
def Qx16 : AObj := (bk 205 3 (cl [.nils,(Ii 60),(Ii 0)]))
def Qx17 : AObj := (bk 151 2 (cl [(Ii 5),(Iq 2)]))
def Qx18 : AObj := (.blk 5 false (.opn 20 none 1) (bl [123,73,39,252,1,1,3,0,2,0,0,0,0,0,0,0,97,120,121,122]))
def Qx19 : AObj := (bk 179 2 (cl [Bt,(.sl 594 0 1 (.opn 0))]))
def Qx20 : AObj := (.blk 111 false (.opn 1 none 6) (cl [(Ii 1),(.str [97]),Bf,(Ii 0),(Ii 0),(Ii 20)]))
def Qx21 : AObj := (.blk 216 false (.opn 1 none 2) (cl [(.str [97]),(.sl 1134 0 2 (.opn 0))]))
def Qx22 : AObj := (bk 176 2 (cl [Bt,.nilp]))
end
end Go.X
