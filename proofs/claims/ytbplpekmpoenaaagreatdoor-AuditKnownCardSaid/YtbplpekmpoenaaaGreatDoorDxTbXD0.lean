/- What is known of calls: printed by program (wip/dx/Drv.lean). -/
import Derived.Test.YtbplpekmpoenaaaGreatDoorDxTbXX
namespace Go.X
open Go.Proofs
noncomputable section
set_option maxRecDepth 1000000
set_option maxHeartbeats 40000000
def Xa0 : List AV := [(.agg [(Ii 6), (Ii 116), (Ii 2), (Ii 200), (Ii 10), (Ii 20), (Ii 1)]), .nils]
def Xp0 : AHeap := ⟨16, QG⟩
def Xh0 : Tr AObj := QG
def Xo0 : List (AV × AHeap) := [((.tup [Bt, (Ii 0), (Ii 0)]), ⟨1182, Xh0⟩)]
def Xe0 : Ent := .loc Xa0 Xp0 Xo0
def XM0 : Tr (List Ent) := (nl (nr (nr (nr (nr (nr (nl (lf [Qe1]))))))))
def Xa1 : List AV := [(.agg [(Ii 6), (Ii 116), (Ii 2), (Ii 200), (Ii 10), (Ii 20), (Ii 1)]), .nils]
def Xp1 : AHeap := ⟨1184, QG⟩
def Xh1 : Tr AObj := QG
def Xo1 : List (AV × AHeap) := [((.tup [Bt, (Ii 0), (Ii 0)]), ⟨2407, Xh1⟩)]
def Xe1 : Ent := .loc Xa1 Xp1 Xo1
def XM1 : Tr (List Ent) := (nl (nr (nr (nr (nr (nr (nl (lf [Qe1]))))))))
def Xa2 : List AV := [(.agg [(Ii 6), (Ii 116), (Ii 2), (Ii 200), (Ii 10), (Ii 20), (Ii 1)]), .nils, (.agg [(Ii 8), (Ii 0), (Ii 0), (.str []), (.str [])]), (.sl 2409 0 34 (.fix 34))]
def Xp2 : AHeap := ⟨2422, Qp2.objs⟩
def Xh2 : Tr AObj := Qp2.objs
def Xo2 : List (AV × AHeap) := [((.tup [Bt, (Ii 0), (Ii 0)]), ⟨97482, Xh2⟩)]
def Xe2 : Ent := .loc Xa2 Xp2 Xo2
def XM2 : Tr (List Ent) := (nn (nn (nr (nr (nl (lf [Qe4])))) (nn (nr (nl (lf [Qe3, Qe15, Qe19, Qe27, Qe38, Qe42, Qe57, Qe61, Qe71, Qe75, Qe78, Qe82]))) (nn (nr (lf [Qe14, Qe26, Qe37, Qe49, Qe56, Qe68])) (nr (nr (nl (lf [Qe1]))))))) (nn (nr (nn (nl (nl (lf [Qe5]))) (lf [Qe7, Qe18, Qe21, Qe30, Qe32, Qe41, Qe44, Qe51, Qe60, Qe63, Qe70, Qe74, Qe77, Qe81]))) (nl (nr (nl (lf [Qe2]))))))
def Xa3 : List AV := [(.agg [(Ii 6), (Ii 116), (Ii 2), (Ii 200), (Ii 10), (Ii 20), (Ii 1)]), .nils, (.agg [(Ii 2), (Ii 0), (Ii 0), (.str [107]), (.str [])]), (.sl 97486 0 1 (.fix 1))]
def Xp3 : AHeap := ⟨97487, (.plus (ho [(97486,(bk 3 1 (cl [(Ii 8192)])))]) QG)⟩
def Xh3 : Tr AObj := Xp3.objs
def Xo3 : List (AV × AHeap) := [((.tup [Bt, (Ii 0), (Ii 0)]), ⟨103251, Xh3⟩)]
def Xe3 : Ent := .loc Xa3 Xp3 Xo3
def XM3 : Tr (List Ent) := (nn (nn (nr (nr (nl (lf [Qe4])))) (nn (nr (nl (lf [Qe3, Qe84, Qe86, Qe88, Qe90]))) (nr (nr (nr (nl (lf [Qe1]))))))) (nl (nr (nr (lf [Qe83, Qe85, Qe87, Qe89])))))
def Xa4 : List AV := [(.ptr 104416 0), (.sl 104417 0 1 (.fix 1))]
def Xp4 : AHeap := ⟨104418, (ho [(0,Qx736),(7,Qx67),(103399,(.blk 256 false (.opn 8 none 1) (cl [(.ptr 103369 0),(.ptr 103373 0),(.ptr 103377 0),(.ptr 103381 0),(.ptr 103385 0),(.ptr 103389 0),(.ptr 103393 0),(.ptr 103397 0)]))),(104247,Qx416),(104411,(bk 343 9 (cl [(Ii 6),(Ii 116),(Ii 2),(Ii 200),(Ii 10),(Ii 20),(Ii 1),(.ptr 104406 0),(.ptr 104414 0)]))),(104251,Qx416),(5,Qx380),(9,Qx586),(103393,(bk 339 3 (cl [(.sl 104213 0 64 (.opn 0)),(Ii 64),(Ii 64)]))),(104417,(bk 3 1 (cl [(Ii 7)]))),(103313,Qx164),(103377,Qx20),(103369,Qx20),(103401,Qx895),(103385,Qx20),(104249,Qx416),(13,Qx484),(103397,(bk 339 3 (cl [(.sl 103840 0 64 (.opn 0)),(Ii 64),(Ii 64)]))),(104213,Qx664),(104341,Qx54),(103381,Qx20),(104245,Qx60),(103373,Qx20),(103389,Qx20),(104253,Qx416),(2,Qx333),(4,Qx724),(8,Qx389),(103840,Qx273),(104416,(bk 28 2 (cl [(.ptr 103310 0),.nils]))),(104336,Qx881),(103368,(bk 329 1 (cl [(.sl 103399 0 8 (.opn 0))]))),(104244,(bk 170 7 (cl [(Ii 6),(Ii 2),(.ptr 104245 0),(.ptr 104247 0),(.ptr 104249 0),(.ptr 104251 0),(.ptr 104253 0)]))),(6,Qx602),(104338,(bk 155 2 (cl [(.ptr 104341 0),(.sl 104336 0 6 (.fix 6))]))),(103402,(bk 166 5 (cl [(.ptr 103368 0),(.ptr 103401 0),(Ii 6),(Ii 6),Bf]))),(104406,Qx500),(103310,(bk 142 14 (cl [(.ptr 104244 0),(.ptr 104338 0),(.ptr 104411 0),(Ii 1),(.ptr 103402 0),(Ii 6),(Ii 116),(Ii 2),(Ii 200),(Ii 10),(Ii 20),(Ii 1),(Ii 2),(.ptr 103313 0)]))),(104414,Qx92)])⟩
def Xh4 : Tr AObj := Xp4.objs
def Xo4 : List (AV × AHeap) := [((.tup [Bt, (Ii 0), (Ii 0)]), ⟨189504, Xh4⟩)]
def Xe4 : Ent := .loc Xa4 Xp4 Xo4
def XM4 : Tr (List Ent) := (nn (nn (nr (nr (nl (lf [Qe4, Qe96])))) (nl (nr (nn (lf [Qe3, Qe91, Qe95, Qe102, Qe106, Qe111, Qe119, Qe123, Qe132, Qe136, Qe145, Qe150]) (nr (nl (lf [Qe118, Qe127, Qe131, Qe140]))))))) (nl (nr (nr (lf [Qe94, Qe97, Qe101, Qe105, Qe107, Qe110, Qe114, Qe115, Qe122, Qe124, Qe128, Qe135, Qe137, Qe141, Qe144, Qe146, Qe149])))))
def Xa5 : List AV := [(.agg [(Ii 6), (Ii 116), (Ii 2), (Ii 200), (Ii 10), (Ii 20), (Ii 1)]), (.sl 189512 0 4 (.fix 4))]
def Xp5 : AHeap := ⟨202477, Qp164.objs⟩
def Xh5 : Tr AObj := Qp164.objs
def Xo5 : List (AV × AHeap) := [((.tup [Bt, (Ii 0), (Ii 0)]), ⟨214788, Xh5⟩)]
def Xe5 : Ent := .loc Xa5 Xp5 Xo5
def XM5 : Tr (List Ent) := (nn (nr (nn (nr (nn (lf [Qe153, Qe155, Qe158, Qe163]) (nr (nl (lf [Qe162]))))) (nr (nr (nr (nl (lf [Qe1]))))))) (nl (nr (nr (lf [Qe152, Qe154, Qe157])))))
def Xa6 : List AV := [(.agg [(Ii 6), (Ii 116), (Ii 2), (Ii 200), (Ii 10), (Ii 20), (Ii 1)]), (.sl 214790 0 1 (.fix 1)), (.agg [(Ii 1), (Ii 0), (Ii 0), (.str [107]), (.str [99, 100])]), (.sl 214792 0 1 (.fix 1))]
def Xp6 : AHeap := ⟨214805, (.plus (ho [(214792,(bk 3 1 (cl [(Ii 9)]))),(214790,(bk 43 5 (cl [(Ii 1),(Ii 0),(Ii 0),(.str [107]),(.str [97, 98])])))]) QG)⟩
def Xh6 : Tr AObj := Xp6.objs
def Xo6 : List (AV × AHeap) := [((.tup [Bt, (Ii 0), (Ii 0)]), ⟨243780, Xh6⟩)]
def Xe6 : Ent := .loc Xa6 Xp6 Xo6
def XM6 : Tr (List Ent) := (nn (nn (nr (nr (nl (lf [Qe165])))) (nn (nr (nl (lf [Qe3, Qe153, Qe167, Qe170, Qe175, Qe177, Qe181, Qe184, Qe186, Qe189]))) (nr (nr (nr (nl (lf [Qe1]))))))) (nl (nr (nr (lf [Qe152, Qe166, Qe169, Qe174, Qe176, Qe179, Qe180, Qe183, Qe185, Qe188])))))
def Xa7 : List AV := [(.ptr 244950 0), (.sl 246102 0 1 (.fix 1))]
def Xp7 : AHeap := ⟨246103, (.plus (ho [(246102,(bk 3 1 (cl [(Ii 0)])))]) Qp259.objs)⟩
def Xh7 : Tr AObj := Xp7.objs
def Xo7 : List (AV × AHeap) := [((.tup [Bt, (Ii 0), (Ii 0)]), ⟨345524, Xh7⟩)]
def Xe7 : Ent := .loc Xa7 Xp7 Xo7
def XM7 : Tr (List Ent) := (nn (nn (nr (nr (nl (lf [Qe165, Qe196])))) (nn (nr (nn (lf [Qe153, Qe190, Qe194, Qe205, Qe225, Qe240, Qe251, Qe257]) (nr (nl (lf [Qe193, Qe200, Qe211, Qe220, Qe231, Qe235, Qe246, Qe250, Qe256]))))) (nr (nl (lf [Qe195, Qe207, Qe227, Qe242, Qe252, Qe258]))))) (nl (nr (nr (.node (some [Qe197, Qe208, Qe217, Qe228, Qe232, Qe243, Qe247, Qe253]) (lf [Qe206, Qe216, Qe226, Qe241]) .nil)))))
def Xa8 : List AV := [(.agg [(Ii 6), (Ii 116), (Ii 2), (Ii 200), (Ii 10), (Ii 20), (Ii 1)]), .nils, (.agg [(Ii 1), (Ii 0), (Ii 0), (.str [107]), (.str [97, 98])]), .nils]
def Xp8 : AHeap := ⟨347446, QG⟩
def Xh8 : Tr AObj := QG
def Xo8 : List (AV × AHeap) := [((.tup [Bf, (Ii 0), (Ii 2)]), ⟨347584, Xh8⟩)]
def Xe8 : Ent := .loc Xa8 Xp8 Xo8
def XM8 : Tr (List Ent) := .nil
def Xa9 : List AV := []
def Xp9 : AHeap := ⟨189504, QG⟩
def Xh9 : Tr AObj := QG
def Xo9 : List (AV × AHeap) := [(Bt, ⟨348425, Xh9⟩)]
def Xe9 : Ent := .loc Xa9 Xp9 Xo9
def XM9 : Tr (List Ent) := (nn (nr (nn (nr (nl (lf [Qe153, Qe261]))) (nr (nr (nr (nl (lf [Qe1]))))))) (nn (nn (nn (lf [Xe6, Xe8]) (nr (lf [Qe164]))) (.node (some [Xe7]) .nil (lf [Qe152, Qe260]))) (nl (.node (some [Qe259]) (lf [Xe5]) .nil))))
def XMT : Tr (List Ent) := (nn (nr (nn (.node (some [Xe9]) (lf [Xe0]) .nil) (nr (nr (nr (nl (lf [Qe1]))))))) (nn (nn (nl (lf [Xe2, Xe3])) (lf [Xe4])) (nl (nl (lf [Xe1])))))
end
end Go.X
