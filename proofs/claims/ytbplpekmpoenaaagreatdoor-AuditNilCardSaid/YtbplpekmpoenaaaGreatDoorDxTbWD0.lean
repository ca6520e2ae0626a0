/- What is known of calls: printed by program (wip/dx/Drv.lean). -/
import Derived.Test.YtbplpekmpoenaaaGreatDoorDxTbWX
namespace Go.X
open Go.Proofs
noncomputable section
set_option maxRecDepth 1000000
set_option maxHeartbeats 40000000
def Wa0 : List AV := [(.agg [(Ii 6), (Ii 116), (Ii 2), (Ii 200), (Ii 10), (Ii 20), (Ii 1)]), (.sl 36 0 4 (.fix 4))]
def Wp0 : AHeap := ⟨13001, Rp17.objs⟩
def Wh0 : Tr AObj := Rp17.objs
def Wo0 : List (AV × AHeap) := [((.tup [Bt, (Ii 0), (Ii 0)]), ⟨25312, Wh0⟩)]
def We0 : Ent := .loc Wa0 Wp0 Wo0
def WM0 : Tr (List Ent) := (nn (nr (nn (nr (nn (lf [Re4, Re6, Re9, Re16]) (nr (nl (lf [Re15]))))) (nr (nr (nr (nl (lf [Re1]))))))) (nl (nr (nr (lf [Re3, Re5, Re8])))))
def Wa1 : List AV := [(.agg [(Ii 6), (Ii 116), (Ii 2), (Ii 200), (Ii 10), (Ii 20), (Ii 1)]), (.sl 25314 0 1 (.fix 1)), (.agg [(Ii 1), (Ii 0), (Ii 0), (.str [107]), (.str [99, 100])]), (.sl 25316 0 1 (.fix 1))]
def Wp1 : AHeap := ⟨25329, (.plus (ho [(25316,(bk 3 1 (cl [(Ii 9)]))),(25314,(bk 43 5 (cl [(Ii 1),(Ii 0),(Ii 0),(.str [107]),(.str [97, 98])])))]) RG)⟩
def Wh1 : Tr AObj := Wp1.objs
def Wo1 : List (AV × AHeap) := [((.tup [Bt, (Ii 0), (Ii 0)]), ⟨54304, Wh1⟩)]
def We1 : Ent := .loc Wa1 Wp1 Wo1
def WM1 : Tr (List Ent) := (nn (nn (nr (nr (nl (lf [Re19])))) (nn (nr (nl (lf [Re4, Re18, Re21, Re24, Re29, Re31, Re35, Re38, Re40, Re43]))) (nr (nr (nr (nl (lf [Re1]))))))) (nl (nr (nr (lf [Re3, Re20, Re23, Re28, Re30, Re33, Re34, Re37, Re39, Re42])))))
def Wa2 : List AV := [(.ptr 55474 0), (.sl 56626 0 1 (.fix 1))]
def Wp2 : AHeap := ⟨56627, (.plus (ho [(56626,(bk 3 1 (cl [(Ii 0)])))]) Rp114.objs)⟩
def Wh2 : Tr AObj := Wp2.objs
def Wo2 : List (AV × AHeap) := [((.tup [Bt, (Ii 0), (Ii 0)]), ⟨156048, Wh2⟩)]
def We2 : Ent := .loc Wa2 Wp2 Wo2
def WM2 : Tr (List Ent) := (nn (nn (nr (nr (nl (lf [Re19, Re50])))) (nn (nr (nn (lf [Re4, Re44, Re48, Re60, Re80, Re95, Re106, Re112]) (nr (nl (lf [Re47, Re55, Re66, Re75, Re86, Re90, Re101, Re105, Re111]))))) (nr (nl (lf [Re49, Re62, Re82, Re97, Re107, Re113]))))) (nl (nr (nr (.node (some [Re51, Re63, Re72, Re83, Re87, Re98, Re102, Re108]) (lf [Re61, Re71, Re81, Re96]) .nil)))))
def Wa3 : List AV := [(.agg [(Ii 6), (Ii 116), (Ii 2), (Ii 200), (Ii 10), (Ii 20), (Ii 1)]), .nils, (.agg [(Ii 1), (Ii 0), (Ii 0), (.str [107]), (.str [97, 98])]), .nils]
def Wp3 : AHeap := ⟨157970, RG⟩
def Wh3 : Tr AObj := RG
def Wo3 : List (AV × AHeap) := [((.tup [Bf, (Ii 0), (Ii 2)]), ⟨158108, Wh3⟩)]
def We3 : Ent := .loc Wa3 Wp3 Wo3
def WM3 : Tr (List Ent) := .nil
def Wa4 : List AV := []
def Wp4 : AHeap := ⟨28, RG⟩
def Wh4 : Tr AObj := RG
def Wo4 : List (AV × AHeap) := [(Bt, ⟨158949, Wh4⟩)]
def We4 : Ent := .loc Wa4 Wp4 Wo4
def WM4 : Tr (List Ent) := (nn (nr (nn (nr (nl (lf [Re4, Re116]))) (nr (nr (nr (nl (lf [Re1]))))))) (nn (nn (nn (lf [We1, We3]) (nr (lf [Re17]))) (.node (some [We2]) .nil (lf [Re3, Re115]))) (nl (.node (some [Re114]) (lf [We0]) .nil))))
def WMT : Tr (List Ent) := (nl (nr (nl (lf [We4]))))
end
end Go.X
