/- What is known of calls: printed by program (wip/dx/Drv.lean). -/
import Derived.Test.YtbplpekmpoenaaaGreatDoorDxTbWD0
import Derived.Test.YtbplpekmpoenaaaGreatDoorDxTbRK
import Derived.Test.YtbplpekmpoenaaaGreatDoorDxTbW0
import Derived.Test.YtbplpekmpoenaaaGreatDoorDxTbW2
import Derived.Test.YtbplpekmpoenaaaGreatDoorDxTbW3
import Derived.Test.YtbplpekmpoenaaaGreatDoorDxTbW4
namespace Go.X
open Go.Proofs
noncomputable section
set_option maxRecDepth 1000000
set_option maxHeartbeats 40000000
theorem Wm0 : MemoOk Tryz.prog [] WM0 := memo_list [(41,[Re4,Re6,Re9,Re16]),(185,[Re15]),(189,[Re1]),(28,[Re3,Re5,Re8])] (by kernel_rfl) ⟨⟨Rk4,Rk6,Rk9,Rk16,⟨⟩⟩,⟨Rk15,⟨⟩⟩,⟨Rk1,⟨⟩⟩,⟨Rk3,Rk5,Rk8,⟨⟩⟩,⟨⟩⟩
theorem Wk0 : EntOk Tryz.prog [] 18 We0 := ent_loc (xp_ok _ _) (xp_fns _ _) mixed Wm0 Wc0
theorem Wm1 : MemoOk Tryz.prog [] WM1 := memo_list [(43,[Re19]),(41,[Re4,Re18,Re21,Re24,Re29,Re31,Re35,Re38,Re40,Re43]),(189,[Re1]),(28,[Re3,Re20,Re23,Re28,Re30,Re33,Re34,Re37,Re39,Re42])] (by kernel_rfl) ⟨⟨Rk19,⟨⟩⟩,⟨Rk4,Rk18,Rk21,Rk24,Rk29,Rk31,Rk35,Rk38,Rk40,Rk43,⟨⟩⟩,⟨Rk1,⟨⟩⟩,⟨Rk3,Rk20,Rk23,Rk28,Rk30,Rk33,Rk34,Rk37,Rk39,Rk42,⟨⟩⟩,⟨⟩⟩
theorem Wk1 : EntOk Tryz.prog [] 16 We1 := ent_loc (xp_ok _ _) (xp_fns _ _) mixed Wm1 Wc1
theorem Wm2 : MemoOk Tryz.prog [] WM2 := memo_list [(43,[Re19,Re50]),(41,[Re4,Re44,Re48,Re60,Re80,Re95,Re106,Re112]),(185,[Re47,Re55,Re66,Re75,Re86,Re90,Re101,Re105,Re111]),(45,[Re49,Re62,Re82,Re97,Re107,Re113]),(28,[Re51,Re63,Re72,Re83,Re87,Re98,Re102,Re108]),(44,[Re61,Re71,Re81,Re96])] (by kernel_rfl) ⟨⟨Rk19,Rk50,⟨⟩⟩,⟨Rk4,Rk44,Rk48,Rk60,Rk80,Rk95,Rk106,Rk112,⟨⟩⟩,⟨Rk47,Rk55,Rk66,Rk75,Rk86,Rk90,Rk101,Rk105,Rk111,⟨⟩⟩,⟨Rk49,Rk62,Rk82,Rk97,Rk107,Rk113,⟨⟩⟩,⟨Rk51,Rk63,Rk72,Rk83,Rk87,Rk98,Rk102,Rk108,⟨⟩⟩,⟨Rk61,Rk71,Rk81,Rk96,⟨⟩⟩,⟨⟩⟩
theorem Wk2 : EntOk Tryz.prog [] 12 We2 := ent_loc (xp_ok _ _) (xp_fns _ _) mixed Wm2 Wc2
theorem Wm3 : MemoOk Tryz.prog [] WM3 := memo_list [] (by kernel_rfl) ⟨⟩
theorem Wk3 : EntOk Tryz.prog [] 16 We3 := ent_loc (xp_ok _ _) (xp_fns _ _) mixed Wm3 Wc3
theorem Wm4 : MemoOk Tryz.prog [] WM4 := memo_list [(41,[Re4,Re116]),(189,[Re1]),(16,[We1,We3]),(56,[Re17]),(12,[We2]),(28,[Re3,Re115]),(10,[Re114]),(18,[We0])] (by kernel_rfl) ⟨⟨Rk4,Rk116,⟨⟩⟩,⟨Rk1,⟨⟩⟩,⟨Wk1,Wk3,⟨⟩⟩,⟨Rk17,⟨⟩⟩,⟨Wk2,⟨⟩⟩,⟨Rk3,Rk115,⟨⟩⟩,⟨Rk114,⟨⟩⟩,⟨Wk0,⟨⟩⟩,⟨⟩⟩
theorem Wk4 : EntOk Tryz.prog [] 9 We4 := ent_loc (xp_ok _ _) (xp_fns _ _) mixed Wm4 Wc4
theorem WmT (O : List OraE) : MemoOk Tryz.prog O WMT := memo_list [(9,[We4])] (by kernel_rfl) ⟨⟨Wk4.ora,⟨⟩⟩,⟨⟩⟩
end
end Go.X
