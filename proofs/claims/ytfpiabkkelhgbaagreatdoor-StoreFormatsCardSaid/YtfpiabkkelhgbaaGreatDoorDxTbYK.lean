/- What is known of calls: printed by program (wip/dx/Drv.lean). -/
import Derived.Test.YtfpiabkkelhgbaaGreatDoorDxTbYD0
import Derived.Test.YtfpiabkkelhgbaaGreatDoorDxTbY0
import Derived.Test.YtfpiabkkelhgbaaGreatDoorDxTbY1
import Derived.Test.YtfpiabkkelhgbaaGreatDoorDxTbY2
import Derived.Test.YtfpiabkkelhgbaaGreatDoorDxTbY3
namespace Go.X
open Go.Proofs
noncomputable section
set_option maxRecDepth 1000000
set_option maxHeartbeats 40000000
theorem Ym0 : MemoOk Tryz.prog [] YM0 := memo_list [] (by kernel_rfl) ⟨⟩
theorem Yk0 : EntOk Tryz.prog [] 549 Ye0 := ent_pure (xp_ok _ _) (xp_fns _ _) mixed Ym0 (xp_sums _ _) Yc0
theorem Ym1 : MemoOk Tryz.prog [] YM1 := memo_list [(549,[Ye0])] (by kernel_rfl) ⟨⟨Yk0,⟨⟩⟩,⟨⟩⟩
theorem Yk1 : EntOk Tryz.prog [] 178 Ye1 := ent_loc (xp_ok _ _) (xp_fns _ _) mixed Ym1 (xp_sums _ _) Yc1
theorem Ym2 : MemoOk Tryz.prog [] YM2 := memo_list [(549,[Ye0])] (by kernel_rfl) ⟨⟨Yk0,⟨⟩⟩,⟨⟩⟩
theorem Yk2 : EntOk Tryz.prog [] 178 Ye2 := ent_loc (xp_ok _ _) (xp_fns _ _) mixed Ym2 (xp_sums _ _) Yc2
theorem Ym3 : MemoOk Tryz.prog [] YM3 := memo_list [(178,[Ye1,Ye2])] (by kernel_rfl) ⟨⟨Yk1,Yk2,⟨⟩⟩,⟨⟩⟩
theorem Yk3 : EntOk Tryz.prog [] 14 Ye3 := ent_loc (xp_ok _ _) (xp_fns _ _) mixed Ym3 (xp_sums _ _) Yc3
theorem Ym4 : MemoOk Tryz.prog [] YM4 := memo_list [(549,[Ye0])] (by kernel_rfl) ⟨⟨Yk0,⟨⟩⟩,⟨⟩⟩
theorem Yk4 : EntOk Tryz.prog [] 237 Ye4 := ent_loc (xp_ok _ _) (xp_fns _ _) mixed Ym4 (xp_sums _ _) Yc4
theorem Ym5 : MemoOk Tryz.prog [] YM5 := memo_list [(549,[Ye0])] (by kernel_rfl) ⟨⟨Yk0,⟨⟩⟩,⟨⟩⟩
theorem Yk5 : EntOk Tryz.prog [] 237 Ye5 := ent_loc (xp_ok _ _) (xp_fns _ _) mixed Ym5 (xp_sums _ _) Yc5
theorem Ym6 : MemoOk Tryz.prog [] YM6 := memo_list [(237,[Ye5])] (by kernel_rfl) ⟨⟨Yk5,⟨⟩⟩,⟨⟩⟩
theorem Yk6 : EntOk Tryz.prog [] 14 Ye6 := ent_loc (xp_ok _ _) (xp_fns _ _) mixed Ym6 (xp_sums _ _) Yc6
theorem Ym7 : MemoOk Tryz.prog [] YM7 := memo_list [(549,[Ye0])] (by kernel_rfl) ⟨⟨Yk0,⟨⟩⟩,⟨⟩⟩
theorem Yk7 : EntOk Tryz.prog [] 237 Ye7 := ent_loc (xp_ok _ _) (xp_fns _ _) mixed Ym7 (xp_sums _ _) Yc7
theorem Ym8 : MemoOk Tryz.prog [] YM8 := memo_list [(237,[Ye7])] (by kernel_rfl) ⟨⟨Yk7,⟨⟩⟩,⟨⟩⟩
theorem Yk8 : EntOk Tryz.prog [] 14 Ye8 := ent_loc (xp_ok _ _) (xp_fns _ _) mixed Ym8 (xp_sums _ _) Yc8
theorem Ym9 : MemoOk Tryz.prog [] YM9 := memo_list [(549,[Ye0])] (by kernel_rfl) ⟨⟨Yk0,⟨⟩⟩,⟨⟩⟩
theorem Yk9 : EntOk Tryz.prog [] 350 Ye9 := ent_loc (xp_ok _ _) (xp_fns _ _) mixed Ym9 (xp_sums _ _) Yc9
theorem Ym10 : MemoOk Tryz.prog [] YM10 := memo_list [(549,[Ye0]),(350,[Ye9])] (by kernel_rfl) ⟨⟨Yk0,⟨⟩⟩,⟨Yk9,⟨⟩⟩,⟨⟩⟩
theorem Yk10 : EntOk Tryz.prog [] 237 Ye10 := ent_loc (xp_ok _ _) (xp_fns _ _) mixed Ym10 (xp_sums _ _) Yc10
theorem Ym11 : MemoOk Tryz.prog [] YM11 := memo_list [(549,[Ye0])] (by kernel_rfl) ⟨⟨Yk0,⟨⟩⟩,⟨⟩⟩
theorem Yk11 : EntOk Tryz.prog [] 237 Ye11 := ent_loc (xp_ok _ _) (xp_fns _ _) mixed Ym11 (xp_sums _ _) Yc11
theorem Ym12 : MemoOk Tryz.prog [] YM12 := memo_list [(237,[Ye11])] (by kernel_rfl) ⟨⟨Yk11,⟨⟩⟩,⟨⟩⟩
theorem Yk12 : EntOk Tryz.prog [] 14 Ye12 := ent_loc (xp_ok _ _) (xp_fns _ _) mixed Ym12 (xp_sums _ _) Yc12
theorem Ym13 : MemoOk Tryz.prog [] YM13 := memo_list [(549,[Ye0]),(178,[Ye2])] (by kernel_rfl) ⟨⟨Yk0,⟨⟩⟩,⟨Yk2,⟨⟩⟩,⟨⟩⟩
theorem Yk13 : EntOk Tryz.prog [] 501 Ye13 := ent_loc (xp_ok _ _) (xp_fns _ _) mixed Ym13 (xp_sums _ _) Yc13
theorem Ym14 : MemoOk Tryz.prog [] YM14 := memo_list [(549,[Ye0]),(178,[Ye1])] (by kernel_rfl) ⟨⟨Yk0,⟨⟩⟩,⟨Yk1,⟨⟩⟩,⟨⟩⟩
theorem Yk14 : EntOk Tryz.prog [] 501 Ye14 := ent_loc (xp_ok _ _) (xp_fns _ _) mixed Ym14 (xp_sums _ _) Yc14
theorem Ym15 : MemoOk Tryz.prog [] YM15 := memo_list [(549,[Ye0])] (by kernel_rfl) ⟨⟨Yk0,⟨⟩⟩,⟨⟩⟩
theorem Yk15 : EntOk Tryz.prog [] 502 Ye15 := ent_loc (xp_ok _ _) (xp_fns _ _) mixed Ym15 (xp_sums _ _) Yc15
theorem Ym16 : MemoOk Tryz.prog [] YM16 := memo_list [(549,[Ye0]),(502,[Ye15])] (by kernel_rfl) ⟨⟨Yk0,⟨⟩⟩,⟨Yk15,⟨⟩⟩,⟨⟩⟩
theorem Yk16 : EntOk Tryz.prog [] 370 Ye16 := ent_loc (xp_ok _ _) (xp_fns _ _) mixed Ym16 (xp_sums _ _) Yc16
theorem Ym17 : MemoOk Tryz.prog [] YM17 := memo_list [(501,[Ye13,Ye14]),(370,[Ye16])] (by kernel_rfl) ⟨⟨Yk13,Yk14,⟨⟩⟩,⟨Yk16,⟨⟩⟩,⟨⟩⟩
theorem Yk17 : EntOk Tryz.prog [] 154 Ye17 := ent_loc (xp_ok _ _) (xp_fns _ _) mixed Ym17 (xp_sums _ _) Yc17
theorem Ym18 : MemoOk Tryz.prog [] YM18 := memo_list [] (by kernel_rfl) ⟨⟩
theorem Yk18 : EntOk Tryz.prog [] 504 Ye18 := ent_loc (xp_ok _ _) (xp_fns _ _) mixed Ym18 (xp_sums _ _) Yc18
theorem Ym19 : MemoOk Tryz.prog [] YM19 := memo_list [(549,[Ye0])] (by kernel_rfl) ⟨⟨Yk0,⟨⟩⟩,⟨⟩⟩
theorem Yk19 : EntOk Tryz.prog [] 178 Ye19 := ent_loc (xp_ok _ _) (xp_fns _ _) mixed Ym19 (xp_sums _ _) Yc19
theorem Ym20 : MemoOk Tryz.prog [] YM20 := memo_list [(501,[Ye13,Ye14]),(504,[Ye18]),(178,[Ye19]),(154,[Ye17])] (by kernel_rfl) ⟨⟨Yk13,Yk14,⟨⟩⟩,⟨Yk18,⟨⟩⟩,⟨Yk19,⟨⟩⟩,⟨Yk17,⟨⟩⟩,⟨⟩⟩
theorem Yk20 : EntOk Tryz.prog [] 14 Ye20 := ent_loc (xp_ok _ _) (xp_fns _ _) mixed Ym20 (xp_sums _ _) Yc20
theorem Ym21 : MemoOk Tryz.prog [] YM21 := memo_list [(549,[Ye0]),(178,[Ye19])] (by kernel_rfl) ⟨⟨Yk0,⟨⟩⟩,⟨Yk19,⟨⟩⟩,⟨⟩⟩
theorem Yk21 : EntOk Tryz.prog [] 501 Ye21 := ent_loc (xp_ok _ _) (xp_fns _ _) mixed Ym21 (xp_sums _ _) Yc21
theorem Ym22 : MemoOk Tryz.prog [] YM22 := memo_list [(549,[Ye0])] (by kernel_rfl) ⟨⟨Yk0,⟨⟩⟩,⟨⟩⟩
theorem Yk22 : EntOk Tryz.prog [] 178 Ye22 := ent_loc (xp_ok _ _) (xp_fns _ _) mixed Ym22 (xp_sums _ _) Yc22
theorem Ym23 : MemoOk Tryz.prog [] YM23 := memo_list [(549,[Ye0]),(501,[Ye13,Ye21]),(237,[Ye4,Ye10]),(178,[Ye22]),(14,[Ye3,Ye6,Ye8,Ye12,Ye20])] (by kernel_rfl) ⟨⟨Yk0,⟨⟩⟩,⟨Yk13,Yk21,⟨⟩⟩,⟨Yk4,Yk10,⟨⟩⟩,⟨Yk22,⟨⟩⟩,⟨Yk3,Yk6,Yk8,Yk12,Yk20,⟨⟩⟩,⟨⟩⟩
theorem Yk23 : EntOk Tryz.prog [] 8 Ye23 := ent_loc (xp_ok _ _) (xp_fns _ _) mixed Ym23 (xp_sums _ _) Yc23
theorem YmT (O : List OraE) : MemoOk Tryz.prog O YMT := memo_list [(8,[Ye23])] (by kernel_rfl) ⟨⟨Yk23.ora,⟨⟩⟩,⟨⟩⟩
end
end Go.X
