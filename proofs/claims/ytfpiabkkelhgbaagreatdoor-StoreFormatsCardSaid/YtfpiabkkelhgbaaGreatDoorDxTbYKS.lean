/- What is known of calls: printed by program (wip/dx/Drv.lean). -/
import Derived.Test.YtfpiabkkelhgbaaGreatDoorDxTbYD1
import Derived.Test.YtfpiabkkelhgbaaGreatDoorDxTbYK
import Derived.Test.YtfpiabkkelhgbaaGreatDoorDxTbYS0
import Derived.Test.YtfpiabkkelhgbaaGreatDoorDxTbYS1
import Derived.Test.YtfpiabkkelhgbaaGreatDoorDxTbYS2
import Derived.Test.YtfpiabkkelhgbaaGreatDoorDxTbYS3
import Derived.Test.YtfpiabkkelhgbaaGreatDoorDxTbYS4
namespace Go.X
open Go.Proofs
noncomputable section
set_option maxRecDepth 1000000
set_option maxHeartbeats 40000000
theorem Ym24 : MemoOk Tryz.prog YB36 YM24 := memo_list [] (by kernel_rfl) ⟨⟩
theorem Yk24 : EntOk Tryz.prog YB36 45 Ye24 := ent_loc (xp_ok _ _) (xp_fns _ _) mixed Ym24 (xp_sums _ _) Yc24
theorem Ym25 : MemoOk Tryz.prog YB37 YM25 := memo_list [] (by kernel_rfl) ⟨⟩
theorem Yk25 : EntOk Tryz.prog YB37 45 Ye25 := ent_loc (xp_ok _ _) (xp_fns _ _) mixed Ym25 (xp_sums _ _) Yc25
theorem Ym26 : MemoOk Tryz.prog YB38 YM26 := memo_list [] (by kernel_rfl) ⟨⟩
theorem Yk26 : EntOk Tryz.prog YB38 45 Ye26 := ent_loc (xp_ok _ _) (xp_fns _ _) mixed Ym26 (xp_sums _ _) Yc26
theorem Ym27 : MemoOk Tryz.prog YB39 YM27 := memo_list [] (by kernel_rfl) ⟨⟩
theorem Yk27 : EntOk Tryz.prog YB39 45 Ye27 := ent_loc (xp_ok _ _) (xp_fns _ _) mixed Ym27 (xp_sums _ _) Yc27
theorem Ym28 : MemoOk Tryz.prog YB40 YM28 := memo_list [] (by kernel_rfl) ⟨⟩
theorem Yk28 : EntOk Tryz.prog YB40 45 Ye28 := ent_loc (xp_ok _ _) (xp_fns _ _) mixed Ym28 (xp_sums _ _) Yc28
theorem Ym29 : MemoOk Tryz.prog YB41 YM29 := memo_list [] (by kernel_rfl) ⟨⟩
theorem Yk29 : EntOk Tryz.prog YB41 45 Ye29 := ent_loc (xp_ok _ _) (xp_fns _ _) mixed Ym29 (xp_sums _ _) Yc29
theorem Ym30 : MemoOk Tryz.prog YB42 YM30 := memo_list [] (by kernel_rfl) ⟨⟩
theorem Yk30 : EntOk Tryz.prog YB42 45 Ye30 := ent_loc (xp_ok _ _) (xp_fns _ _) mixed Ym30 (xp_sums _ _) Yc30
theorem Ym31 : MemoOk Tryz.prog YB43 YM31 := memo_list [] (by kernel_rfl) ⟨⟩
theorem Yk31 : EntOk Tryz.prog YB43 45 Ye31 := ent_loc (xp_ok _ _) (xp_fns _ _) mixed Ym31 (xp_sums _ _) Yc31
theorem Ym32 : MemoOk Tryz.prog YB44 YM32 := memo_list [] (by kernel_rfl) ⟨⟩
theorem Yk32 : EntOk Tryz.prog YB44 45 Ye32 := ent_loc (xp_ok _ _) (xp_fns _ _) mixed Ym32 (xp_sums _ _) Yc32
theorem YmT36 (K : List OraE) : MemoOk Tryz.prog (YB36 ++ K) YMT36 := memo_list [(45,[Ye24]),(8,[Ye23])] (by kernel_rfl) ⟨⟨Yk24.app,⟨⟩⟩,⟨Yk23.ora,⟨⟩⟩,⟨⟩⟩
theorem YmT37 (K : List OraE) : MemoOk Tryz.prog (YB37 ++ K) YMT37 := memo_list [(45,[Ye25]),(8,[Ye23])] (by kernel_rfl) ⟨⟨Yk25.app,⟨⟩⟩,⟨Yk23.ora,⟨⟩⟩,⟨⟩⟩
theorem YmT38 (K : List OraE) : MemoOk Tryz.prog (YB38 ++ K) YMT38 := memo_list [(45,[Ye26]),(8,[Ye23])] (by kernel_rfl) ⟨⟨Yk26.app,⟨⟩⟩,⟨Yk23.ora,⟨⟩⟩,⟨⟩⟩
theorem YmT39 (K : List OraE) : MemoOk Tryz.prog (YB39 ++ K) YMT39 := memo_list [(45,[Ye27]),(8,[Ye23])] (by kernel_rfl) ⟨⟨Yk27.app,⟨⟩⟩,⟨Yk23.ora,⟨⟩⟩,⟨⟩⟩
theorem YmT40 (K : List OraE) : MemoOk Tryz.prog (YB40 ++ K) YMT40 := memo_list [(45,[Ye28]),(8,[Ye23])] (by kernel_rfl) ⟨⟨Yk28.app,⟨⟩⟩,⟨Yk23.ora,⟨⟩⟩,⟨⟩⟩
theorem YmT41 (K : List OraE) : MemoOk Tryz.prog (YB41 ++ K) YMT41 := memo_list [(45,[Ye29]),(8,[Ye23])] (by kernel_rfl) ⟨⟨Yk29.app,⟨⟩⟩,⟨Yk23.ora,⟨⟩⟩,⟨⟩⟩
theorem YmT42 (K : List OraE) : MemoOk Tryz.prog (YB42 ++ K) YMT42 := memo_list [(45,[Ye30]),(8,[Ye23])] (by kernel_rfl) ⟨⟨Yk30.app,⟨⟩⟩,⟨Yk23.ora,⟨⟩⟩,⟨⟩⟩
theorem YmT43 (K : List OraE) : MemoOk Tryz.prog (YB43 ++ K) YMT43 := memo_list [(45,[Ye31]),(8,[Ye23])] (by kernel_rfl) ⟨⟨Yk31.app,⟨⟩⟩,⟨Yk23.ora,⟨⟩⟩,⟨⟩⟩
theorem YmT44 (K : List OraE) : MemoOk Tryz.prog (YB44 ++ K) YMT44 := memo_list [(45,[Ye32]),(8,[Ye23])] (by kernel_rfl) ⟨⟨Yk32.app,⟨⟩⟩,⟨Yk23.ora,⟨⟩⟩,⟨⟩⟩
end
end Go.X
