/- What is known of calls: printed by program (wip/dx/Drv.lean). -/
import Derived.Test.YtnmkiflnonafbaaGreatDoorDxTbQD0
import Derived.Test.YtnmkiflnonafbaaGreatDoorDxTbQ0
namespace Go.X
open Go.Proofs
noncomputable section
set_option maxRecDepth 1000000
set_option maxHeartbeats 40000000
theorem Qm0 : MemoOk Tryz.prog [] QM0 := memo_list [] (by kernel_rfl) ⟨⟩
theorem Qk0 : EntOk Tryz.prog [] 215 Qe0 := ent_pure (xp_ok _ _) (xp_fns _ _) mixed Qm0 (xp_sums _ _) Qc0
theorem Qm1 : MemoOk Tryz.prog [] QM1 := memo_list [(215,[Qe0])] (by kernel_rfl) ⟨⟨Qk0,⟨⟩⟩,⟨⟩⟩
theorem Qk1 : EntOk Tryz.prog [] 35 Qe1 := ent_loc (xp_ok _ _) (xp_fns _ _) mixed Qm1 (xp_sums _ _) Qc1
theorem Qm2 : MemoOk Tryz.prog [] QM2 := memo_list [] (by kernel_rfl) ⟨⟩
theorem Qk2 : EntOk Tryz.prog [] 15 Qe2 := ent_loc (xp_ok _ _) (xp_fns _ _) mixed Qm2 (xp_sums _ _) Qc2
theorem QmT (O : List OraE) : MemoOk Tryz.prog O QMT := memo_list [(15,[Qe2]),(35,[Qe1])] (by kernel_rfl) ⟨⟨Qk2.ora,⟨⟩⟩,⟨Qk1.ora,⟨⟩⟩,⟨⟩⟩
end
end Go.X
