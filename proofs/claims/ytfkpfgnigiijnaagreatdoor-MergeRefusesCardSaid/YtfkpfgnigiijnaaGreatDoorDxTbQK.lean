/- What is known of calls: printed by program (wip/dx/Drv.lean). -/
import Derived.Test.YtfkpfgnigiijnaaGreatDoorDxTbQD0
import Derived.Test.YtfkpfgnigiijnaaGreatDoorDxTbQ0
import Derived.Test.YtfkpfgnigiijnaaGreatDoorDxTbQ1
import Derived.Test.YtfkpfgnigiijnaaGreatDoorDxTbQ2
namespace Go.X
open Go.Proofs
noncomputable section
set_option maxRecDepth 1000000
set_option maxHeartbeats 40000000
theorem Qm0 : ZaH Tryz.prog [] QM0 := Zao [] (by kernel_rfl) ⟨⟩
theorem Qk0 : Zbk Tryz.prog [] 340 Qe0 := ZqJ (Zcx _ _) (Zbq _ _) mixed Qm0 (ZaT _ _) Qc0
theorem Qm1 : ZaH Tryz.prog [] QM1 := Zao [(340,[Qe0])] (by kernel_rfl) ⟨⟨Qk0,⟨⟩⟩,⟨⟩⟩
theorem Qk1 : Zbk Tryz.prog [] 84 Qe1 := Za3 (Zcx _ _) (Zbq _ _) mixed Qm1 (ZaT _ _) Qc1
theorem Qm2 : ZaH Tryz.prog [] QM2 := Zao [(340,[Qe0])] (by kernel_rfl) ⟨⟨Qk0,⟨⟩⟩,⟨⟩⟩
theorem Qk2 : Zbk Tryz.prog [] 84 Qe2 := Za3 (Zcx _ _) (Zbq _ _) mixed Qm2 (ZaT _ _) Qc2
theorem Qm3 : ZaH Tryz.prog [] QM3 := Zao [(84,[Qe1,Qe2]),(340,[Qe0])] (by kernel_rfl) ⟨⟨Qk1,Qk2,⟨⟩⟩,⟨Qk0,⟨⟩⟩,⟨⟩⟩
theorem Qk3 : Zbk Tryz.prog [] 72 Qe3 := Za3 (Zcx _ _) (Zbq _ _) mixed Qm3 (ZaT _ _) Qc3
theorem Qm4 : ZaH Tryz.prog [] QM4 := Zao [] (by kernel_rfl) ⟨⟩
theorem Qk4 : Zbk Tryz.prog [] 228 Qe4 := Za3 (Zcx _ _) (Zbq _ _) mixed Qm4 (ZaT _ _) Qc4
theorem Qm5 : ZaH Tryz.prog [] QM5 := Zao [] (by kernel_rfl) ⟨⟩
theorem Qk5 : Zbk Tryz.prog [] 65 Qe5 := Za3 (Zcx _ _) (Zbq _ _) mixed Qm5 (ZaT _ _) Qc5
theorem Qm6 : ZaH Tryz.prog [] QM6 := Zao [] (by kernel_rfl) ⟨⟩
theorem Qk6 : Zbk Tryz.prog [] 12 Qe6 := Za3 (Zcx _ _) (Zbq _ _) mixed Qm6 (ZaT _ _) Qc6
theorem Qm7 : ZaH Tryz.prog [] QM7 := Zao [] (by kernel_rfl) ⟨⟩
theorem Qk7 : Zbk Tryz.prog [] 141 Qe7 := Za3 (Zcx _ _) (Zbq _ _) mixed Qm7 (ZaT _ _) Qc7
theorem Qm8 : ZaH Tryz.prog [] QM8 := Zao [] (by kernel_rfl) ⟨⟩
theorem Qk8 : Zbk Tryz.prog [] 146 Qe8 := Za3 (Zcx _ _) (Zbq _ _) mixed Qm8 (ZaT _ _) Qc8
theorem Qm9 : ZaH Tryz.prog [] QM9 := Zao [] (by kernel_rfl) ⟨⟩
theorem Qk9 : Zbk Tryz.prog [] 146 Qe9 := Za3 (Zcx _ _) (Zbq _ _) mixed Qm9 (ZaT _ _) Qc9
theorem ZyM : ZaH Tryz.prog [] ZxH := Zao [(146,[Qe8,Qe9])] (by kernel_rfl) ⟨⟨Qk8,Qk9,⟨⟩⟩,⟨⟩⟩
theorem ZyN : Zbk Tryz.prog [] 65 ZwM := Za3 (Zcx _ _) (Zbq _ _) mixed ZyM (ZaT _ _) ZyF
theorem ZyO : ZaH Tryz.prog [] ZxK := Zao [] (by kernel_rfl) ⟨⟩
theorem ZyP : Zbk Tryz.prog [] 12 ZwO := Za3 (Zcx _ _) (Zbq _ _) mixed ZyO (ZaT _ _) ZyH
theorem ZyQ : ZaH Tryz.prog [] ZxP := Zao [(340,[Qe0])] (by kernel_rfl) ⟨⟨Qk0,⟨⟩⟩,⟨⟩⟩
theorem ZyR : Zbk Tryz.prog [] 219 ZwP := Za3 (Zcx _ _) (Zbq _ _) mixed ZyQ (ZaT _ _) ZyI
theorem ZyS : ZaH Tryz.prog [] ZxS := Zao [] (by kernel_rfl) ⟨⟩
theorem ZyT : Zbk Tryz.prog [] 141 ZwR := Za3 (Zcx _ _) (Zbq _ _) mixed ZyS (ZaT _ _) ZyK
theorem ZyU : ZaH Tryz.prog [] ZxV := Zao [] (by kernel_rfl) ⟨⟩
theorem ZyV : Zbk Tryz.prog [] 146 ZwS := Za3 (Zcx _ _) (Zbq _ _) mixed ZyU (ZaT _ _) ZyJ
theorem ZyW : ZaH Tryz.prog [] Zx0 := Zao [] (by kernel_rfl) ⟨⟩
theorem ZyX : Zbk Tryz.prog [] 146 ZwT := Za3 (Zcx _ _) (Zbq _ _) mixed ZyW (ZaT _ _) ZyL
theorem ZyY : ZaH Tryz.prog [] Zx4 := Zao [(146,[ZwS,ZwT])] (by kernel_rfl) ⟨⟨ZyV,ZyX,⟨⟩⟩,⟨⟩⟩
theorem ZyZ : Zbk Tryz.prog [] 65 ZwU := Za3 (Zcx _ _) (Zbq _ _) mixed ZyY (ZaT _ _) ZyE
theorem Zy0 : ZaH Tryz.prog [] Zx7 := Zao [] (by kernel_rfl) ⟨⟩
theorem Zy1 : Zbk Tryz.prog [] 12 ZwW := Za3 (Zcx _ _) (Zbq _ _) mixed Zy0 (ZaT _ _) ZyG
theorem QmT (O : List OraE) : ZaH Tryz.prog O QMT := Zao [(219,[ZwP]),(65,[Qe5,ZwM,ZwU]),(141,[Qe7,ZwR]),(72,[Qe3]),(12,[Qe6,ZwO,ZwW]),(228,[Qe4])] (by kernel_rfl) ⟨⟨ZyR.ora,⟨⟩⟩,⟨Qk5.ora,ZyN.ora,ZyZ.ora,⟨⟩⟩,⟨Qk7.ora,ZyT.ora,⟨⟩⟩,⟨Qk3.ora,⟨⟩⟩,⟨Qk6.ora,ZyP.ora,Zy1.ora,⟨⟩⟩,⟨Qk4.ora,⟨⟩⟩,⟨⟩⟩
end
end Go.X
