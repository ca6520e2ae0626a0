/- What is known of calls: printed by program (wip/dx/Drv.lean). -/
import Derived.Test.YtbplpekmpoenaaaGreatDoorDxTbXD0
import Derived.Test.YtbplpekmpoenaaaGreatDoorDxTbQK
import Derived.Test.YtbplpekmpoenaaaGreatDoorDxTbX0
namespace Go.X
open Go.Proofs
noncomputable section
set_option maxRecDepth 1000000
set_option maxHeartbeats 40000000
theorem Xm0 : MemoOk Tryz.prog [] XM0 := memo_list [(189,[Qe1])] (by kernel_rfl) ⟨⟨Qk1,⟨⟩⟩,⟨⟩⟩
theorem Xk0 : EntOk Tryz.prog [] 17 Xe0 := ent_loc (xp_ok _ _) (xp_fns _ _) mixed Xm0 Xc0
theorem Xm1 : MemoOk Tryz.prog [] XM1 := memo_list [(189,[Qe1])] (by kernel_rfl) ⟨⟨Qk1,⟨⟩⟩,⟨⟩⟩
theorem Xk1 : EntOk Tryz.prog [] 18 Xe1 := ent_loc (xp_ok _ _) (xp_fns _ _) mixed Xm1 Xc1
theorem Xm2 : MemoOk Tryz.prog [] XM2 := memo_list [(43,[Qe4]),(41,[Qe3,Qe15,Qe19,Qe27,Qe38,Qe42,Qe57,Qe61,Qe71,Qe75,Qe78,Qe82]),(53,[Qe14,Qe26,Qe37,Qe49,Qe56,Qe68]),(189,[Qe1]),(68,[Qe5]),(28,[Qe7,Qe18,Qe21,Qe30,Qe32,Qe41,Qe44,Qe51,Qe60,Qe63,Qe70,Qe74,Qe77,Qe81]),(42,[Qe2])] (by kernel_rfl) ⟨⟨Qk4,⟨⟩⟩,⟨Qk3,Qk15,Qk19,Qk27,Qk38,Qk42,Qk57,Qk61,Qk71,Qk75,Qk78,Qk82,⟨⟩⟩,⟨Qk14,Qk26,Qk37,Qk49,Qk56,Qk68,⟨⟩⟩,⟨Qk1,⟨⟩⟩,⟨Qk5,⟨⟩⟩,⟨Qk7,Qk18,Qk21,Qk30,Qk32,Qk41,Qk44,Qk51,Qk60,Qk63,Qk70,Qk74,Qk77,Qk81,⟨⟩⟩,⟨Qk2,⟨⟩⟩,⟨⟩⟩
theorem Xk2 : EntOk Tryz.prog [] 16 Xe2 := ent_loc (xp_ok _ _) (xp_fns _ _) mixed Xm2 Xc2
theorem Xm3 : MemoOk Tryz.prog [] XM3 := memo_list [(43,[Qe4]),(41,[Qe3,Qe84,Qe86,Qe88,Qe90]),(189,[Qe1]),(28,[Qe83,Qe85,Qe87,Qe89])] (by kernel_rfl) ⟨⟨Qk4,⟨⟩⟩,⟨Qk3,Qk84,Qk86,Qk88,Qk90,⟨⟩⟩,⟨Qk1,⟨⟩⟩,⟨Qk83,Qk85,Qk87,Qk89,⟨⟩⟩,⟨⟩⟩
theorem Xk3 : EntOk Tryz.prog [] 16 Xe3 := ent_loc (xp_ok _ _) (xp_fns _ _) mixed Xm3 Xc3
theorem Xm4 : MemoOk Tryz.prog [] XM4 := memo_list [(43,[Qe4,Qe96]),(41,[Qe3,Qe91,Qe95,Qe102,Qe106,Qe111,Qe119,Qe123,Qe132,Qe136,Qe145,Qe150]),(185,[Qe118,Qe127,Qe131,Qe140]),(28,[Qe94,Qe97,Qe101,Qe105,Qe107,Qe110,Qe114,Qe115,Qe122,Qe124,Qe128,Qe135,Qe137,Qe141,Qe144,Qe146,Qe149])] (by kernel_rfl) ⟨⟨Qk4,Qk96,⟨⟩⟩,⟨Qk3,Qk91,Qk95,Qk102,Qk106,Qk111,Qk119,Qk123,Qk132,Qk136,Qk145,Qk150,⟨⟩⟩,⟨Qk118,Qk127,Qk131,Qk140,⟨⟩⟩,⟨Qk94,Qk97,Qk101,Qk105,Qk107,Qk110,Qk114,Qk115,Qk122,Qk124,Qk128,Qk135,Qk137,Qk141,Qk144,Qk146,Qk149,⟨⟩⟩,⟨⟩⟩
theorem Xk4 : EntOk Tryz.prog [] 12 Xe4 := ent_loc (xp_ok _ _) (xp_fns _ _) mixed Xm4 Xc4
theorem Xm5 : MemoOk Tryz.prog [] XM5 := memo_list [(41,[Qe153,Qe155,Qe158,Qe163]),(185,[Qe162]),(189,[Qe1]),(28,[Qe152,Qe154,Qe157])] (by kernel_rfl) ⟨⟨Qk153,Qk155,Qk158,Qk163,⟨⟩⟩,⟨Qk162,⟨⟩⟩,⟨Qk1,⟨⟩⟩,⟨Qk152,Qk154,Qk157,⟨⟩⟩,⟨⟩⟩
theorem Xk5 : EntOk Tryz.prog [] 18 Xe5 := ent_loc (xp_ok _ _) (xp_fns _ _) mixed Xm5 Xc5
theorem Xm6 : MemoOk Tryz.prog [] XM6 := memo_list [(43,[Qe165]),(41,[Qe3,Qe153,Qe167,Qe170,Qe175,Qe177,Qe181,Qe184,Qe186,Qe189]),(189,[Qe1]),(28,[Qe152,Qe166,Qe169,Qe174,Qe176,Qe179,Qe180,Qe183,Qe185,Qe188])] (by kernel_rfl) ⟨⟨Qk165,⟨⟩⟩,⟨Qk3,Qk153,Qk167,Qk170,Qk175,Qk177,Qk181,Qk184,Qk186,Qk189,⟨⟩⟩,⟨Qk1,⟨⟩⟩,⟨Qk152,Qk166,Qk169,Qk174,Qk176,Qk179,Qk180,Qk183,Qk185,Qk188,⟨⟩⟩,⟨⟩⟩
theorem Xk6 : EntOk Tryz.prog [] 16 Xe6 := ent_loc (xp_ok _ _) (xp_fns _ _) mixed Xm6 Xc6
theorem Xm7 : MemoOk Tryz.prog [] XM7 := memo_list [(43,[Qe165,Qe196]),(41,[Qe153,Qe190,Qe194,Qe205,Qe225,Qe240,Qe251,Qe257]),(185,[Qe193,Qe200,Qe211,Qe220,Qe231,Qe235,Qe246,Qe250,Qe256]),(45,[Qe195,Qe207,Qe227,Qe242,Qe252,Qe258]),(28,[Qe197,Qe208,Qe217,Qe228,Qe232,Qe243,Qe247,Qe253]),(44,[Qe206,Qe216,Qe226,Qe241])] (by kernel_rfl) ⟨⟨Qk165,Qk196,⟨⟩⟩,⟨Qk153,Qk190,Qk194,Qk205,Qk225,Qk240,Qk251,Qk257,⟨⟩⟩,⟨Qk193,Qk200,Qk211,Qk220,Qk231,Qk235,Qk246,Qk250,Qk256,⟨⟩⟩,⟨Qk195,Qk207,Qk227,Qk242,Qk252,Qk258,⟨⟩⟩,⟨Qk197,Qk208,Qk217,Qk228,Qk232,Qk243,Qk247,Qk253,⟨⟩⟩,⟨Qk206,Qk216,Qk226,Qk241,⟨⟩⟩,⟨⟩⟩
theorem Xk7 : EntOk Tryz.prog [] 12 Xe7 := ent_loc (xp_ok _ _) (xp_fns _ _) mixed Xm7 Xc7
theorem Xm8 : MemoOk Tryz.prog [] XM8 := memo_list [] (by kernel_rfl) ⟨⟩
theorem Xk8 : EntOk Tryz.prog [] 16 Xe8 := ent_loc (xp_ok _ _) (xp_fns _ _) mixed Xm8 Xc8
theorem Xm9 : MemoOk Tryz.prog [] XM9 := memo_list [(41,[Qe153,Qe261]),(189,[Qe1]),(16,[Xe6,Xe8]),(56,[Qe164]),(12,[Xe7]),(28,[Qe152,Qe260]),(10,[Qe259]),(18,[Xe5])] (by kernel_rfl) ⟨⟨Qk153,Qk261,⟨⟩⟩,⟨Qk1,⟨⟩⟩,⟨Xk6,Xk8,⟨⟩⟩,⟨Qk164,⟨⟩⟩,⟨Xk7,⟨⟩⟩,⟨Qk152,Qk260,⟨⟩⟩,⟨Qk259,⟨⟩⟩,⟨Xk5,⟨⟩⟩,⟨⟩⟩
theorem Xk9 : EntOk Tryz.prog [] 9 Xe9 := ent_loc (xp_ok _ _) (xp_fns _ _) mixed Xm9 Xc9
theorem XmT (O : List OraE) : MemoOk Tryz.prog O XMT := memo_list [(9,[Xe9]),(17,[Xe0]),(189,[Qe1]),(16,[Xe2,Xe3]),(12,[Xe4]),(18,[Xe1])] (by kernel_rfl) ⟨⟨Xk9.ora,⟨⟩⟩,⟨Xk0.ora,⟨⟩⟩,⟨Qk1.ora,⟨⟩⟩,⟨Xk2.ora,Xk3.ora,⟨⟩⟩,⟨Xk4.ora,⟨⟩⟩,⟨Xk1.ora,⟨⟩⟩,⟨⟩⟩
end
end Go.X
