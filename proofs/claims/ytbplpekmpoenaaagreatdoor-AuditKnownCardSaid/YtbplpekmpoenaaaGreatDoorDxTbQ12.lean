/- What is known of calls: printed by program (wip/dx/Drv.lean). -/
import Derived.Test.YtbplpekmpoenaaaGreatDoorDxTbQD1
namespace Go.X
open Go.Proofs
noncomputable section
set_option maxRecDepth 1000000
set_option maxHeartbeats 40000000
theorem Qc180 : chkLoc (xp QM180 []) 20000 28 Qa180 Qp180 Qo180 = true := by decide +kernel
theorem Qc185 : chkLoc (xp QM185 []) 20000 28 Qa185 Qp185 Qo185 = true := by decide +kernel
theorem Qc197 : chkLoc (xp QM197 []) 20000 28 Qa197 Qp197 Qo197 = true := by decide +kernel
theorem Qc208 : chkLoc (xp QM208 []) 20000 28 Qa208 Qp208 Qo208 = true := by decide +kernel
theorem Qc217 : chkLoc (xp QM217 []) 20000 28 Qa217 Qp217 Qo217 = true := by decide +kernel
theorem Qc228 : chkLoc (xp QM228 []) 20000 28 Qa228 Qp228 Qo228 = true := by decide +kernel
theorem Qc232 : chkLoc (xp QM232 []) 20000 28 Qa232 Qp232 Qo232 = true := by decide +kernel
theorem Qc243 : chkLoc (xp QM243 []) 20000 28 Qa243 Qp243 Qo243 = true := by decide +kernel
theorem Qc247 : chkLoc (xp QM247 []) 20000 28 Qa247 Qp247 Qo247 = true := by decide +kernel
theorem Qc253 : chkLoc (xp QM253 []) 20000 28 Qa253 Qp253 Qo253 = true := by decide +kernel
theorem Qc157 : chkLoc (xp QM157 []) 20000 28 Qa157 Qp157 Qo157 = true := by decide +kernel
theorem Qc227 : chkLoc (xp QM227 []) 20000 45 Qa227 Qp227 Qo227 = true := by decide +kernel
theorem Qc242 : chkLoc (xp QM242 []) 20000 45 Qa242 Qp242 Qo242 = true := by decide +kernel
theorem Qc252 : chkLoc (xp QM252 []) 20000 45 Qa252 Qp252 Qo252 = true := by decide +kernel
theorem Qc258 : chkLoc (xp QM258 []) 20000 45 Qa258 Qp258 Qo258 = true := by decide +kernel
theorem Qc7 : chkLoc (xp QM7 []) 20000 28 Qa7 Qp7 Qo7 = true := by decide +kernel
theorem Qc21 : chkLoc (xp QM21 []) 20000 28 Qa21 Qp21 Qo21 = true := by decide +kernel
theorem Qc32 : chkLoc (xp QM32 []) 20000 28 Qa32 Qp32 Qo32 = true := by decide +kernel
theorem Qc44 : chkLoc (xp QM44 []) 20000 28 Qa44 Qp44 Qo44 = true := by decide +kernel
theorem Qc51 : chkLoc (xp QM51 []) 20000 28 Qa51 Qp51 Qo51 = true := by decide +kernel
theorem Qc63 : chkLoc (xp QM63 []) 20000 28 Qa63 Qp63 Qo63 = true := by decide +kernel
theorem Qc70 : chkLoc (xp QM70 []) 20000 28 Qa70 Qp70 Qo70 = true := by decide +kernel
theorem Qc77 : chkLoc (xp QM77 []) 20000 28 Qa77 Qp77 Qo77 = true := by decide +kernel
theorem Qc177 : chkLoc (xp QM177 []) 20000 41 Qa177 Qp177 Qo177 = true := by decide +kernel
theorem Qc181 : chkLoc (xp QM181 []) 20000 41 Qa181 Qp181 Qo181 = true := by decide +kernel
theorem Qc184 : chkLoc (xp QM184 []) 20000 41 Qa184 Qp184 Qo184 = true := by decide +kernel
theorem Qc186 : chkLoc (xp QM186 []) 20000 41 Qa186 Qp186 Qo186 = true := by decide +kernel
theorem Qc189 : chkLoc (xp QM189 []) 20000 41 Qa189 Qp189 Qo189 = true := by decide +kernel
theorem Qc251 : chkLoc (xp QM251 []) 20000 41 Qa251 Qp251 Qo251 = true := by decide +kernel
theorem Qc257 : chkLoc (xp QM257 []) 20000 41 Qa257 Qp257 Qo257 = true := by decide +kernel
theorem Qc165 : chkLoc (xp QM165 []) 20000 43 Qa165 Qp165 Qo165 = true := by decide +kernel
theorem Qc196 : chkLoc (xp QM196 []) 20000 43 Qa196 Qp196 Qo196 = true := by decide +kernel
theorem Qc153 : chkLoc (xp QM153 []) 20000 41 Qa153 Qp153 Qo153 = true := by decide +kernel
theorem Qc155 : chkLoc (xp QM155 []) 20000 41 Qa155 Qp155 Qo155 = true := by decide +kernel
theorem Qc158 : chkLoc (xp QM158 []) 20000 41 Qa158 Qp158 Qo158 = true := by decide +kernel
theorem Qc170 : chkLoc (xp QM170 []) 20000 41 Qa170 Qp170 Qo170 = true := by decide +kernel
theorem Qc190 : chkLoc (xp QM190 []) 20000 41 Qa190 Qp190 Qo190 = true := by decide +kernel
theorem Qc194 : chkLoc (xp QM194 []) 20000 41 Qa194 Qp194 Qo194 = true := by decide +kernel
theorem Qc201 : chkLoc (xp QM201 []) 20000 41 Qa201 Qp201 Qo201 = true := by decide +kernel
theorem Qc205 : chkLoc (xp QM205 []) 20000 41 Qa205 Qp205 Qo205 = true := by decide +kernel
theorem Qc221 : chkLoc (xp QM221 []) 20000 41 Qa221 Qp221 Qo221 = true := by decide +kernel
theorem Qc225 : chkLoc (xp QM225 []) 20000 41 Qa225 Qp225 Qo225 = true := by decide +kernel
theorem Qc236 : chkLoc (xp QM236 []) 20000 41 Qa236 Qp236 Qo236 = true := by decide +kernel
theorem Qc240 : chkLoc (xp QM240 []) 20000 41 Qa240 Qp240 Qo240 = true := by decide +kernel
theorem Qc261 : chkLoc (xp QM261 []) 20000 41 Qa261 Qp261 Qo261 = true := by decide +kernel
theorem Qc212 : chkLoc (xp QM212 []) 20000 41 Qa212 Qp212 Qo212 = true := by decide +kernel
theorem Qc226 : chkLoc (xp QM226 []) 20000 44 Qa226 Qp226 Qo226 = true := by decide +kernel
theorem Qc14 : chkLoc (xp QM14 []) 20000 53 Qa14 Qp14 Qo14 = true := by decide +kernel
end
end Go.X
