/- What is known of calls: printed by program (wip/dx/Drv.lean). -/
import Derived.Test.YtbplpekmpoenaaaGreatDoorDxTbYD0
namespace Go.X
open Go.Proofs
noncomputable section
set_option maxRecDepth 1000000
set_option maxHeartbeats 40000000
theorem Yc40 : chkLoc (xp YM40 []) 20000 28 Ya40 Yp40 Yo40 = true := by decide +kernel
theorem Yc53 : chkLoc (xp YM53 []) 20000 28 Ya53 Yp53 Yo53 = true := by decide +kernel
theorem Yc65 : chkLoc (xp YM65 []) 20000 28 Ya65 Yp65 Yo65 = true := by decide +kernel
theorem Yc74 : chkLoc (xp YM74 []) 20000 28 Ya74 Yp74 Yo74 = true := by decide +kernel
theorem Yc85 : chkLoc (xp YM85 []) 20000 28 Ya85 Yp85 Yo85 = true := by decide +kernel
theorem Yc89 : chkLoc (xp YM89 []) 20000 28 Ya89 Yp89 Yo89 = true := by decide +kernel
theorem Yc100 : chkLoc (xp YM100 []) 20000 28 Ya100 Yp100 Yo100 = true := by decide +kernel
theorem Yc104 : chkLoc (xp YM104 []) 20000 28 Ya104 Yp104 Yo104 = true := by decide +kernel
theorem Yc110 : chkLoc (xp YM110 []) 20000 28 Ya110 Yp110 Yo110 = true := by decide +kernel
theorem Yc8 : chkLoc (xp YM8 []) 20000 28 Ya8 Yp8 Yo8 = true := by decide +kernel
theorem Yc51 : chkLoc (xp YM51 []) 20000 45 Ya51 Yp51 Yo51 = true := by decide +kernel
theorem Yc64 : chkLoc (xp YM64 []) 20000 45 Ya64 Yp64 Yo64 = true := by decide +kernel
theorem Yc84 : chkLoc (xp YM84 []) 20000 45 Ya84 Yp84 Yo84 = true := by decide +kernel
theorem Yc99 : chkLoc (xp YM99 []) 20000 45 Ya99 Yp99 Yo99 = true := by decide +kernel
theorem Yc109 : chkLoc (xp YM109 []) 20000 45 Ya109 Yp109 Yo109 = true := by decide +kernel
theorem Yc115 : chkLoc (xp YM115 []) 20000 45 Ya115 Yp115 Yo115 = true := by decide +kernel
theorem Yc32 : chkLoc (xp YM32 []) 20000 41 Ya32 Yp32 Yo32 = true := by decide +kernel
theorem Yc36 : chkLoc (xp YM36 []) 20000 41 Ya36 Yp36 Yo36 = true := by decide +kernel
theorem Yc39 : chkLoc (xp YM39 []) 20000 41 Ya39 Yp39 Yo39 = true := by decide +kernel
theorem Yc41 : chkLoc (xp YM41 []) 20000 41 Ya41 Yp41 Yo41 = true := by decide +kernel
theorem Yc44 : chkLoc (xp YM44 []) 20000 41 Ya44 Yp44 Yo44 = true := by decide +kernel
theorem Yc108 : chkLoc (xp YM108 []) 20000 41 Ya108 Yp108 Yo108 = true := by decide +kernel
theorem Yc114 : chkLoc (xp YM114 []) 20000 41 Ya114 Yp114 Yo114 = true := by decide +kernel
theorem Yc20 : chkLoc (xp YM20 []) 20000 43 Ya20 Yp20 Yo20 = true := by decide +kernel
theorem Yc52 : chkLoc (xp YM52 []) 20000 43 Ya52 Yp52 Yo52 = true := by decide +kernel
theorem Yc4 : chkLoc (xp YM4 []) 20000 41 Ya4 Yp4 Yo4 = true := by decide +kernel
theorem Yc6 : chkLoc (xp YM6 []) 20000 41 Ya6 Yp6 Yo6 = true := by decide +kernel
theorem Yc9 : chkLoc (xp YM9 []) 20000 41 Ya9 Yp9 Yo9 = true := by decide +kernel
theorem Yc25 : chkLoc (xp YM25 []) 20000 41 Ya25 Yp25 Yo25 = true := by decide +kernel
theorem Yc46 : chkLoc (xp YM46 []) 20000 41 Ya46 Yp46 Yo46 = true := by decide +kernel
theorem Yc50 : chkLoc (xp YM50 []) 20000 41 Ya50 Yp50 Yo50 = true := by decide +kernel
theorem Yc58 : chkLoc (xp YM58 []) 20000 41 Ya58 Yp58 Yo58 = true := by decide +kernel
theorem Yc98 : chkLoc (xp YM98 []) 20000 44 Ya98 Yp98 Yo98 = true := by decide +kernel
end
end Go.X
