/- What is known of calls: printed by program (wip/dx/Drv.lean). -/
import Derived.Test.YtbplpekmpoenaaaGreatDoorDxTbYE
namespace Go.X
open Go.Proofs
noncomputable section
set_option maxRecDepth 1000000
set_option maxHeartbeats 40000000
def YO70 : List OraE := [YE0,YE1,YE2,YE3,YE4,YE5,YE6,YE7,YE8,YE9,YE10,YE11,YE12,YE13,YE14,YE17,YE18,YE19,YE20,YE21,YE41,YE42,YE25]
def YL70 : List (List AV) := [[(.agg [(.res 0 (.md .u8 2 1)), (.res 2 (.rng .u8 (0) (255))), (.res 4 (.rng .u8 (0) (255))), (.res 6 (.rng .u8 (0) (255))), (.res 8 (.md .u8 5 3)), (.res 10 (.rng .u8 (0) (255))), (.res 12 (.rng .u8 (0) (255)))]), (.res 14 (.rng .u16 (0) (65535))), (.res 16 (.md .u8 4 1))]]
theorem YT70 : chkTop (xp YMT YO70) 20000 4 ⟨14, YG⟩ YL70 = true := by decide +kernel
def YO71 : List OraE := [YE0,YE1,YE2,YE3,YE4,YE5,YE6,YE7,YE8,YE9,YE10,YE11,YE12,YE13,YE14,YE17,YE18,YE19,YE20,YE21,YE41,YE42,YE26]
def YL71 : List (List AV) := [[(.agg [(.res 0 (.md .u8 2 1)), (.res 2 (.rng .u8 (0) (255))), (.res 4 (.rng .u8 (0) (255))), (.res 6 (.rng .u8 (0) (255))), (.res 8 (.md .u8 5 3)), (.res 10 (.rng .u8 (0) (255))), (.res 12 (.rng .u8 (0) (255)))]), (.res 14 (.rng .u16 (0) (65535))), (.res 16 (.md .u8 4 1))]]
theorem YT71 : chkTop (xp YMT YO71) 20000 4 ⟨14, YG⟩ YL71 = true := by decide +kernel
def YO72 : List OraE := [YE0,YE1,YE2,YE3,YE4,YE5,YE6,YE7,YE8,YE9,YE10,YE11,YE12,YE13,YE14,YE17,YE18,YE19,YE20,YE21,YE43,YE44]
def YL72 : List (List AV) := [[(.agg [(.res 0 (.md .u8 2 1)), (.res 2 (.rng .u8 (0) (255))), (.res 4 (.rng .u8 (0) (255))), (.res 6 (.rng .u8 (0) (255))), (.res 8 (.md .u8 5 4)), (.res 10 (.rng .u8 (0) (255))), (.res 12 (.rng .u8 (0) (255)))]), (.res 14 (.rng .u16 (0) (65535))), (.res 16 (.md .u8 4 0))]]
theorem YT72 : chkTop (xp YMT YO72) 20000 4 ⟨14, YG⟩ YL72 = true := by decide +kernel
def YO73 : List OraE := [YE0,YE1,YE2,YE3,YE4,YE5,YE6,YE7,YE8,YE9,YE10,YE11,YE12,YE13,YE14,YE17,YE18,YE19,YE20,YE21,YE43,YE44]
def YL73 : List (List AV) := [[(.agg [(.res 0 (.md .u8 2 1)), (.res 2 (.rng .u8 (0) (255))), (.res 4 (.rng .u8 (0) (255))), (.res 6 (.rng .u8 (0) (255))), (.res 8 (.md .u8 5 4)), (.res 10 (.rng .u8 (0) (255))), (.res 12 (.rng .u8 (0) (255)))]), (.res 14 (.rng .u16 (0) (65535))), (.res 16 (.md .u8 4 2))]]
theorem YT73 : chkTop (xp YMT YO73) 20000 4 ⟨14, YG⟩ YL73 = true := by decide +kernel
def YO74 : List OraE := [YE0,YE1,YE2,YE3,YE4,YE5,YE6,YE7,YE8,YE9,YE10,YE11,YE12,YE13,YE14,YE17,YE18,YE19,YE20,YE21,YE43,YE44]
def YL74 : List (List AV) := [[(.agg [(.res 0 (.md .u8 2 1)), (.res 2 (.rng .u8 (0) (255))), (.res 4 (.rng .u8 (0) (255))), (.res 6 (.rng .u8 (0) (255))), (.res 8 (.md .u8 5 4)), (.res 10 (.rng .u8 (0) (255))), (.res 12 (.rng .u8 (0) (255)))]), (.res 14 (.rng .u16 (0) (65535))), (.res 16 (.md .u8 4 3))]]
theorem YT74 : chkTop (xp YMT YO74) 20000 4 ⟨14, YG⟩ YL74 = true := by decide +kernel
def YO75 : List OraE := [YE0,YE1,YE2,YE3,YE4,YE5,YE6,YE7,YE8,YE9,YE10,YE11,YE12,YE13,YE14,YE17,YE18,YE19,YE20,YE21,YE43,YE44,YE22]
def YL75 : List (List AV) := [[(.agg [(.res 0 (.md .u8 2 1)), (.res 2 (.rng .u8 (0) (255))), (.res 4 (.rng .u8 (0) (255))), (.res 6 (.rng .u8 (0) (255))), (.res 8 (.md .u8 5 4)), (.res 10 (.rng .u8 (0) (255))), (.res 12 (.rng .u8 (0) (255)))]), (.res 14 (.rng .u16 (0) (65535))), (.res 16 (.md .u8 4 1))]]
theorem YT75 : chkTop (xp YMT YO75) 20000 4 ⟨14, YG⟩ YL75 = true := by decide +kernel
def YO76 : List OraE := [YE0,YE1,YE2,YE3,YE4,YE5,YE6,YE7,YE8,YE9,YE10,YE11,YE12,YE13,YE14,YE17,YE18,YE19,YE20,YE21,YE43,YE44,YE23]
def YL76 : List (List AV) := [[(.agg [(.res 0 (.md .u8 2 1)), (.res 2 (.rng .u8 (0) (255))), (.res 4 (.rng .u8 (0) (255))), (.res 6 (.rng .u8 (0) (255))), (.res 8 (.md .u8 5 4)), (.res 10 (.rng .u8 (0) (255))), (.res 12 (.rng .u8 (0) (255)))]), (.res 14 (.rng .u16 (0) (65535))), (.res 16 (.md .u8 4 1))]]
theorem YT76 : chkTop (xp YMT YO76) 20000 4 ⟨14, YG⟩ YL76 = true := by decide +kernel
end
end Go.X
