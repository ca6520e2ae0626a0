/- What is known of calls: printed by program (wip/dx/Drv.lean). -/
import Derived.Test.YtbplpekmpoenaaaGreatDoorDxTbYE
namespace Go.X
open Go.Proofs
noncomputable section
set_option maxRecDepth 1000000
set_option maxHeartbeats 40000000
def YO21 : List OraE := [YE0,YE1,YE2,YE3,YE4,YE5,YE6,YE7,YE8,YE9,YE10,YE11,YE12,YE13,YE14,YE17,YE18,YE19,YE20,YE21,YE29,YE30,YE24]
def YL21 : List (List AV) := [[(.agg [(.res 0 (.md .u8 2 0)), (.res 2 (.rng .u8 (0) (255))), (.res 4 (.rng .u8 (0) (255))), (.res 6 (.rng .u8 (0) (255))), (.res 8 (.md .u8 5 2)), (.res 10 (.rng .u8 (0) (255))), (.res 12 (.rng .u8 (0) (255)))]), (.res 14 (.rng .u16 (0) (65535))), (.res 16 (.md .u8 4 1))]]
theorem YT21 : chkTop (xp YMT YO21) 20000 4 ⟨14, YG⟩ YL21 = true := by decide +kernel
def YO22 : List OraE := [YE0,YE1,YE2,YE3,YE4,YE5,YE6,YE7,YE8,YE9,YE10,YE11,YE12,YE13,YE14,YE17,YE18,YE19,YE20,YE21,YE29,YE30,YE25]
def YL22 : List (List AV) := [[(.agg [(.res 0 (.md .u8 2 0)), (.res 2 (.rng .u8 (0) (255))), (.res 4 (.rng .u8 (0) (255))), (.res 6 (.rng .u8 (0) (255))), (.res 8 (.md .u8 5 2)), (.res 10 (.rng .u8 (0) (255))), (.res 12 (.rng .u8 (0) (255)))]), (.res 14 (.rng .u16 (0) (65535))), (.res 16 (.md .u8 4 1))]]
theorem YT22 : chkTop (xp YMT YO22) 20000 4 ⟨14, YG⟩ YL22 = true := by decide +kernel
def YO23 : List OraE := [YE0,YE1,YE2,YE3,YE4,YE5,YE6,YE7,YE8,YE9,YE10,YE11,YE12,YE13,YE14,YE17,YE18,YE19,YE20,YE21,YE29,YE30,YE26]
def YL23 : List (List AV) := [[(.agg [(.res 0 (.md .u8 2 0)), (.res 2 (.rng .u8 (0) (255))), (.res 4 (.rng .u8 (0) (255))), (.res 6 (.rng .u8 (0) (255))), (.res 8 (.md .u8 5 2)), (.res 10 (.rng .u8 (0) (255))), (.res 12 (.rng .u8 (0) (255)))]), (.res 14 (.rng .u16 (0) (65535))), (.res 16 (.md .u8 4 1))]]
theorem YT23 : chkTop (xp YMT YO23) 20000 4 ⟨14, YG⟩ YL23 = true := by decide +kernel
def YO24 : List OraE := [YE0,YE1,YE2,YE3,YE4,YE5,YE6,YE7,YE8,YE9,YE10,YE11,YE12,YE13,YE14,YE17,YE18,YE19,YE20,YE21,YE31,YE32]
def YL24 : List (List AV) := [[(.agg [(.res 0 (.md .u8 2 0)), (.res 2 (.rng .u8 (0) (255))), (.res 4 (.rng .u8 (0) (255))), (.res 6 (.rng .u8 (0) (255))), (.res 8 (.md .u8 5 3)), (.res 10 (.rng .u8 (0) (255))), (.res 12 (.rng .u8 (0) (255)))]), (.res 14 (.rng .u16 (0) (65535))), (.res 16 (.md .u8 4 0))]]
theorem YT24 : chkTop (xp YMT YO24) 20000 4 ⟨14, YG⟩ YL24 = true := by decide +kernel
def YO25 : List OraE := [YE0,YE1,YE2,YE3,YE4,YE5,YE6,YE7,YE8,YE9,YE10,YE11,YE12,YE13,YE14,YE17,YE18,YE19,YE20,YE21,YE31,YE32]
def YL25 : List (List AV) := [[(.agg [(.res 0 (.md .u8 2 0)), (.res 2 (.rng .u8 (0) (255))), (.res 4 (.rng .u8 (0) (255))), (.res 6 (.rng .u8 (0) (255))), (.res 8 (.md .u8 5 3)), (.res 10 (.rng .u8 (0) (255))), (.res 12 (.rng .u8 (0) (255)))]), (.res 14 (.rng .u16 (0) (65535))), (.res 16 (.md .u8 4 2))]]
theorem YT25 : chkTop (xp YMT YO25) 20000 4 ⟨14, YG⟩ YL25 = true := by decide +kernel
def YO26 : List OraE := [YE0,YE1,YE2,YE3,YE4,YE5,YE6,YE7,YE8,YE9,YE10,YE11,YE12,YE13,YE14,YE17,YE18,YE19,YE20,YE21,YE31,YE32]
def YL26 : List (List AV) := [[(.agg [(.res 0 (.md .u8 2 0)), (.res 2 (.rng .u8 (0) (255))), (.res 4 (.rng .u8 (0) (255))), (.res 6 (.rng .u8 (0) (255))), (.res 8 (.md .u8 5 3)), (.res 10 (.rng .u8 (0) (255))), (.res 12 (.rng .u8 (0) (255)))]), (.res 14 (.rng .u16 (0) (65535))), (.res 16 (.md .u8 4 3))]]
theorem YT26 : chkTop (xp YMT YO26) 20000 4 ⟨14, YG⟩ YL26 = true := by decide +kernel
def YO27 : List OraE := [YE0,YE1,YE2,YE3,YE4,YE5,YE6,YE7,YE8,YE9,YE10,YE11,YE12,YE13,YE14,YE17,YE18,YE19,YE20,YE21,YE31,YE32,YE22]
def YL27 : List (List AV) := [[(.agg [(.res 0 (.md .u8 2 0)), (.res 2 (.rng .u8 (0) (255))), (.res 4 (.rng .u8 (0) (255))), (.res 6 (.rng .u8 (0) (255))), (.res 8 (.md .u8 5 3)), (.res 10 (.rng .u8 (0) (255))), (.res 12 (.rng .u8 (0) (255)))]), (.res 14 (.rng .u16 (0) (65535))), (.res 16 (.md .u8 4 1))]]
theorem YT27 : chkTop (xp YMT YO27) 20000 4 ⟨14, YG⟩ YL27 = true := by decide +kernel
end
end Go.X
