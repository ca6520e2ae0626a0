/- What is known of calls: printed by program (wip/dx/Drv.lean). -/
import Derived.Test.YtbplpekmpoenaaaGreatDoorDxTbYE
namespace Go.X
open Go.Proofs
noncomputable section
set_option maxRecDepth 1000000
set_option maxHeartbeats 40000000
def YO0 : List OraE := [YE0,YE1,YE2,YE3,YE4,YE5,YE6,YE7,YE8,YE9,YE10,YE11,YE12,YE13,YE14,YE15,YE16,YE17,YE18,YE19,YE20,YE21]
def YL0 : List (List AV) := [[(.agg [(.res 0 (.md .u8 2 0)), (.res 2 (.rng .u8 (0) (255))), (.res 4 (.rng .u8 (0) (255))), (.res 6 (.rng .u8 (0) (255))), (.res 8 (.md .u8 5 0)), (.res 10 (.rng .u8 (0) (255))), (.res 12 (.rng .u8 (0) (255)))]), (.res 14 (.rng .u16 (0) (65535))), (.res 16 (.md .u8 4 0))]]
theorem YT0 : chkTop (xp YMT YO0) 20000 4 ⟨14, YG⟩ YL0 = true := by decide +kernel
def YO1 : List OraE := [YE0,YE1,YE2,YE3,YE4,YE5,YE6,YE7,YE8,YE9,YE10,YE11,YE12,YE13,YE14,YE15,YE16,YE17,YE18,YE19,YE20,YE21]
def YL1 : List (List AV) := [[(.agg [(.res 0 (.md .u8 2 0)), (.res 2 (.rng .u8 (0) (255))), (.res 4 (.rng .u8 (0) (255))), (.res 6 (.rng .u8 (0) (255))), (.res 8 (.md .u8 5 0)), (.res 10 (.rng .u8 (0) (255))), (.res 12 (.rng .u8 (0) (255)))]), (.res 14 (.rng .u16 (0) (65535))), (.res 16 (.md .u8 4 2))]]
theorem YT1 : chkTop (xp YMT YO1) 20000 4 ⟨14, YG⟩ YL1 = true := by decide +kernel
def YO2 : List OraE := [YE0,YE1,YE2,YE3,YE4,YE5,YE6,YE7,YE8,YE9,YE10,YE11,YE12,YE13,YE14,YE15,YE16,YE17,YE18,YE19,YE20,YE21]
def YL2 : List (List AV) := [[(.agg [(.res 0 (.md .u8 2 0)), (.res 2 (.rng .u8 (0) (255))), (.res 4 (.rng .u8 (0) (255))), (.res 6 (.rng .u8 (0) (255))), (.res 8 (.md .u8 5 0)), (.res 10 (.rng .u8 (0) (255))), (.res 12 (.rng .u8 (0) (255)))]), (.res 14 (.rng .u16 (0) (65535))), (.res 16 (.md .u8 4 3))]]
theorem YT2 : chkTop (xp YMT YO2) 20000 4 ⟨14, YG⟩ YL2 = true := by decide +kernel
def YO3 : List OraE := [YE0,YE1,YE2,YE3,YE4,YE5,YE6,YE7,YE8,YE9,YE10,YE11,YE12,YE13,YE14,YE15,YE16,YE17,YE18,YE19,YE20,YE21,YE22]
def YL3 : List (List AV) := [[(.agg [(.res 0 (.md .u8 2 0)), (.res 2 (.rng .u8 (0) (255))), (.res 4 (.rng .u8 (0) (255))), (.res 6 (.rng .u8 (0) (255))), (.res 8 (.md .u8 5 0)), (.res 10 (.rng .u8 (0) (255))), (.res 12 (.rng .u8 (0) (255)))]), (.res 14 (.rng .u16 (0) (65535))), (.res 16 (.md .u8 4 1))]]
theorem YT3 : chkTop (xp YMT YO3) 20000 4 ⟨14, YG⟩ YL3 = true := by decide +kernel
def YO4 : List OraE := [YE0,YE1,YE2,YE3,YE4,YE5,YE6,YE7,YE8,YE9,YE10,YE11,YE12,YE13,YE14,YE15,YE16,YE17,YE18,YE19,YE20,YE21,YE23]
def YL4 : List (List AV) := [[(.agg [(.res 0 (.md .u8 2 0)), (.res 2 (.rng .u8 (0) (255))), (.res 4 (.rng .u8 (0) (255))), (.res 6 (.rng .u8 (0) (255))), (.res 8 (.md .u8 5 0)), (.res 10 (.rng .u8 (0) (255))), (.res 12 (.rng .u8 (0) (255)))]), (.res 14 (.rng .u16 (0) (65535))), (.res 16 (.md .u8 4 1))]]
theorem YT4 : chkTop (xp YMT YO4) 20000 4 ⟨14, YG⟩ YL4 = true := by decide +kernel
def YO5 : List OraE := [YE0,YE1,YE2,YE3,YE4,YE5,YE6,YE7,YE8,YE9,YE10,YE11,YE12,YE13,YE14,YE15,YE16,YE17,YE18,YE19,YE20,YE21,YE24]
def YL5 : List (List AV) := [[(.agg [(.res 0 (.md .u8 2 0)), (.res 2 (.rng .u8 (0) (255))), (.res 4 (.rng .u8 (0) (255))), (.res 6 (.rng .u8 (0) (255))), (.res 8 (.md .u8 5 0)), (.res 10 (.rng .u8 (0) (255))), (.res 12 (.rng .u8 (0) (255)))]), (.res 14 (.rng .u16 (0) (65535))), (.res 16 (.md .u8 4 1))]]
theorem YT5 : chkTop (xp YMT YO5) 20000 4 ⟨14, YG⟩ YL5 = true := by decide +kernel
def YO6 : List OraE := [YE0,YE1,YE2,YE3,YE4,YE5,YE6,YE7,YE8,YE9,YE10,YE11,YE12,YE13,YE14,YE15,YE16,YE17,YE18,YE19,YE20,YE21,YE25]
def YL6 : List (List AV) := [[(.agg [(.res 0 (.md .u8 2 0)), (.res 2 (.rng .u8 (0) (255))), (.res 4 (.rng .u8 (0) (255))), (.res 6 (.rng .u8 (0) (255))), (.res 8 (.md .u8 5 0)), (.res 10 (.rng .u8 (0) (255))), (.res 12 (.rng .u8 (0) (255)))]), (.res 14 (.rng .u16 (0) (65535))), (.res 16 (.md .u8 4 1))]]
theorem YT6 : chkTop (xp YMT YO6) 20000 4 ⟨14, YG⟩ YL6 = true := by decide +kernel
end
end Go.X
