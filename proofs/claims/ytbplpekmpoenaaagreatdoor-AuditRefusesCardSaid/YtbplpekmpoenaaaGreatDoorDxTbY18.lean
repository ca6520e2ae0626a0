/- What is known of calls: printed by program (wip/dx/Drv.lean). -/
import Derived.Test.YtbplpekmpoenaaaGreatDoorDxTbYE
namespace Go.X
open Go.Proofs
noncomputable section
set_option maxRecDepth 1000000
set_option maxHeartbeats 40000000
def YO56 : List OraE := [YE0,YE1,YE2,YE3,YE4,YE5,YE6,YE7,YE8,YE9,YE10,YE11,YE12,YE13,YE14,YE17,YE18,YE19,YE20,YE21,YE39,YE40]
def YL56 : List (List AV) := [[(.agg [(.res 0 (.md .u8 2 1)), (.res 2 (.rng .u8 (0) (255))), (.res 4 (.rng .u8 (0) (255))), (.res 6 (.rng .u8 (0) (255))), (.res 8 (.md .u8 5 2)), (.res 10 (.rng .u8 (0) (255))), (.res 12 (.rng .u8 (0) (255)))]), (.res 14 (.rng .u16 (0) (65535))), (.res 16 (.md .u8 4 0))]]
theorem YT56 : chkTop (xp YMT YO56) 20000 4 ⟨14, YG⟩ YL56 = true := by decide +kernel
def YO57 : List OraE := [YE0,YE1,YE2,YE3,YE4,YE5,YE6,YE7,YE8,YE9,YE10,YE11,YE12,YE13,YE14,YE17,YE18,YE19,YE20,YE21,YE39,YE40]
def YL57 : List (List AV) := [[(.agg [(.res 0 (.md .u8 2 1)), (.res 2 (.rng .u8 (0) (255))), (.res 4 (.rng .u8 (0) (255))), (.res 6 (.rng .u8 (0) (255))), (.res 8 (.md .u8 5 2)), (.res 10 (.rng .u8 (0) (255))), (.res 12 (.rng .u8 (0) (255)))]), (.res 14 (.rng .u16 (0) (65535))), (.res 16 (.md .u8 4 2))]]
theorem YT57 : chkTop (xp YMT YO57) 20000 4 ⟨14, YG⟩ YL57 = true := by decide +kernel
def YO58 : List OraE := [YE0,YE1,YE2,YE3,YE4,YE5,YE6,YE7,YE8,YE9,YE10,YE11,YE12,YE13,YE14,YE17,YE18,YE19,YE20,YE21,YE39,YE40]
def YL58 : List (List AV) := [[(.agg [(.res 0 (.md .u8 2 1)), (.res 2 (.rng .u8 (0) (255))), (.res 4 (.rng .u8 (0) (255))), (.res 6 (.rng .u8 (0) (255))), (.res 8 (.md .u8 5 2)), (.res 10 (.rng .u8 (0) (255))), (.res 12 (.rng .u8 (0) (255)))]), (.res 14 (.rng .u16 (0) (65535))), (.res 16 (.md .u8 4 3))]]
theorem YT58 : chkTop (xp YMT YO58) 20000 4 ⟨14, YG⟩ YL58 = true := by decide +kernel
def YO59 : List OraE := [YE0,YE1,YE2,YE3,YE4,YE5,YE6,YE7,YE8,YE9,YE10,YE11,YE12,YE13,YE14,YE17,YE18,YE19,YE20,YE21,YE39,YE40,YE22]
def YL59 : List (List AV) := [[(.agg [(.res 0 (.md .u8 2 1)), (.res 2 (.rng .u8 (0) (255))), (.res 4 (.rng .u8 (0) (255))), (.res 6 (.rng .u8 (0) (255))), (.res 8 (.md .u8 5 2)), (.res 10 (.rng .u8 (0) (255))), (.res 12 (.rng .u8 (0) (255)))]), (.res 14 (.rng .u16 (0) (65535))), (.res 16 (.md .u8 4 1))]]
theorem YT59 : chkTop (xp YMT YO59) 20000 4 ⟨14, YG⟩ YL59 = true := by decide +kernel
def YO60 : List OraE := [YE0,YE1,YE2,YE3,YE4,YE5,YE6,YE7,YE8,YE9,YE10,YE11,YE12,YE13,YE14,YE17,YE18,YE19,YE20,YE21,YE39,YE40,YE23]
def YL60 : List (List AV) := [[(.agg [(.res 0 (.md .u8 2 1)), (.res 2 (.rng .u8 (0) (255))), (.res 4 (.rng .u8 (0) (255))), (.res 6 (.rng .u8 (0) (255))), (.res 8 (.md .u8 5 2)), (.res 10 (.rng .u8 (0) (255))), (.res 12 (.rng .u8 (0) (255)))]), (.res 14 (.rng .u16 (0) (65535))), (.res 16 (.md .u8 4 1))]]
theorem YT60 : chkTop (xp YMT YO60) 20000 4 ⟨14, YG⟩ YL60 = true := by decide +kernel
def YO61 : List OraE := [YE0,YE1,YE2,YE3,YE4,YE5,YE6,YE7,YE8,YE9,YE10,YE11,YE12,YE13,YE14,YE17,YE18,YE19,YE20,YE21,YE39,YE40,YE24]
def YL61 : List (List AV) := [[(.agg [(.res 0 (.md .u8 2 1)), (.res 2 (.rng .u8 (0) (255))), (.res 4 (.rng .u8 (0) (255))), (.res 6 (.rng .u8 (0) (255))), (.res 8 (.md .u8 5 2)), (.res 10 (.rng .u8 (0) (255))), (.res 12 (.rng .u8 (0) (255)))]), (.res 14 (.rng .u16 (0) (65535))), (.res 16 (.md .u8 4 1))]]
theorem YT61 : chkTop (xp YMT YO61) 20000 4 ⟨14, YG⟩ YL61 = true := by decide +kernel
def YO62 : List OraE := [YE0,YE1,YE2,YE3,YE4,YE5,YE6,YE7,YE8,YE9,YE10,YE11,YE12,YE13,YE14,YE17,YE18,YE19,YE20,YE21,YE39,YE40,YE25]
def YL62 : List (List AV) := [[(.agg [(.res 0 (.md .u8 2 1)), (.res 2 (.rng .u8 (0) (255))), (.res 4 (.rng .u8 (0) (255))), (.res 6 (.rng .u8 (0) (255))), (.res 8 (.md .u8 5 2)), (.res 10 (.rng .u8 (0) (255))), (.res 12 (.rng .u8 (0) (255)))]), (.res 14 (.rng .u16 (0) (65535))), (.res 16 (.md .u8 4 1))]]
theorem YT62 : chkTop (xp YMT YO62) 20000 4 ⟨14, YG⟩ YL62 = true := by decide +kernel
end
end Go.X
