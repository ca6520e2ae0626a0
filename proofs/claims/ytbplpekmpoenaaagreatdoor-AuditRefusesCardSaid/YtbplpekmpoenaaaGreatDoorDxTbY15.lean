/- What is known of calls: printed by program (wip/dx/Drv.lean). -/
import Derived.Test.YtbplpekmpoenaaaGreatDoorDxTbYE
namespace Go.X
open Go.Proofs
noncomputable section
set_option maxRecDepth 1000000
set_option maxHeartbeats 40000000
def YO35 : List OraE := [YE0,YE1,YE2,YE3,YE4,YE5,YE6,YE7,YE8,YE9,YE10,YE11,YE12,YE13,YE14,YE17,YE18,YE19,YE20,YE21,YE33,YE34,YE22]
def YL35 : List (List AV) := [[(.agg [(.res 0 (.md .u8 2 0)), (.res 2 (.rng .u8 (0) (255))), (.res 4 (.rng .u8 (0) (255))), (.res 6 (.rng .u8 (0) (255))), (.res 8 (.md .u8 5 4)), (.res 10 (.rng .u8 (0) (255))), (.res 12 (.rng .u8 (0) (255)))]), (.res 14 (.rng .u16 (0) (65535))), (.res 16 (.md .u8 4 1))]]
theorem YT35 : chkTop (xp YMT YO35) 20000 4 ⟨14, YG⟩ YL35 = true := by decide +kernel
def YO36 : List OraE := [YE0,YE1,YE2,YE3,YE4,YE5,YE6,YE7,YE8,YE9,YE10,YE11,YE12,YE13,YE14,YE17,YE18,YE19,YE20,YE21,YE33,YE34,YE23]
def YL36 : List (List AV) := [[(.agg [(.res 0 (.md .u8 2 0)), (.res 2 (.rng .u8 (0) (255))), (.res 4 (.rng .u8 (0) (255))), (.res 6 (.rng .u8 (0) (255))), (.res 8 (.md .u8 5 4)), (.res 10 (.rng .u8 (0) (255))), (.res 12 (.rng .u8 (0) (255)))]), (.res 14 (.rng .u16 (0) (65535))), (.res 16 (.md .u8 4 1))]]
theorem YT36 : chkTop (xp YMT YO36) 20000 4 ⟨14, YG⟩ YL36 = true := by decide +kernel
def YO37 : List OraE := [YE0,YE1,YE2,YE3,YE4,YE5,YE6,YE7,YE8,YE9,YE10,YE11,YE12,YE13,YE14,YE17,YE18,YE19,YE20,YE21,YE33,YE34,YE24]
def YL37 : List (List AV) := [[(.agg [(.res 0 (.md .u8 2 0)), (.res 2 (.rng .u8 (0) (255))), (.res 4 (.rng .u8 (0) (255))), (.res 6 (.rng .u8 (0) (255))), (.res 8 (.md .u8 5 4)), (.res 10 (.rng .u8 (0) (255))), (.res 12 (.rng .u8 (0) (255)))]), (.res 14 (.rng .u16 (0) (65535))), (.res 16 (.md .u8 4 1))]]
theorem YT37 : chkTop (xp YMT YO37) 20000 4 ⟨14, YG⟩ YL37 = true := by decide +kernel
def YO38 : List OraE := [YE0,YE1,YE2,YE3,YE4,YE5,YE6,YE7,YE8,YE9,YE10,YE11,YE12,YE13,YE14,YE17,YE18,YE19,YE20,YE21,YE33,YE34,YE25]
def YL38 : List (List AV) := [[(.agg [(.res 0 (.md .u8 2 0)), (.res 2 (.rng .u8 (0) (255))), (.res 4 (.rng .u8 (0) (255))), (.res 6 (.rng .u8 (0) (255))), (.res 8 (.md .u8 5 4)), (.res 10 (.rng .u8 (0) (255))), (.res 12 (.rng .u8 (0) (255)))]), (.res 14 (.rng .u16 (0) (65535))), (.res 16 (.md .u8 4 1))]]
theorem YT38 : chkTop (xp YMT YO38) 20000 4 ⟨14, YG⟩ YL38 = true := by decide +kernel
def YO39 : List OraE := [YE0,YE1,YE2,YE3,YE4,YE5,YE6,YE7,YE8,YE9,YE10,YE11,YE12,YE13,YE14,YE17,YE18,YE19,YE20,YE21,YE33,YE34,YE26]
def YL39 : List (List AV) := [[(.agg [(.res 0 (.md .u8 2 0)), (.res 2 (.rng .u8 (0) (255))), (.res 4 (.rng .u8 (0) (255))), (.res 6 (.rng .u8 (0) (255))), (.res 8 (.md .u8 5 4)), (.res 10 (.rng .u8 (0) (255))), (.res 12 (.rng .u8 (0) (255)))]), (.res 14 (.rng .u16 (0) (65535))), (.res 16 (.md .u8 4 1))]]
theorem YT39 : chkTop (xp YMT YO39) 20000 4 ⟨14, YG⟩ YL39 = true := by decide +kernel
def YO40 : List OraE := [YE0,YE1,YE2,YE3,YE4,YE5,YE6,YE7,YE8,YE9,YE10,YE11,YE12,YE13,YE14,YE17,YE18,YE19,YE20,YE21,YE35,YE36]
def YL40 : List (List AV) := [[(.agg [(.res 0 (.md .u8 2 1)), (.res 2 (.rng .u8 (0) (255))), (.res 4 (.rng .u8 (0) (255))), (.res 6 (.rng .u8 (0) (255))), (.res 8 (.md .u8 5 0)), (.res 10 (.rng .u8 (0) (255))), (.res 12 (.rng .u8 (0) (255)))]), (.res 14 (.rng .u16 (0) (65535))), (.res 16 (.md .u8 4 0))]]
theorem YT40 : chkTop (xp YMT YO40) 20000 4 ⟨14, YG⟩ YL40 = true := by decide +kernel
def YO41 : List OraE := [YE0,YE1,YE2,YE3,YE4,YE5,YE6,YE7,YE8,YE9,YE10,YE11,YE12,YE13,YE14,YE17,YE18,YE19,YE20,YE21,YE35,YE36]
def YL41 : List (List AV) := [[(.agg [(.res 0 (.md .u8 2 1)), (.res 2 (.rng .u8 (0) (255))), (.res 4 (.rng .u8 (0) (255))), (.res 6 (.rng .u8 (0) (255))), (.res 8 (.md .u8 5 0)), (.res 10 (.rng .u8 (0) (255))), (.res 12 (.rng .u8 (0) (255)))]), (.res 14 (.rng .u16 (0) (65535))), (.res 16 (.md .u8 4 2))]]
theorem YT41 : chkTop (xp YMT YO41) 20000 4 ⟨14, YG⟩ YL41 = true := by decide +kernel
end
end Go.X
