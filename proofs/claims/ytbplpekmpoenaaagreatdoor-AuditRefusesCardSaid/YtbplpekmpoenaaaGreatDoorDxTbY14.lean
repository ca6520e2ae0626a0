/- What is known of calls: printed by program (wip/dx/Drv.lean). -/
import Derived.Test.YtbplpekmpoenaaaGreatDoorDxTbYE
namespace Go.X
open Go.Proofs
noncomputable section
set_option maxRecDepth 1000000
set_option maxHeartbeats 40000000
def YO28 : List OraE := [YE0,YE1,YE2,YE3,YE4,YE5,YE6,YE7,YE8,YE9,YE10,YE11,YE12,YE13,YE14,YE17,YE18,YE19,YE20,YE21,YE31,YE32,YE23]
def YL28 : List (List AV) := [[(.agg [(.res 0 (.md .u8 2 0)), (.res 2 (.rng .u8 (0) (255))), (.res 4 (.rng .u8 (0) (255))), (.res 6 (.rng .u8 (0) (255))), (.res 8 (.md .u8 5 3)), (.res 10 (.rng .u8 (0) (255))), (.res 12 (.rng .u8 (0) (255)))]), (.res 14 (.rng .u16 (0) (65535))), (.res 16 (.md .u8 4 1))]]
theorem YT28 : chkTop (xp YMT YO28) 20000 4 ⟨14, YG⟩ YL28 = true := by decide +kernel
def YO29 : List OraE := [YE0,YE1,YE2,YE3,YE4,YE5,YE6,YE7,YE8,YE9,YE10,YE11,YE12,YE13,YE14,YE17,YE18,YE19,YE20,YE21,YE31,YE32,YE24]
def YL29 : List (List AV) := [[(.agg [(.res 0 (.md .u8 2 0)), (.res 2 (.rng .u8 (0) (255))), (.res 4 (.rng .u8 (0) (255))), (.res 6 (.rng .u8 (0) (255))), (.res 8 (.md .u8 5 3)), (.res 10 (.rng .u8 (0) (255))), (.res 12 (.rng .u8 (0) (255)))]), (.res 14 (.rng .u16 (0) (65535))), (.res 16 (.md .u8 4 1))]]
theorem YT29 : chkTop (xp YMT YO29) 20000 4 ⟨14, YG⟩ YL29 = true := by decide +kernel
def YO30 : List OraE := [YE0,YE1,YE2,YE3,YE4,YE5,YE6,YE7,YE8,YE9,YE10,YE11,YE12,YE13,YE14,YE17,YE18,YE19,YE20,YE21,YE31,YE32,YE25]
def YL30 : List (List AV) := [[(.agg [(.res 0 (.md .u8 2 0)), (.res 2 (.rng .u8 (0) (255))), (.res 4 (.rng .u8 (0) (255))), (.res 6 (.rng .u8 (0) (255))), (.res 8 (.md .u8 5 3)), (.res 10 (.rng .u8 (0) (255))), (.res 12 (.rng .u8 (0) (255)))]), (.res 14 (.rng .u16 (0) (65535))), (.res 16 (.md .u8 4 1))]]
theorem YT30 : chkTop (xp YMT YO30) 20000 4 ⟨14, YG⟩ YL30 = true := by decide +kernel
def YO31 : List OraE := [YE0,YE1,YE2,YE3,YE4,YE5,YE6,YE7,YE8,YE9,YE10,YE11,YE12,YE13,YE14,YE17,YE18,YE19,YE20,YE21,YE31,YE32,YE26]
def YL31 : List (List AV) := [[(.agg [(.res 0 (.md .u8 2 0)), (.res 2 (.rng .u8 (0) (255))), (.res 4 (.rng .u8 (0) (255))), (.res 6 (.rng .u8 (0) (255))), (.res 8 (.md .u8 5 3)), (.res 10 (.rng .u8 (0) (255))), (.res 12 (.rng .u8 (0) (255)))]), (.res 14 (.rng .u16 (0) (65535))), (.res 16 (.md .u8 4 1))]]
theorem YT31 : chkTop (xp YMT YO31) 20000 4 ⟨14, YG⟩ YL31 = true := by decide +kernel
def YO32 : List OraE := [YE0,YE1,YE2,YE3,YE4,YE5,YE6,YE7,YE8,YE9,YE10,YE11,YE12,YE13,YE14,YE17,YE18,YE19,YE20,YE21,YE33,YE34]
def YL32 : List (List AV) := [[(.agg [(.res 0 (.md .u8 2 0)), (.res 2 (.rng .u8 (0) (255))), (.res 4 (.rng .u8 (0) (255))), (.res 6 (.rng .u8 (0) (255))), (.res 8 (.md .u8 5 4)), (.res 10 (.rng .u8 (0) (255))), (.res 12 (.rng .u8 (0) (255)))]), (.res 14 (.rng .u16 (0) (65535))), (.res 16 (.md .u8 4 0))]]
theorem YT32 : chkTop (xp YMT YO32) 20000 4 ⟨14, YG⟩ YL32 = true := by decide +kernel
def YO33 : List OraE := [YE0,YE1,YE2,YE3,YE4,YE5,YE6,YE7,YE8,YE9,YE10,YE11,YE12,YE13,YE14,YE17,YE18,YE19,YE20,YE21,YE33,YE34]
def YL33 : List (List AV) := [[(.agg [(.res 0 (.md .u8 2 0)), (.res 2 (.rng .u8 (0) (255))), (.res 4 (.rng .u8 (0) (255))), (.res 6 (.rng .u8 (0) (255))), (.res 8 (.md .u8 5 4)), (.res 10 (.rng .u8 (0) (255))), (.res 12 (.rng .u8 (0) (255)))]), (.res 14 (.rng .u16 (0) (65535))), (.res 16 (.md .u8 4 2))]]
theorem YT33 : chkTop (xp YMT YO33) 20000 4 ⟨14, YG⟩ YL33 = true := by decide +kernel
def YO34 : List OraE := [YE0,YE1,YE2,YE3,YE4,YE5,YE6,YE7,YE8,YE9,YE10,YE11,YE12,YE13,YE14,YE17,YE18,YE19,YE20,YE21,YE33,YE34]
def YL34 : List (List AV) := [[(.agg [(.res 0 (.md .u8 2 0)), (.res 2 (.rng .u8 (0) (255))), (.res 4 (.rng .u8 (0) (255))), (.res 6 (.rng .u8 (0) (255))), (.res 8 (.md .u8 5 4)), (.res 10 (.rng .u8 (0) (255))), (.res 12 (.rng .u8 (0) (255)))]), (.res 14 (.rng .u16 (0) (65535))), (.res 16 (.md .u8 4 3))]]
theorem YT34 : chkTop (xp YMT YO34) 20000 4 ⟨14, YG⟩ YL34 = true := by decide +kernel
end
end Go.X
