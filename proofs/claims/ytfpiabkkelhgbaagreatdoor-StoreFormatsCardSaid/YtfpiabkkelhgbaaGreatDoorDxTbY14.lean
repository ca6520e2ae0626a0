/- What is known of calls: printed by program (wip/dx/Drv.lean). -/
import Derived.Test.YtfpiabkkelhgbaaGreatDoorDxTbYD1
namespace Go.X
open Go.Proofs
noncomputable section
set_option maxRecDepth 1000000
set_option maxHeartbeats 40000000
def YO37 : List OraE := YB39 ++ []
def YL37 : List (List AV) := [[(.agg [(Ii 27), (.res 2 (.rng .i64 (33) (8192))), (.res 4 (.rng .i64 (2) (8))), (.res 6 (.rng .i64 (66) (65536))), (.res 8 (.rng .i64 (1) (32))), (.res 10 (.rng .i64 (0) (512))), (.res 12 (.rng .i64 (1) (2)))])]]
theorem YT37 : chkTop (xp YMT39 YO37) 20000 3 ⟨13, YG⟩ YL37 = true := by decide +kernel
def YO38 : List OraE := YB40 ++ []
def YL38 : List (List AV) := [[(.agg [(Ii 28), (.res 2 (.rng .i64 (33) (8192))), (.res 4 (.rng .i64 (2) (8))), (.res 6 (.rng .i64 (66) (65536))), (.res 8 (.rng .i64 (1) (32))), (.res 10 (.rng .i64 (0) (512))), (.res 12 (.rng .i64 (1) (2)))])]]
theorem YT38 : chkTop (xp YMT40 YO38) 20000 3 ⟨13, YG⟩ YL38 = true := by decide +kernel
def YO39 : List OraE := YB41 ++ []
def YL39 : List (List AV) := [[(.agg [(Ii 29), (.res 2 (.rng .i64 (33) (8192))), (.res 4 (.rng .i64 (2) (8))), (.res 6 (.rng .i64 (66) (65536))), (.res 8 (.rng .i64 (1) (32))), (.res 10 (.rng .i64 (0) (512))), (.res 12 (.rng .i64 (1) (2)))])]]
theorem YT39 : chkTop (xp YMT41 YO39) 20000 3 ⟨13, YG⟩ YL39 = true := by decide +kernel
end
end Go.X
