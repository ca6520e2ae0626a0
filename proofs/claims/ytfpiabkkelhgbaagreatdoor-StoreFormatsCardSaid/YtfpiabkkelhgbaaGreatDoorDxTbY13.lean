/- What is known of calls: printed by program (wip/dx/Drv.lean). -/
import Derived.Test.YtfpiabkkelhgbaaGreatDoorDxTbYD1
namespace Go.X
open Go.Proofs
noncomputable section
set_option maxRecDepth 1000000
set_option maxHeartbeats 40000000
def YO34 : List OraE := YB36 ++ []
def YL34 : List (List AV) := [[(.agg [(Ii 24), (.res 2 (.rng .i64 (33) (8192))), (.res 4 (.rng .i64 (2) (8))), (.res 6 (.rng .i64 (66) (65536))), (.res 8 (.rng .i64 (1) (32))), (.res 10 (.rng .i64 (0) (512))), (.res 12 (.rng .i64 (1) (2)))])]]
theorem YT34 : chkTop (xp YMT36 YO34) 20000 3 ⟨13, YG⟩ YL34 = true := by decide +kernel
def YO35 : List OraE := YB37 ++ []
def YL35 : List (List AV) := [[(.agg [(Ii 25), (.res 2 (.rng .i64 (33) (8192))), (.res 4 (.rng .i64 (2) (8))), (.res 6 (.rng .i64 (66) (65536))), (.res 8 (.rng .i64 (1) (32))), (.res 10 (.rng .i64 (0) (512))), (.res 12 (.rng .i64 (1) (2)))])]]
theorem YT35 : chkTop (xp YMT37 YO35) 20000 3 ⟨13, YG⟩ YL35 = true := by decide +kernel
def YO36 : List OraE := YB38 ++ []
def YL36 : List (List AV) := [[(.agg [(Ii 26), (.res 2 (.rng .i64 (33) (8192))), (.res 4 (.rng .i64 (2) (8))), (.res 6 (.rng .i64 (66) (65536))), (.res 8 (.rng .i64 (1) (32))), (.res 10 (.rng .i64 (0) (512))), (.res 12 (.rng .i64 (1) (2)))])]]
theorem YT36 : chkTop (xp YMT38 YO36) 20000 3 ⟨13, YG⟩ YL36 = true := by decide +kernel
end
end Go.X
