/- What is known of calls: printed by program (wip/dx/Drv.lean). -/
import Derived.Test.YtfpiabkkelhgbaaGreatDoorDxTbYD1
namespace Go.X
open Go.Proofs
noncomputable section
set_option maxRecDepth 1000000
set_option maxHeartbeats 40000000
def YO40 : List OraE := YB42 ++ []
def YL40 : List (List AV) := [[(.agg [(Ii 30), (.res 2 (.rng .i64 (33) (8192))), (.res 4 (.rng .i64 (2) (8))), (.res 6 (.rng .i64 (66) (65536))), (.res 8 (.rng .i64 (1) (32))), (.res 10 (.rng .i64 (0) (512))), (.res 12 (.rng .i64 (1) (2)))])]]
theorem YT40 : chkTop (xp YMT42 YO40) 20000 3 ⟨13, YG⟩ YL40 = true := by decide +kernel
def YO41 : List OraE := YB43 ++ []
def YL41 : List (List AV) := [[(.agg [(Ii 31), (.res 2 (.rng .i64 (33) (8192))), (.res 4 (.rng .i64 (2) (8))), (.res 6 (.rng .i64 (66) (65536))), (.res 8 (.rng .i64 (1) (32))), (.res 10 (.rng .i64 (0) (512))), (.res 12 (.rng .i64 (1) (2)))])]]
theorem YT41 : chkTop (xp YMT43 YO41) 20000 3 ⟨13, YG⟩ YL41 = true := by decide +kernel
def YO42 : List OraE := YB44 ++ []
def YL42 : List (List AV) := [[(.agg [(Ii 32), (.res 2 (.rng .i64 (33) (8192))), (.res 4 (.rng .i64 (2) (8))), (.res 6 (.rng .i64 (66) (65536))), (.res 8 (.rng .i64 (1) (32))), (.res 10 (.rng .i64 (0) (512))), (.res 12 (.rng .i64 (1) (2)))])]]
theorem YT42 : chkTop (xp YMT44 YO42) 20000 3 ⟨13, YG⟩ YL42 = true := by decide +kernel
end
end Go.X
