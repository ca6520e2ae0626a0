/- What is known of calls: printed by program (wip/dx/Drv.lean). -/
import Derived.Test.YtbplpekmpoenaaaGreatDoorDxTbXD0
namespace Go.X
open Go.Proofs
noncomputable section
set_option maxRecDepth 1000000
set_option maxHeartbeats 40000000
def XO0 : List OraE := []
def XL0 : List (List AV) := [[]]
theorem XT0 : chkTop (xp XMT XO0) 20000 5 ⟨14, QG⟩ XL0 = true := by decide +kernel
end
end Go.X
