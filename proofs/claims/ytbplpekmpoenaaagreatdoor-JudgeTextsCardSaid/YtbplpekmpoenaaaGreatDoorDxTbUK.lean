/- What is known of calls: printed by program (wip/dx/Drv.lean). -/
import Derived.Test.YtbplpekmpoenaaaGreatDoorDxTbUD0
import Derived.Test.YtbplpekmpoenaaaGreatDoorDxTbVK
namespace Go.X
open Go.Proofs
noncomputable section
set_option maxRecDepth 1000000
set_option maxHeartbeats 40000000
theorem UmT (O : List OraE) : MemoOk Tryz.prog O UMT := memo_list [(20,[Ve154])] (by kernel_rfl) ⟨⟨Vk154.ora,⟨⟩⟩,⟨⟩⟩
end
end Go.X
