/- What is known of calls: printed by program (wip/dx/Drv.lean). -/
import Derived.Test.YtifdonldmabaaaaGreatDoorDxTbQ4
namespace Go.X
open Go.Proofs
noncomputable section
set_option maxRecDepth 1000000
set_option maxHeartbeats 40000000
def Qa22 : List AV := []
def Qp22 : AHeap := ⟨50000, (.node (some (.blk 126 true (.fix 6) (.node (some (.bool true)) (.node (some (.bool false)) (.node (some (.bool false)) .nil .nil) (.node (some (.int .i64 (2))) .nil .nil)) (.node (some (.bool false)) (.node (some (.bool false)) .nil .nil) .nil)))) (.node (some (.blk 126 true (.fix 6) (.node (some (.bool false)) (.node (some (.bool false)) (.node (some (.bool true)) .nil .nil) (.node (some (.int .i64 (0))) .nil .nil)) (.node (some (.bool true)) (.node (some (.bool false)) .nil .nil) .nil)))) .nil .nil) .nil)⟩
def Qo22 : List (AV × AHeap) := [((.bool true), ⟨59167, (.node (some (.blk 126 true (.fix 6) (.node (some (.bool true)) (.node (some (.bool false)) (.node (some (.bool false)) .nil .nil) (.node (some (.int .i64 (2))) .nil .nil)) (.node (some (.bool false)) (.node (some (.bool false)) .nil .nil) .nil)))) (.node (some (.blk 126 true (.fix 6) (.node (some (.bool false)) (.node (some (.bool false)) (.node (some (.bool true)) .nil .nil) (.node (some (.int .i64 (0))) .nil .nil)) (.node (some (.bool true)) (.node (some (.bool false)) .nil .nil) .nil)))) .nil .nil) .nil)⟩)]
def Qe22 : Ent := .loc Qa22 Qp22 Qo22
def QM22 : Tr (List Ent) := (.node none (.node none (.node none (.node (some [Qe20, Qe21]) .nil .nil) .nil) (.node (some [Qe16]) .nil .nil)) .nil)
theorem Qm22 : MemoOk Tryz.prog QM22 := memo_of (show TrAll _ (fun n => n) QM22 from ⟨trivial, ⟨trivial, ⟨trivial, ⟨(entAll Qk20 (entAll Qk21 entNil)), trivial, trivial⟩, trivial⟩, ⟨(entAll Qk16 entNil), trivial, trivial⟩⟩, trivial⟩)
theorem Qc22 : chkLoc (xp QM22) 20000 12 Qa22 Qp22 Qo22 = true := by decide +kernel
theorem Qk22 : EntOk Tryz.prog 12 Qe22 := ent_loc (xp_ok _) (xp_fns _) mixed Qm22 Qc22
def Qa23 : List AV := []
def Qp23 : AHeap := ⟨3, (.node (some (.blk 126 true (.fix 6) (.node (some (.bool true)) (.node (some (.bool false)) (.node (some (.bool false)) .nil .nil) (.node (some (.int .i64 (2))) .nil .nil)) (.node (some (.bool false)) (.node (some (.bool false)) .nil .nil) .nil)))) (.node (some (.blk 126 true (.fix 6) (.node (some (.bool false)) (.node (some (.bool false)) (.node (some (.bool true)) .nil .nil) (.node (some (.int .i64 (0))) .nil .nil)) (.node (some (.bool true)) (.node (some (.bool false)) .nil .nil) .nil)))) .nil .nil) .nil)⟩
def Qo23 : List (AV × AHeap) := [((.bool true), ⟨59167, (.node (some (.blk 126 true (.fix 6) (.node (some (.bool true)) (.node (some (.bool false)) (.node (some (.bool false)) .nil .nil) (.node (some (.int .i64 (2))) .nil .nil)) (.node (some (.bool false)) (.node (some (.bool false)) .nil .nil) .nil)))) (.node (some (.blk 126 true (.fix 6) (.node (some (.bool false)) (.node (some (.bool false)) (.node (some (.bool true)) .nil .nil) (.node (some (.int .i64 (0))) .nil .nil)) (.node (some (.bool true)) (.node (some (.bool false)) .nil .nil) .nil)))) .nil .nil) .nil)⟩)]
def Qe23 : Ent := .loc Qa23 Qp23 Qo23
def QM23 : Tr (List Ent) := (.node none (.node none (.node none (.node (some [Qe10]) .nil .nil) .nil) (.node (some [Qe6]) .nil .nil)) (.node none (.node none .nil (.node (some [Qe22]) .nil .nil)) .nil))
theorem Qm23 : MemoOk Tryz.prog QM23 := memo_of (show TrAll _ (fun n => n) QM23 from ⟨trivial, ⟨trivial, ⟨trivial, ⟨(entAll Qk10 entNil), trivial, trivial⟩, trivial⟩, ⟨(entAll Qk6 entNil), trivial, trivial⟩⟩, ⟨trivial, ⟨trivial, trivial, ⟨(entAll Qk22 entNil), trivial, trivial⟩⟩, trivial⟩⟩)
theorem Qc23 : chkLoc (xp QM23) 20000 3 Qa23 Qp23 Qo23 = true := by decide +kernel
theorem Qk23 : EntOk Tryz.prog 3 Qe23 := ent_loc (xp_ok _) (xp_fns _) mixed Qm23 Qc23
end
end Go.X
