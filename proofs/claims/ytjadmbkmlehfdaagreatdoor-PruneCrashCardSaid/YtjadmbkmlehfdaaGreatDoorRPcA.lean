/- PruneCrash returns true for every setup, list of numbers, truth value, byte and truth value, at every world whose package variables are as the program's text lays them; no condition beside the row's own. -/
import Derived.Test.YtjadmbkmlehfdaaGreatDoorRows
import Derived.Test.YtjadmbkmlehfdaaGreatDoorK1
import Derived.WalkKit
import Derived.ProofKit
import Derived.ReadAgain
import Derived.LaidMore
import Derived.OpenShut
import Derived.Stop.Joined
import Derived.SevenTiedAt
import Derived.Lay
namespace Go.Proofs.YtjadmbkmlehfdaaGreatDoor.pruneCrash
open Go.ChangeShapes Go.WideShapes Go.ChangeAt Go.RowKit Go.M
set_option linter.unusedVariables false
set_option maxRecDepth 100000
set_option maxHeartbeats 40000000
def TS : List TypeId := [25, 60, 4, 5, 22, 23, 131, 92]
theorem tsOk : TS.all (kidB Tryz.prog TS) = true := by kernel_rfl
theorem kids : Kids Tryz.prog (· ∈ TS) := kids_of tsOk
theorem full : ∀ t e, t ∈ TS → Tryz.prog.underlying t = some (.slice e) → 0 < Tryz.prog.cellsOf e := full_of tsOk
theorem own : ownKnob Tryz.prog.godebug = none := by kernel_rfl
theorem nGlob : Tryz.prog.globals.size = 5 := by kernel_rfl
theorem g0 : Tryz.prog.globalNamed "math/bits.deBruijn64tab" = some 3 := by kernel_rfl
theorem t0 : (Tryz.prog.globals[3]?).map (·.type) = some 311 := by kernel_rfl
theorem y0 : tidyB Tryz.prog 8 311 = true := by kernel_rfl
theorem g1 : Tryz.prog.globalNamed "drumlin/slots.sealing" = some 1 := by kernel_rfl
theorem t1 : (Tryz.prog.globals[1]?).map (·.type) = some 192 := by kernel_rfl
theorem y1 : tidyB Tryz.prog 8 192 = true := by kernel_rfl
theorem g2 : Tryz.prog.globalNamed "drumlin/slots.dropping" = some 0 := by kernel_rfl
theorem t2 : (Tryz.prog.globals[0]?).map (·.type) = some 192 := by kernel_rfl
theorem y2 : tidyB Tryz.prog 8 192 = true := by kernel_rfl
theorem g3 : Tryz.prog.globalNamed "drumlin/slots.loading" = some 2 := by kernel_rfl
theorem t3 : (Tryz.prog.globals[2]?).map (·.type) = some 192 := by kernel_rfl
theorem y3 : tidyB Tryz.prog 8 192 = true := by kernel_rfl
def laidL : List (String × DataW Unit) := [("math/bits.deBruijn64tab", Rows.laid_math_bits_deBruijn64tab), ("drumlin/slots.sealing", Rows.laid_drumlin_slots_sealing), ("drumlin/slots.dropping", Rows.laid_drumlin_slots_dropping), ("drumlin/slots.loading", Rows.laid_drumlin_slots_loading)]
theorem door_met (os : Os) (args : Array Value) : laidMetH Tryz.prog laidL ((World.laidAll Tryz.prog os laidL).forCall (fun _ _ => 0) ⟨#[], args, []⟩).memory := by
  rw [MakeChecks.laidMetH_plain _ _ _ (by kernel_rfl)]
  exact laidMet_laidAll _ (by kernel_rfl) (by kernel_rfl)
theorem heaps {W : World} (h : laidMetH Tryz.prog laidL W) : (∃ c t fz, W.heap[3]? = some (.cells c t fz) ∧ c.toList = flatD (H := Unit) Rows.laid_math_bits_deBruijn64tab) ∧ (∃ c t fz, W.heap[1]? = some (.cells c t fz) ∧ c.toList = flatD (H := Unit) Rows.laid_drumlin_slots_sealing) ∧ (∃ c t fz, W.heap[0]? = some (.cells c t fz) ∧ c.toList = flatD (H := Unit) Rows.laid_drumlin_slots_dropping) ∧ (∃ c t fz, W.heap[2]? = some (.cells c t fz) ∧ c.toList = flatD (H := Unit) Rows.laid_drumlin_slots_loading) := by
  rw [MakeChecks.laidMetH_plain _ _ _ (by kernel_rfl)] at h
  obtain ⟨ps, ⟨b0, u0, cs0, f0, p0, q0, hg0, ht0, hv0, hd0, ⟨b1, u1, cs1, f1, p1, q1, hg1, ht1, hv1, hd1, ⟨b2, u2, cs2, f2, p2, q2, hg2, ht2, hv2, hd2, ⟨b3, u3, cs3, f3, p3, q3, hg3, ht3, hv3, hd3, _, _⟩, _⟩, _⟩, _⟩, _, _⟩ := h
  obtain rfl := Option.some.inj (g0.symm.trans hg0)
  obtain rfl := Option.some.inj (t0.symm.trans ht0)
  have e0 := open_plain _ _ y0 _ _ _ hd0
  obtain ⟨w0, z0, h0⟩ := var_heap hg0 hv0
  obtain rfl := Option.some.inj (g1.symm.trans hg1)
  obtain rfl := Option.some.inj (t1.symm.trans ht1)
  have e1 := open_plain _ _ y1 _ _ _ hd1
  obtain ⟨w1, z1, h1⟩ := var_heap hg1 hv1
  obtain rfl := Option.some.inj (g2.symm.trans hg2)
  obtain rfl := Option.some.inj (t2.symm.trans ht2)
  have e2 := open_plain _ _ y2 _ _ _ hd2
  obtain ⟨w2, z2, h2⟩ := var_heap hg2 hv2
  obtain rfl := Option.some.inj (g3.symm.trans hg3)
  obtain rfl := Option.some.inj (t3.symm.trans ht3)
  have e3 := open_plain _ _ y3 _ _ _ hd3
  obtain ⟨w3, z3, h3⟩ := var_heap hg3 hv3
  exact ⟨⟨_, _, _, h0, e0⟩, ⟨_, _, _, h1, e1⟩, ⟨_, _, _, h2, e2⟩, ⟨_, _, _, h3, e3⟩⟩
end Go.Proofs.YtjadmbkmlehfdaaGreatDoor.pruneCrash
