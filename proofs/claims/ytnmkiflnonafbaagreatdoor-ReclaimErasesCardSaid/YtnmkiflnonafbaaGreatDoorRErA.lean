/- ReclaimErases returns true for every setup, at every world whose package variables are as the program's text lays them; no condition beside the row's own. -/
import Derived.Test.YtnmkiflnonafbaaGreatDoorRows
import Derived.Test.YtnmkiflnonafbaaGreatDoorSxTbQ1
import Derived.Test.YtnmkiflnonafbaaGreatDoorE13
import Derived.WalkKit
import Derived.ProofKit
import Derived.ReadAgain
import Derived.LaidMore
import Derived.OpenShut
import Derived.Stop.Joined
import Derived.SevenTiedAt
import Derived.Lay
namespace Go.Proofs.YtnmkiflnonafbaaGreatDoor.reclaimErases
open Go.ChangeShapes Go.WideShapes Go.ChangeAt Go.RowKit Go.X
set_option linter.unusedVariables false
set_option maxRecDepth 100000
set_option maxHeartbeats 40000000

/-- a look at the types that an argument leads to -/
def Zp0 (P : Program) (TS : List TypeId) (t : TypeId) : Bool := match P.underlying t with
  | some (.pointer e) => TS.contains e
  | some (.slice e) => TS.contains e && decide (0 < P.cellsOf e)
  | some (.array n e) => TS.contains e && (P.cellsOf t == n * P.cellsOf e)
  | some (.struct fs) => fs.toList.all (fun f => TS.contains f.type) && (P.cellsOf t == (fs.toList.map fun f => P.cellsOf f.type).sum) && (List.range fs.toList.length).all (fun j => match fs.toList[j]? with | some f => f.offset == ((fs.toList.take j).map fun f => P.cellsOf f.type).sum | none => true)
  | some (.map _ e) => TS.contains e
  | _ => true

theorem ZpQ {P : Program} {TS : List TypeId} (h : TS.all (Zp0 P TS) = true) : Kids P (· ∈ TS) := by
  have hh : ∀ t, t ∈ TS → Zp0 P TS t = true := fun t ht => List.all_eq_true.1 h t ht
  refine ⟨fun {t e} ht hu => ?_, fun {t e} ht hu => ?_, fun {t e n} ht hu => ?_, fun {t fs} ht hu => ?_, fun {t k e} ht hu => ?_⟩
  all_goals
    have g := hh t ht
    simp only [Zp0, hu, Bool.and_eq_true, beq_iff_eq, List.contains_iff_mem, decide_eq_true_eq, List.all_eq_true, List.mem_range] at g
  · exact g
  · exact g.1
  · exact g
  · refine ⟨g.1.1, g.1.2, fun j f hj => ?_⟩
    have := g.2 j (List.getElem?_eq_some_iff.1 hj).1
    simpa [hj] using this
  · exact g

theorem full_of {P : Program} {TS : List TypeId} (h : TS.all (Zp0 P TS) = true) : ∀ t e, t ∈ TS → P.underlying t = some (.slice e) → 0 < P.cellsOf e := by
  intro t e ht hu
  have g := List.all_eq_true.1 h t ht
  simp only [Zp0, hu, Bool.and_eq_true, decide_eq_true_eq] at g
  exact g.2

def TS : List TypeId := [25, 5, 22, 23, 68]
theorem ZrW : TS.all (Zp0 Tryz.prog TS) = true := by kernel_rfl
theorem kids : Kids Tryz.prog (· ∈ TS) := ZpQ ZrW
theorem full : ∀ t e, t ∈ TS → Tryz.prog.underlying t = some (.slice e) → 0 < Tryz.prog.cellsOf e := full_of ZrW

theorem own : ownKnob Tryz.prog.godebug = none := by kernel_rfl
theorem Zq4 : Tryz.prog.globals.size = 4 := by kernel_rfl
theorem g0 : Tryz.prog.globalNamed "math/bits.deBruijn64tab" = some 2 := by kernel_rfl
theorem t0 : (Tryz.prog.globals[2]?).map (·.type) = some 280 := by kernel_rfl
def a0 : List AV := [.int .u8 (0), .int .u8 (1), .int .u8 (56), .int .u8 (2), .int .u8 (57), .int .u8 (49), .int .u8 (28), .int .u8 (3), .int .u8 (61), .int .u8 (58), .int .u8 (42), .int .u8 (50), .int .u8 (38), .int .u8 (29), .int .u8 (17), .int .u8 (4), .int .u8 (62), .int .u8 (47), .int .u8 (59), .int .u8 (36), .int .u8 (45), .int .u8 (43), .int .u8 (51), .int .u8 (22), .int .u8 (53), .int .u8 (39), .int .u8 (33), .int .u8 (30), .int .u8 (24), .int .u8 (18), .int .u8 (12), .int .u8 (5), .int .u8 (63), .int .u8 (55), .int .u8 (48), .int .u8 (27), .int .u8 (60), .int .u8 (41), .int .u8 (37), .int .u8 (16), .int .u8 (46), .int .u8 (35), .int .u8 (44), .int .u8 (21), .int .u8 (52), .int .u8 (32), .int .u8 (23), .int .u8 (11), .int .u8 (54), .int .u8 (26), .int .u8 (40), .int .u8 (15), .int .u8 (34), .int .u8 (20), .int .u8 (31), .int .u8 (10), .int .u8 (25), .int .u8 (14), .int .u8 (19), .int .u8 (9), .int .u8 (13), .int .u8 (8), .int .u8 (7), .int .u8 (6)]
theorem y0 : Zh9 Tryz.prog 8 280 = true := by kernel_rfl
theorem g1 : Tryz.prog.globalNamed "drumlin/slots.sealing" = some 1 := by kernel_rfl
theorem t1 : (Tryz.prog.globals[1]?).map (·.type) = some 158 := by kernel_rfl
def a1 : List AV := [.bool false, .bool true, .bool false, .bool false, .bool true, .int .i64 (2)]
theorem y1 : Zh9 Tryz.prog 8 158 = true := by kernel_rfl
theorem g2 : Tryz.prog.globalNamed "drumlin/slots.dropping" = some 0 := by kernel_rfl
theorem t2 : (Tryz.prog.globals[0]?).map (·.type) = some 158 := by kernel_rfl
def a2 : List AV := [.bool false, .bool false, .bool true, .bool true, .bool false, .int .i64 (0)]
theorem y2 : Zh9 Tryz.prog 8 158 = true := by kernel_rfl
def ZdW : List (String × DataW Unit) := [("math/bits.deBruijn64tab", Rows.laid_math_bits_deBruijn64tab), ("drumlin/slots.sealing", Rows.laid_drumlin_slots_sealing), ("drumlin/slots.dropping", Rows.laid_drumlin_slots_dropping)]
noncomputable def gL : List (Nat × AObj) := [(2, .blk 280 true (.fix (List.length a0)) (Tr.put .nil 0 a0)), (1, .blk 158 true (.fix (List.length a1)) (Tr.put .nil 0 a1)), (0, .blk 158 true (.fix (List.length a2)) (Tr.put .nil 0 a2))]
theorem Zsd : QG = gOf gL := by kernel_rfl

theorem Zn2 (os : Os) (args : Array Value) : laidMetH Tryz.prog ZdW ((World.laidAll Tryz.prog os ZdW).forCall (fun _ _ => 0) ⟨#[], args, []⟩).memory := by
  rw [MakeChecks.laidMetH_plain _ _ _ (by kernel_rfl)]
  exact laidMet_laidAll _ (by kernel_rfl) (by kernel_rfl)

theorem ZrJ {W : World} (h : laidMetH Tryz.prog ZdW W) : ZdE Tryz.prog.globals.size W QG := by
  rw [MakeChecks.laidMetH_plain _ _ _ (by kernel_rfl)] at h
  obtain ⟨ps, ⟨b0, u0, cs0, f0, p0, q0, hg0, ht0, hv0, hd0, ⟨b1, u1, cs1, f1, p1, q1, hg1, ht1, hv1, hd1, ⟨b2, u2, cs2, f2, p2, q2, hg2, ht2, hv2, hd2, _, _⟩, _⟩, _⟩, _, _⟩ := h
  obtain rfl := Option.some.inj (g0.symm.trans hg0)
  obtain rfl := Option.some.inj (t0.symm.trans ht0)
  have e0 := Zbs _ _ y0 _ _ _ hd0
  obtain ⟨w0, z0, h0⟩ := ZcB hg0 hv0
  obtain rfl := Option.some.inj (g1.symm.trans hg1)
  obtain rfl := Option.some.inj (t1.symm.trans ht1)
  have e1 := Zbs _ _ y1 _ _ _ hd1
  obtain ⟨w1, z1, h1⟩ := ZcB hg1 hv1
  obtain rfl := Option.some.inj (g2.symm.trans hg2)
  obtain rfl := Option.some.inj (t2.symm.trans ht2)
  have e2 := Zbs _ _ y2 _ _ _ hd2
  obtain ⟨w2, z2, h2⟩ := ZcB hg2 hv2
  rw [Zq4]
  intro b o hb
  rw [Zsd] at hb
  have hm := ZoX hb
  simp only [gL, List.mem_cons, Prod.mk.injEq, List.not_mem_nil, or_false] at hm
  rcases hm with ⟨rfl, rfl⟩ | ⟨rfl, rfl⟩ | ⟨rfl, rfl⟩
  · exact ⟨by decide, _, a0, cs0, w0, z0, rfl, h0, by kernel_rfl, (show cvs Zqq a0 = some (ZcV Rows.laid_math_bits_deBruijn64tab) by kernel_rfl).trans (congrArg some e0.symm)⟩
  · exact ⟨by decide, _, a1, cs1, w1, z1, rfl, h1, by kernel_rfl, (show cvs Zqq a1 = some (ZcV Rows.laid_drumlin_slots_sealing) by kernel_rfl).trans (congrArg some e1.symm)⟩
  · exact ⟨by decide, _, a2, cs2, w2, z2, rfl, h2, by kernel_rfl, (show cvs Zqq a2 = some (ZcV Rows.laid_drumlin_slots_dropping) by kernel_rfl).trans (congrArg some e2.symm)⟩
theorem heaps {W : World} (h : laidMetH Tryz.prog ZdW W) : (∃ c t fz, W.heap[2]? = some (.cells c t fz) ∧ c.toList = ZcV (H := Unit) Rows.laid_math_bits_deBruijn64tab) ∧ (∃ c t fz, W.heap[1]? = some (.cells c t fz) ∧ c.toList = ZcV (H := Unit) Rows.laid_drumlin_slots_sealing) ∧ (∃ c t fz, W.heap[0]? = some (.cells c t fz) ∧ c.toList = ZcV (H := Unit) Rows.laid_drumlin_slots_dropping) := by
  rw [MakeChecks.laidMetH_plain _ _ _ (by kernel_rfl)] at h
  obtain ⟨ps, ⟨b0, u0, cs0, f0, p0, q0, hg0, ht0, hv0, hd0, ⟨b1, u1, cs1, f1, p1, q1, hg1, ht1, hv1, hd1, ⟨b2, u2, cs2, f2, p2, q2, hg2, ht2, hv2, hd2, _, _⟩, _⟩, _⟩, _, _⟩ := h
  obtain rfl := Option.some.inj (g0.symm.trans hg0)
  obtain rfl := Option.some.inj (t0.symm.trans ht0)
  have e0 := Zbs _ _ y0 _ _ _ hd0
  obtain ⟨w0, z0, h0⟩ := ZcB hg0 hv0
  obtain rfl := Option.some.inj (g1.symm.trans hg1)
  obtain rfl := Option.some.inj (t1.symm.trans ht1)
  have e1 := Zbs _ _ y1 _ _ _ hd1
  obtain ⟨w1, z1, h1⟩ := ZcB hg1 hv1
  obtain rfl := Option.some.inj (g2.symm.trans hg2)
  obtain rfl := Option.some.inj (t2.symm.trans ht2)
  have e2 := Zbs _ _ y2 _ _ _ hd2
  obtain ⟨w2, z2, h2⟩ := ZcB hg2 hv2
  exact ⟨⟨_, _, _, h0, e0⟩, ⟨_, _, _, h1, e1⟩, ⟨_, _, _, h2, e2⟩⟩
end Go.Proofs.YtnmkiflnonafbaaGreatDoor.reclaimErases
