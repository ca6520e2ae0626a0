/- StoreNil returns true for every step, at every world whose package variables are as the program's text lays them; no condition beside the row's own. -/
import Derived.Test.YtdhcjepgihfplaaGreatDoorRows
import Derived.Test.YtdhcjepgihfplaaGreatDoorDxTbQ9
import Derived.Test.YtdhcjepgihfplaaGreatDoorDxRe
import Derived.WalkKit
import Derived.ProofKit
import Derived.ReadAgain
import Derived.LaidMore
import Derived.OpenShut
import Derived.Stop.Joined
import Derived.SevenTiedAt
namespace Go.Proofs.YtdhcjepgihfplaaGreatDoor.storeNil
open Go.ChangeShapes Go.WideShapes Go.ChangeAt Go.RowKit Go.X
set_option linter.unusedVariables false
set_option maxRecDepth 100000
set_option maxHeartbeats 40000000

theorem kids : Kids Tryz.prog (· < Tryz.prog.types.size) := kids_rows (by kernel_rfl) (by kernel_rfl)
theorem full : ∀ t e, t < Tryz.prog.types.size → Tryz.prog.underlying t = some (.slice e) → 0 < Tryz.prog.cellsOf e := slices_full_of Tryz.prog (by kernel_rfl)
theorem own : ownKnob Tryz.prog.godebug = none := by kernel_rfl
theorem nGlob : Tryz.prog.globals.size = 7 := by kernel_rfl
theorem g0 : Tryz.prog.globalNamed "math/bits.deBruijn32tab" = some 6 := by kernel_rfl
theorem t0 : (Tryz.prog.globals[6]?).map (·.type) = some 428 := by kernel_rfl
def a0 : List AV := [.int .u8 0, .int .u8 1, .int .u8 28, .int .u8 2, .int .u8 29, .int .u8 14, .int .u8 24, .int .u8 3, .int .u8 30, .int .u8 22, .int .u8 20, .int .u8 15, .int .u8 25, .int .u8 17, .int .u8 4, .int .u8 8, .int .u8 31, .int .u8 27, .int .u8 13, .int .u8 23, .int .u8 21, .int .u8 19, .int .u8 16, .int .u8 7, .int .u8 26, .int .u8 12, .int .u8 18, .int .u8 6, .int .u8 11, .int .u8 5, .int .u8 10, .int .u8 9]
theorem g1 : Tryz.prog.globalNamed "math/bits.deBruijn64tab" = some 4 := by kernel_rfl
theorem t1 : (Tryz.prog.globals[4]?).map (·.type) = some 413 := by kernel_rfl
def a1 : List AV := [.int .u8 0, .int .u8 1, .int .u8 56, .int .u8 2, .int .u8 57, .int .u8 49, .int .u8 28, .int .u8 3, .int .u8 61, .int .u8 58, .int .u8 42, .int .u8 50, .int .u8 38, .int .u8 29, .int .u8 17, .int .u8 4, .int .u8 62, .int .u8 47, .int .u8 59, .int .u8 36, .int .u8 45, .int .u8 43, .int .u8 51, .int .u8 22, .int .u8 53, .int .u8 39, .int .u8 33, .int .u8 30, .int .u8 24, .int .u8 18, .int .u8 12, .int .u8 5, .int .u8 63, .int .u8 55, .int .u8 48, .int .u8 27, .int .u8 60, .int .u8 41, .int .u8 37, .int .u8 16, .int .u8 46, .int .u8 35, .int .u8 44, .int .u8 21, .int .u8 52, .int .u8 32, .int .u8 23, .int .u8 11, .int .u8 54, .int .u8 26, .int .u8 40, .int .u8 15, .int .u8 34, .int .u8 20, .int .u8 31, .int .u8 10, .int .u8 25, .int .u8 14, .int .u8 19, .int .u8 9, .int .u8 13, .int .u8 8, .int .u8 7, .int .u8 6]
theorem g2 : Tryz.prog.globalNamed "drumlin/slots.sealing" = some 2 := by kernel_rfl
theorem t2 : (Tryz.prog.globals[2]?).map (·.type) = some 338 := by kernel_rfl
def a2 : List AV := [.bool false, .bool true, .bool false, .bool false, .bool true, .int .i64 2]
theorem g3 : Tryz.prog.globalNamed "drumlin/slots.choosing" = some 3 := by kernel_rfl
theorem t3 : (Tryz.prog.globals[3]?).map (·.type) = some 338 := by kernel_rfl
def a3 : List AV := [.bool false, .bool false, .bool true, .bool false, .bool false, .int .i64 3]
theorem g4 : Tryz.prog.globalNamed "drumlin/slots.dropping" = some 1 := by kernel_rfl
theorem t4 : (Tryz.prog.globals[1]?).map (·.type) = some 338 := by kernel_rfl
def a4 : List AV := [.bool false, .bool false, .bool true, .bool true, .bool false, .int .i64 0]
theorem g5 : Tryz.prog.globalNamed "drumlin/slots.loading" = some 0 := by kernel_rfl
theorem t5 : (Tryz.prog.globals[0]?).map (·.type) = some 338 := by kernel_rfl
def a5 : List AV := [.bool true, .bool false, .bool false, .bool false, .bool false, .int .i64 2]
def laidL : List (String × DataW Unit) := [("math/bits.deBruijn32tab", Rows.laid_math_bits_deBruijn32tab), ("math/bits.deBruijn64tab", Rows.laid_math_bits_deBruijn64tab), ("drumlin/slots.sealing", Rows.laid_drumlin_slots_sealing), ("drumlin/slots.choosing", Rows.laid_drumlin_slots_choosing), ("drumlin/slots.dropping", Rows.laid_drumlin_slots_dropping), ("drumlin/slots.loading", Rows.laid_drumlin_slots_loading)]
noncomputable def gL : List (Nat × AObj) := [(6, .blk 428 true (.fix (List.length a0)) (Tr.put .nil 0 a0)), (4, .blk 413 true (.fix (List.length a1)) (Tr.put .nil 0 a1)), (2, .blk 338 true (.fix (List.length a2)) (Tr.put .nil 0 a2)), (3, .blk 338 true (.fix (List.length a3)) (Tr.put .nil 0 a3)), (1, .blk 338 true (.fix (List.length a4)) (Tr.put .nil 0 a4)), (0, .blk 338 true (.fix (List.length a5)) (Tr.put .nil 0 a5))]
theorem G_eq : QG = gOf gL := by kernel_rfl

theorem door_met (os : Os) (args : Array Value) : laidMetH Tryz.prog laidL ((World.doorLaid Tryz.prog 400 os).forCall (fun _ _ => 0) ⟨#[], args, []⟩).memory :=
  laidMetH_of_parts3 (fuel := 8) (laidMet_of_run' 8 (by kernel_rfl) (by kernel_rfl)) (by kernel_rfl) (by kernel_rfl)

theorem openChg {W : World} {fuel : Nat} {cs : List Value} {bs : List Bool} {k : Int} {p : List MemPlace}
    (h : DataW.trod (fun _ => ()) Tryz.prog W 0 (fun _ => true) false fuel 338 cs = some (.agg [.agg (bs.map fun b => .lit (.bool b)), .lit (.int .i64 k)], p)) : cs = bs.map .bool ++ [.int .i64 k] :=
  open_chg Tryz.underlying338 ⟨rfl, rfl⟩ ⟨rfl, rfl⟩ Tryz.underlying336 Tryz.underlying4 Tryz.underlying3 ⟨by kernel_rfl, by kernel_rfl, by kernel_rfl, by kernel_rfl⟩ h

theorem globs {W : World} (h : laidMetH Tryz.prog laidL W) : GlobAll Tryz.prog.globals.size W QG := by
  rw [MakeChecks.laidMetH_plain _ _ _ (by kernel_rfl)] at h
  obtain ⟨ps, ⟨b0, u0, cs0, f0, p0, q0, hg0, ht0, hv0, hd0, ⟨b1, u1, cs1, f1, p1, q1, hg1, ht1, hv1, hd1, ⟨b2, u2, cs2, f2, p2, q2, hg2, ht2, hv2, hd2, ⟨b3, u3, cs3, f3, p3, q3, hg3, ht3, hv3, hd3, ⟨b4, u4, cs4, f4, p4, q4, hg4, ht4, hv4, hd4, ⟨b5, u5, cs5, f5, p5, q5, hg5, ht5, hv5, hd5, _, _⟩, _⟩, _⟩, _⟩, _⟩, _⟩, _, _⟩ := h
  obtain rfl := Option.some.inj (g0.symm.trans hg0)
  obtain rfl := Option.some.inj (t0.symm.trans ht0)
  have e0 := open_ints (bs := [0, 1, 28, 2, 29, 14, 24, 3, 30, 22, 20, 15, 25, 17, 4, 8, 31, 27, 13, 23, 21, 19, 16, 7, 26, 12, 18, 6, 11, 5, 10, 9]) (k := .u8) Tryz.underlying428 Tryz.underlying5 (by kernel_rfl) (by kernel_rfl) hd0
  obtain ⟨w0, z0, h0⟩ := var_heap hg0 hv0
  obtain ⟨l0⟩ := cs0
  simp only at e0
  subst e0
  obtain rfl := Option.some.inj (g1.symm.trans hg1)
  obtain rfl := Option.some.inj (t1.symm.trans ht1)
  have e1 := open_ints (bs := [0, 1, 56, 2, 57, 49, 28, 3, 61, 58, 42, 50, 38, 29, 17, 4, 62, 47, 59, 36, 45, 43, 51, 22, 53, 39, 33, 30, 24, 18, 12, 5, 63, 55, 48, 27, 60, 41, 37, 16, 46, 35, 44, 21, 52, 32, 23, 11, 54, 26, 40, 15, 34, 20, 31, 10, 25, 14, 19, 9, 13, 8, 7, 6]) (k := .u8) Tryz.underlying413 Tryz.underlying5 (by kernel_rfl) (by kernel_rfl) hd1
  obtain ⟨w1, z1, h1⟩ := var_heap hg1 hv1
  obtain ⟨l1⟩ := cs1
  simp only at e1
  subst e1
  obtain rfl := Option.some.inj (g2.symm.trans hg2)
  obtain rfl := Option.some.inj (t2.symm.trans ht2)
  have e2 := openChg (bs := [false, true, false, false, true]) (k := 2) hd2
  obtain ⟨w2, z2, h2⟩ := var_heap hg2 hv2
  obtain ⟨l2⟩ := cs2
  simp only at e2
  subst e2
  obtain rfl := Option.some.inj (g3.symm.trans hg3)
  obtain rfl := Option.some.inj (t3.symm.trans ht3)
  have e3 := openChg (bs := [false, false, true, false, false]) (k := 3) hd3
  obtain ⟨w3, z3, h3⟩ := var_heap hg3 hv3
  obtain ⟨l3⟩ := cs3
  simp only at e3
  subst e3
  obtain rfl := Option.some.inj (g4.symm.trans hg4)
  obtain rfl := Option.some.inj (t4.symm.trans ht4)
  have e4 := openChg (bs := [false, false, true, true, false]) (k := 0) hd4
  obtain ⟨w4, z4, h4⟩ := var_heap hg4 hv4
  obtain ⟨l4⟩ := cs4
  simp only at e4
  subst e4
  obtain rfl := Option.some.inj (g5.symm.trans hg5)
  obtain rfl := Option.some.inj (t5.symm.trans ht5)
  have e5 := openChg (bs := [true, false, false, false, false]) (k := 2) hd5
  obtain ⟨w5, z5, h5⟩ := var_heap hg5 hv5
  obtain ⟨l5⟩ := cs5
  simp only at e5
  subst e5
  rw [nGlob]
  intro b o hb
  rw [G_eq] at hb
  have hm := gOf_get hb
  simp only [gL, List.mem_cons, Prod.mk.injEq, List.not_mem_nil, or_false] at hm
  rcases hm with ⟨rfl, rfl⟩ | ⟨rfl, rfl⟩ | ⟨rfl, rfl⟩ | ⟨rfl, rfl⟩ | ⟨rfl, rfl⟩ | ⟨rfl, rfl⟩
  · exact globOne (by decide) h0 (by kernel_rfl) (by kernel_rfl)
  · exact globOne (by decide) h1 (by kernel_rfl) (by kernel_rfl)
  · exact globOne (by decide) h2 (by kernel_rfl) (by kernel_rfl)
  · exact globOne (by decide) h3 (by kernel_rfl) (by kernel_rfl)
  · exact globOne (by decide) h4 (by kernel_rfl) (by kernel_rfl)
  · exact globOne (by decide) h5 (by kernel_rfl) (by kernel_rfl)
end Go.Proofs.YtdhcjepgihfplaaGreatDoor.storeNil
