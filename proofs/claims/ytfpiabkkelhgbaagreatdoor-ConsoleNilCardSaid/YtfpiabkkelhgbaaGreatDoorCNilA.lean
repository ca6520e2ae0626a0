/- ConsoleNil returns true for every line, at every world whose package variables are as the program's text lays them; no condition beside the row's own. -/
import Derived.Test.YtfpiabkkelhgbaaGreatDoorRows
import Derived.Test.YtfpiabkkelhgbaaGreatDoorDxTbQG
import Derived.Test.YtfpiabkkelhgbaaGreatDoorE13
import Derived.WalkKit
import Derived.ProofKit
import Derived.ReadAgain
import Derived.LaidMore
import Derived.OpenShut
import Derived.Stop.Joined
import Derived.SevenTiedAt
import Derived.Lay
namespace Go.Proofs.YtfpiabkkelhgbaaGreatDoor.consoleNil
open Go.ChangeShapes Go.WideShapes Go.ChangeAt Go.RowKit Go.X
set_option linter.unusedVariables false
set_option maxRecDepth 100000
set_option maxHeartbeats 40000000

/-- a look at the types that an argument leads to -/
def kidB (P : Program) (TS : List TypeId) (t : TypeId) : Bool := match P.underlying t with
  | some (.pointer e) => TS.contains e
  | some (.slice e) => TS.contains e && decide (0 < P.cellsOf e)
  | some (.array n e) => TS.contains e && (P.cellsOf t == n * P.cellsOf e)
  | some (.struct fs) => fs.toList.all (fun f => TS.contains f.type) && (P.cellsOf t == (fs.toList.map fun f => P.cellsOf f.type).sum) && (List.range fs.toList.length).all (fun j => match fs.toList[j]? with | some f => f.offset == ((fs.toList.take j).map fun f => P.cellsOf f.type).sum | none => true)
  | some (.map _ e) => TS.contains e
  | _ => true

theorem kids_of {P : Program} {TS : List TypeId} (h : TS.all (kidB P TS) = true) : Kids P (· ∈ TS) := by
  have hh : ∀ t, t ∈ TS → kidB P TS t = true := fun t ht => List.all_eq_true.1 h t ht
  refine ⟨fun {t e} ht hu => ?_, fun {t e} ht hu => ?_, fun {t e n} ht hu => ?_, fun {t fs} ht hu => ?_, fun {t k e} ht hu => ?_⟩
  all_goals
    have g := hh t ht
    simp only [kidB, hu, Bool.and_eq_true, beq_iff_eq, List.contains_iff_mem, decide_eq_true_eq, List.all_eq_true, List.mem_range] at g
  · exact g
  · exact g.1
  · exact g
  · refine ⟨g.1.1, g.1.2, fun j f hj => ?_⟩
    have := g.2 j (List.getElem?_eq_some_iff.1 hj).1
    simpa [hj] using this
  · exact g

theorem full_of {P : Program} {TS : List TypeId} (h : TS.all (kidB P TS) = true) : ∀ t e, t ∈ TS → P.underlying t = some (.slice e) → 0 < P.cellsOf e := by
  intro t e ht hu
  have g := List.all_eq_true.1 h t ht
  simp only [kidB, hu, Bool.and_eq_true, decide_eq_true_eq] at g
  exact g.2

def TS : List TypeId := [9]
theorem tsOk : TS.all (kidB Tryz.prog TS) = true := by kernel_rfl
theorem kids : Kids Tryz.prog (· ∈ TS) := kids_of tsOk
theorem full : ∀ t e, t ∈ TS → Tryz.prog.underlying t = some (.slice e) → 0 < Tryz.prog.cellsOf e := full_of tsOk

theorem own : ownKnob Tryz.prog.godebug = none := by kernel_rfl
theorem nGlob : Tryz.prog.globals.size = 13 := by kernel_rfl
theorem g0 : Tryz.prog.globalNamed "internal/strconv.uint64pow10" = some 2 := by kernel_rfl
theorem t0 : (Tryz.prog.globals[2]?).map (·.type) = some 523 := by kernel_rfl
def a0 : List AV := [.int .u64 (1), .int .u64 (10), .int .u64 (100), .int .u64 (1000), .int .u64 (10000), .int .u64 (100000), .int .u64 (1000000), .int .u64 (10000000), .int .u64 (100000000), .int .u64 (1000000000), .int .u64 (10000000000), .int .u64 (100000000000), .int .u64 (1000000000000), .int .u64 (10000000000000), .int .u64 (100000000000000), .int .u64 (1000000000000000), .int .u64 (10000000000000000), .int .u64 (100000000000000000), .int .u64 (1000000000000000000), .int .u64 (10000000000000000000)]
theorem y0 : tidyB Tryz.prog 8 523 = true := by kernel_rfl
theorem g1 : Tryz.prog.globalNamed "math/bits.deBruijn32tab" = some 7 := by kernel_rfl
theorem t1 : (Tryz.prog.globals[7]?).map (·.type) = some 637 := by kernel_rfl
def a1 : List AV := [.int .u8 (0), .int .u8 (1), .int .u8 (28), .int .u8 (2), .int .u8 (29), .int .u8 (14), .int .u8 (24), .int .u8 (3), .int .u8 (30), .int .u8 (22), .int .u8 (20), .int .u8 (15), .int .u8 (25), .int .u8 (17), .int .u8 (4), .int .u8 (8), .int .u8 (31), .int .u8 (27), .int .u8 (13), .int .u8 (23), .int .u8 (21), .int .u8 (19), .int .u8 (16), .int .u8 (7), .int .u8 (26), .int .u8 (12), .int .u8 (18), .int .u8 (6), .int .u8 (11), .int .u8 (5), .int .u8 (10), .int .u8 (9)]
theorem y1 : tidyB Tryz.prog 8 637 = true := by kernel_rfl
theorem g2 : Tryz.prog.globalNamed "math/bits.deBruijn64tab" = some 6 := by kernel_rfl
theorem t2 : (Tryz.prog.globals[6]?).map (·.type) = some 634 := by kernel_rfl
def a2 : List AV := [.int .u8 (0), .int .u8 (1), .int .u8 (56), .int .u8 (2), .int .u8 (57), .int .u8 (49), .int .u8 (28), .int .u8 (3), .int .u8 (61), .int .u8 (58), .int .u8 (42), .int .u8 (50), .int .u8 (38), .int .u8 (29), .int .u8 (17), .int .u8 (4), .int .u8 (62), .int .u8 (47), .int .u8 (59), .int .u8 (36), .int .u8 (45), .int .u8 (43), .int .u8 (51), .int .u8 (22), .int .u8 (53), .int .u8 (39), .int .u8 (33), .int .u8 (30), .int .u8 (24), .int .u8 (18), .int .u8 (12), .int .u8 (5), .int .u8 (63), .int .u8 (55), .int .u8 (48), .int .u8 (27), .int .u8 (60), .int .u8 (41), .int .u8 (37), .int .u8 (16), .int .u8 (46), .int .u8 (35), .int .u8 (44), .int .u8 (21), .int .u8 (52), .int .u8 (32), .int .u8 (23), .int .u8 (11), .int .u8 (54), .int .u8 (26), .int .u8 (40), .int .u8 (15), .int .u8 (34), .int .u8 (20), .int .u8 (31), .int .u8 (10), .int .u8 (25), .int .u8 (14), .int .u8 (19), .int .u8 (9), .int .u8 (13), .int .u8 (8), .int .u8 (7), .int .u8 (6)]
theorem y2 : tidyB Tryz.prog 8 634 = true := by kernel_rfl
theorem g4 : Tryz.prog.globalNamed "unicode/utf8.acceptRanges" = some 9 := by kernel_rfl
theorem t4 : (Tryz.prog.globals[9]?).map (·.type) = some 646 := by kernel_rfl
def a4 : List AV := [.int .u8 (128), .int .u8 (191), .int .u8 (160), .int .u8 (191), .int .u8 (128), .int .u8 (159), .int .u8 (144), .int .u8 (191), .int .u8 (128), .int .u8 (143), .int .u8 (0), .int .u8 (0), .int .u8 (0), .int .u8 (0), .int .u8 (0), .int .u8 (0), .int .u8 (0), .int .u8 (0), .int .u8 (0), .int .u8 (0), .int .u8 (0), .int .u8 (0), .int .u8 (0), .int .u8 (0), .int .u8 (0), .int .u8 (0), .int .u8 (0), .int .u8 (0), .int .u8 (0), .int .u8 (0), .int .u8 (0), .int .u8 (0)]
theorem y4 : tidyB Tryz.prog 8 646 = true := by kernel_rfl
theorem g7 : Tryz.prog.globalNamed "drumlin/slots.sealing" = some 3 := by kernel_rfl
theorem t7 : (Tryz.prog.globals[3]?).map (·.type) = some 515 := by kernel_rfl
def a7 : List AV := [.bool false, .bool true, .bool false, .bool false, .bool true, .int .i64 (2)]
theorem y7 : tidyB Tryz.prog 8 515 = true := by kernel_rfl
theorem g8 : Tryz.prog.globalNamed "drumlin/slots.choosing" = some 5 := by kernel_rfl
theorem t8 : (Tryz.prog.globals[5]?).map (·.type) = some 515 := by kernel_rfl
def a8 : List AV := [.bool false, .bool false, .bool true, .bool false, .bool false, .int .i64 (3)]
theorem y8 : tidyB Tryz.prog 8 515 = true := by kernel_rfl
theorem g9 : Tryz.prog.globalNamed "drumlin/slots.dropping" = some 1 := by kernel_rfl
theorem t9 : (Tryz.prog.globals[1]?).map (·.type) = some 515 := by kernel_rfl
def a9 : List AV := [.bool false, .bool false, .bool true, .bool true, .bool false, .int .i64 (0)]
theorem y9 : tidyB Tryz.prog 8 515 = true := by kernel_rfl
theorem g10 : Tryz.prog.globalNamed "drumlin/slots.loading" = some 0 := by kernel_rfl
theorem t10 : (Tryz.prog.globals[0]?).map (·.type) = some 515 := by kernel_rfl
def a10 : List AV := [.bool true, .bool false, .bool false, .bool false, .bool false, .int .i64 (2)]
theorem y10 : tidyB Tryz.prog 8 515 = true := by kernel_rfl
theorem g11 : Tryz.prog.globalNamed "drumlin/audit.reopen" = some 10 := by kernel_rfl
theorem t11 : (Tryz.prog.globals[10]?).map (·.type) = some 121 := by kernel_rfl
def a11 : List AV := [.int .i64 (8), .int .i64 (0), .int .i64 (0), .str [], .str []]
theorem y11 : tidyB Tryz.prog 8 121 = true := by kernel_rfl
def laidL : List (String × DataW Unit) := [("internal/strconv.uint64pow10", Rows.laid_internal_strconv_uint64pow10), ("math/bits.deBruijn32tab", Rows.laid_math_bits_deBruijn32tab), ("math/bits.deBruijn64tab", Rows.laid_math_bits_deBruijn64tab), ("unicode/utf8.first", Rows.laid_unicode_utf8_first), ("unicode/utf8.acceptRanges", Rows.laid_unicode_utf8_acceptRanges), ("strconv.ErrSyntax", Rows.laid_strconv_ErrSyntax), ("strconv.ErrRange", Rows.laid_strconv_ErrRange), ("drumlin/slots.sealing", Rows.laid_drumlin_slots_sealing), ("drumlin/slots.choosing", Rows.laid_drumlin_slots_choosing), ("drumlin/slots.dropping", Rows.laid_drumlin_slots_dropping), ("drumlin/slots.loading", Rows.laid_drumlin_slots_loading), ("drumlin/audit.reopen", Rows.laid_drumlin_audit_reopen)]
noncomputable def gL : List (Nat × AObj) := [(2, .blk 523 true (.fix (List.length a0)) (Tr.put .nil 0 a0)), (7, .blk 637 true (.fix (List.length a1)) (Tr.put .nil 0 a1)), (6, .blk 634 true (.fix (List.length a2)) (Tr.put .nil 0 a2)), (9, .blk 646 true (.fix (List.length a4)) (Tr.put .nil 0 a4)), (3, .blk 515 true (.fix (List.length a7)) (Tr.put .nil 0 a7)), (5, .blk 515 true (.fix (List.length a8)) (Tr.put .nil 0 a8)), (1, .blk 515 true (.fix (List.length a9)) (Tr.put .nil 0 a9)), (0, .blk 515 true (.fix (List.length a10)) (Tr.put .nil 0 a10)), (10, .blk 121 true (.fix (List.length a11)) (Tr.put .nil 0 a11))]
theorem G_eq : QG = gOf gL := by kernel_rfl

theorem door_met (os : Os) (args : Array Value) : laidMetH Tryz.prog laidL ((World.laidAll Tryz.prog os laidL).forCall (fun _ _ => 0) ⟨#[], args, []⟩).memory := by
  rw [MakeChecks.laidMetH_plain _ _ _ (by kernel_rfl)]
  exact laidMet_laidAll _ (by kernel_rfl) (by kernel_rfl)

theorem globs {W : World} (h : laidMetH Tryz.prog laidL W) : GlobAll Tryz.prog.globals.size W QG := by
  rw [MakeChecks.laidMetH_plain _ _ _ (by kernel_rfl)] at h
  obtain ⟨ps, ⟨b0, u0, cs0, f0, p0, q0, hg0, ht0, hv0, hd0, ⟨b1, u1, cs1, f1, p1, q1, hg1, ht1, hv1, hd1, ⟨b2, u2, cs2, f2, p2, q2, hg2, ht2, hv2, hd2, ⟨b3, u3, cs3, f3, p3, q3, hg3, ht3, hv3, hd3, ⟨b4, u4, cs4, f4, p4, q4, hg4, ht4, hv4, hd4, ⟨b5, u5, cs5, f5, p5, q5, hg5, ht5, hv5, hd5, ⟨b6, u6, cs6, f6, p6, q6, hg6, ht6, hv6, hd6, ⟨b7, u7, cs7, f7, p7, q7, hg7, ht7, hv7, hd7, ⟨b8, u8, cs8, f8, p8, q8, hg8, ht8, hv8, hd8, ⟨b9, u9, cs9, f9, p9, q9, hg9, ht9, hv9, hd9, ⟨b10, u10, cs10, f10, p10, q10, hg10, ht10, hv10, hd10, ⟨b11, u11, cs11, f11, p11, q11, hg11, ht11, hv11, hd11, _, _⟩, _⟩, _⟩, _⟩, _⟩, _⟩, _⟩, _⟩, _⟩, _⟩, _⟩, _⟩, _, _⟩ := h
  obtain rfl := Option.some.inj (g0.symm.trans hg0)
  obtain rfl := Option.some.inj (t0.symm.trans ht0)
  have e0 := open_plain _ _ y0 _ _ _ hd0
  obtain ⟨w0, z0, h0⟩ := var_heap hg0 hv0
  obtain rfl := Option.some.inj (g1.symm.trans hg1)
  obtain rfl := Option.some.inj (t1.symm.trans ht1)
  have e1 := open_plain _ _ y1 _ _ _ hd1
  obtain ⟨w1, z1, h1⟩ := var_heap hg1 hv1
  obtain rfl := Option.some.inj (g2.symm.trans hg2)
  obtain rfl := Option.some.inj (t2.symm.trans ht2)
  have e2 := open_plain _ _ y2 _ _ _ hd2
  obtain ⟨w2, z2, h2⟩ := var_heap hg2 hv2
  obtain rfl := Option.some.inj (g4.symm.trans hg4)
  obtain rfl := Option.some.inj (t4.symm.trans ht4)
  have e4 := open_plain _ _ y4 _ _ _ hd4
  obtain ⟨w4, z4, h4⟩ := var_heap hg4 hv4
  obtain rfl := Option.some.inj (g7.symm.trans hg7)
  obtain rfl := Option.some.inj (t7.symm.trans ht7)
  have e7 := open_plain _ _ y7 _ _ _ hd7
  obtain ⟨w7, z7, h7⟩ := var_heap hg7 hv7
  obtain rfl := Option.some.inj (g8.symm.trans hg8)
  obtain rfl := Option.some.inj (t8.symm.trans ht8)
  have e8 := open_plain _ _ y8 _ _ _ hd8
  obtain ⟨w8, z8, h8⟩ := var_heap hg8 hv8
  obtain rfl := Option.some.inj (g9.symm.trans hg9)
  obtain rfl := Option.some.inj (t9.symm.trans ht9)
  have e9 := open_plain _ _ y9 _ _ _ hd9
  obtain ⟨w9, z9, h9⟩ := var_heap hg9 hv9
  obtain rfl := Option.some.inj (g10.symm.trans hg10)
  obtain rfl := Option.some.inj (t10.symm.trans ht10)
  have e10 := open_plain _ _ y10 _ _ _ hd10
  obtain ⟨w10, z10, h10⟩ := var_heap hg10 hv10
  obtain rfl := Option.some.inj (g11.symm.trans hg11)
  obtain rfl := Option.some.inj (t11.symm.trans ht11)
  have e11 := open_plain _ _ y11 _ _ _ hd11
  obtain ⟨w11, z11, h11⟩ := var_heap hg11 hv11
  rw [nGlob]
  intro b o hb
  rw [G_eq] at hb
  have hm := gOf_get hb
  simp only [gL, List.mem_cons, Prod.mk.injEq, List.not_mem_nil, or_false] at hm
  rcases hm with ⟨rfl, rfl⟩ | ⟨rfl, rfl⟩ | ⟨rfl, rfl⟩ | ⟨rfl, rfl⟩ | ⟨rfl, rfl⟩ | ⟨rfl, rfl⟩ | ⟨rfl, rfl⟩ | ⟨rfl, rfl⟩ | ⟨rfl, rfl⟩
  · exact ⟨by decide, _, a0, cs0, w0, z0, rfl, h0, by kernel_rfl, (show cvs eNil a0 = some (flatD Rows.laid_internal_strconv_uint64pow10) by kernel_rfl).trans (congrArg some e0.symm)⟩
  · exact ⟨by decide, _, a1, cs1, w1, z1, rfl, h1, by kernel_rfl, (show cvs eNil a1 = some (flatD Rows.laid_math_bits_deBruijn32tab) by kernel_rfl).trans (congrArg some e1.symm)⟩
  · exact ⟨by decide, _, a2, cs2, w2, z2, rfl, h2, by kernel_rfl, (show cvs eNil a2 = some (flatD Rows.laid_math_bits_deBruijn64tab) by kernel_rfl).trans (congrArg some e2.symm)⟩
  · exact ⟨by decide, _, a4, cs4, w4, z4, rfl, h4, by kernel_rfl, (show cvs eNil a4 = some (flatD Rows.laid_unicode_utf8_acceptRanges) by kernel_rfl).trans (congrArg some e4.symm)⟩
  · exact ⟨by decide, _, a7, cs7, w7, z7, rfl, h7, by kernel_rfl, (show cvs eNil a7 = some (flatD Rows.laid_drumlin_slots_sealing) by kernel_rfl).trans (congrArg some e7.symm)⟩
  · exact ⟨by decide, _, a8, cs8, w8, z8, rfl, h8, by kernel_rfl, (show cvs eNil a8 = some (flatD Rows.laid_drumlin_slots_choosing) by kernel_rfl).trans (congrArg some e8.symm)⟩
  · exact ⟨by decide, _, a9, cs9, w9, z9, rfl, h9, by kernel_rfl, (show cvs eNil a9 = some (flatD Rows.laid_drumlin_slots_dropping) by kernel_rfl).trans (congrArg some e9.symm)⟩
  · exact ⟨by decide, _, a10, cs10, w10, z10, rfl, h10, by kernel_rfl, (show cvs eNil a10 = some (flatD Rows.laid_drumlin_slots_loading) by kernel_rfl).trans (congrArg some e10.symm)⟩
  · exact ⟨by decide, _, a11, cs11, w11, z11, rfl, h11, by kernel_rfl, (show cvs eNil a11 = some (flatD Rows.laid_drumlin_audit_reopen) by kernel_rfl).trans (congrArg some e11.symm)⟩
end Go.Proofs.YtfpiabkkelhgbaaGreatDoor.consoleNil
