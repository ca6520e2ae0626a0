/- PruneKnown returns true at every world whose package variables are as the program's text lays them; no condition beside the row's own. -/
import Derived.Test.YtifdonldmabaaaaGreatDoorRows
import Derived.Test.YtifdonldmabaaaaGreatDoorTie
import Derived.Test.YtifdonldmabaaaaGreatDoorCards
import Derived.Test.YtifdonldmabaaaaGreatDoorDxTbQ5
import Derived.Test.YtifdonldmabaaaaGreatDoorDxRc
import Derived.WalkKit
import Derived.ProofKit
import Derived.LaidMore
import Derived.OpenShut
import Derived.Stop.Joined
import Derived.SevenTiedAt
namespace Go.Proofs.YtifdonldmabaaaaGreatDoor.pruneKnown
open Go.ChangeShapes Go.WideShapes Go.ChangeAt Go.RowKit Go.X
set_option linter.unusedVariables false
set_option maxRecDepth 100000

theorem own : ownKnob Tryz.prog.godebug = none := by kernel_rfl
theorem gDrop : Tryz.prog.globalNamed "drumlin/slots.dropping" = some 1 := by kernel_rfl
theorem gLoad : Tryz.prog.globalNamed "drumlin/slots.loading" = some 0 := by kernel_rfl
theorem tDrop : (Tryz.prog.globals[1]?).map (·.type) = some 126 := by kernel_rfl
theorem tLoad : (Tryz.prog.globals[0]?).map (·.type) = some 126 := by kernel_rfl
theorem nGlob : Tryz.prog.globals.size = 3 := by kernel_rfl

def laid2 : List (String × DataW Unit) := [("drumlin/slots.dropping", Rows.laid_drumlin_slots_dropping), ("drumlin/slots.loading", Rows.laid_drumlin_slots_loading)]

theorem door_met (os : Os) (args : Array Value) : laidMetH Tryz.prog laid2 ((World.doorLaid Tryz.prog 400 os).forCall (fun _ _ => 0) ⟨#[], args, []⟩).memory :=
  laidMetH_of_parts3 (fuel := 8) (laidMet_of_run' 8 (by kernel_rfl) (by kernel_rfl)) (by kernel_rfl) (by kernel_rfl)

theorem openTwo {W : World} {fuel : Nat} {cs : List Value} {bs : List Bool} {k : Int} {p : List MemPlace}
    (h : DataW.trod (fun _ => ()) Tryz.prog W 0 (fun _ => true) false fuel 126 cs = some (.agg [.agg (bs.map fun b => .lit (.bool b)), .lit (.int .i64 k)], p)) : cs = bs.map .bool ++ [.int .i64 k] :=
  open_chg Tryz.underlying126 ⟨rfl, rfl⟩ ⟨rfl, rfl⟩ Tryz.underlying124 Tryz.underlying4 Tryz.underlying3 ⟨by kernel_rfl, by kernel_rfl, by kernel_rfl, by kernel_rfl⟩ h

theorem globs {W : World} (h : laidMetH Tryz.prog laid2 W) : TrAll (GlobOk Tryz.prog.globals.size W) (fun n => n) Qp23.objs := by
  rw [MakeChecks.laidMetH_plain _ _ _ (by kernel_rfl)] at h
  obtain ⟨ps, ⟨g0, t0, cs0, f0, p0, q0, hg0, ht0, hv0, hd0, ⟨g1, t1, cs1, f1, p1, q1, hg1, ht1, hv1, hd1, _, _⟩, _⟩, _, _⟩ := h
  obtain rfl := Option.some.inj (gDrop.symm.trans hg0)
  obtain rfl := Option.some.inj (gLoad.symm.trans hg1)
  obtain rfl := Option.some.inj (tDrop.symm.trans ht0)
  obtain rfl := Option.some.inj (tLoad.symm.trans ht1)
  have e0 := openTwo (bs := [false, false, true, true, false]) (k := 0) hd0
  have e1 := openTwo (bs := [true, false, false, false, false]) (k := 2) hd1
  obtain ⟨u0, z0, w0⟩ := var_heap hg0 hv0
  obtain ⟨u1, z1, w1⟩ := var_heap hg1 hv1
  obtain ⟨l0⟩ := cs0
  obtain ⟨l1⟩ := cs1
  simp only at e0 e1
  subst e0; subst e1
  rw [nGlob]
  refine ⟨⟨by decide, 126, _, _, _, _, rfl, w1, ?_⟩, ⟨⟨by decide, 126, _, _, _, _, rfl, w0, ?_⟩, trivial, trivial⟩, trivial⟩
  · exact ⟨⟨_, fun _ => rfl, rfl⟩, ⟨⟨_, fun _ => rfl, rfl⟩, ⟨⟨_, fun _ => rfl, rfl⟩, trivial, trivial⟩, ⟨⟨_, fun _ => rfl, rfl⟩, trivial, trivial⟩⟩, ⟨⟨_, fun _ => rfl, rfl⟩, ⟨⟨_, fun _ => rfl, rfl⟩, trivial, trivial⟩, trivial⟩⟩
  · exact ⟨⟨_, fun _ => rfl, rfl⟩, ⟨⟨_, fun _ => rfl, rfl⟩, ⟨⟨_, fun _ => rfl, rfl⟩, trivial, trivial⟩, ⟨⟨_, fun _ => rfl, rfl⟩, trivial, trivial⟩⟩, ⟨⟨_, fun _ => rfl, rfl⟩, ⟨⟨_, fun _ => rfl, rfl⟩, trivial, trivial⟩, trivial⟩⟩

theorem known : EntOk Tryz.prog 3 (.loc [] ⟨Tryz.prog.globals.size, Qp23.objs⟩ Qo23) := by
  rw [nGlob]; exact Qk23

theorem walk {W : World} (h : laidMetH Tryz.prog laid2 W) : Calls Tryz.prog 3 #[] W fun e w' => e = .returned (.bool true) ∧ ∀ may, W.keptBut w' may :=
  top_calls known (globs h) (vs := []) (fun _ => .bool false) rfl (fun p hp => by
    have : p = Qo23.head (by simp [Qo23]) := by simpa [Qo23] using hp
    subst this; rfl)

theorem lifted (os : Os) (started : os.Started) (H : Type) (enc : TypeId × Value → H) :
    ReturnsInHanded {} Tryz.checked os 3 .any (fun w args => (Rows.pruneKnownSpec.pre enc Tryz.prog Tryz.f3 [] false w args ∧ laidMetH Tryz.prog laid2 w) ∧ sizedMet enc Tryz.prog Tryz.f3 (OpenSpec.ofChange Rows.pruneKnownSpec) false w args)
      (Rows.pruneKnownSpec.post enc Tryz.prog Tryz.f3 false true false false) := by
  refine returnsInHanded_of_change_and (C := Tryz.checked) (X := fun w _ => laidMetH Tryz.prog laid2 w) (fun _ _ _ hh h => h.of_heap hh) own started (by kernel_rfl) Tryz.func3
    (ChangeSpec.witness_shaped (enc := enc) (C := Tryz.checked) (os := os) (X := fun w _ => laidMetH Tryz.prog laid2 w) false (World.doorLaid Tryz.prog 400 os) #[] 8 rfl (World.shaped_of_RefB (by kernel_rfl) (by kernel_rfl)) (by kernel_rfl) (by kernel_rfl) (by kernel_rfl) (door_met os _)) ?_
  intro W base args ds gs before hval0 hW _ _ hL _
  have hW' := hW
  obtain ⟨p, q, hA0, hV, rfl, hfz, hnd⟩ := hW
  have hA : DataW.TrodAll enc Tryz.prog W 0 (fun _ => true) true Tryz.f3.params.toList args.toList ds p := hA0
  rw [Tryz.params3] at hA
  obtain ⟨rfl, rfl, rfl⟩ := trodAll_none hA
  obtain ⟨rfl, rfl⟩ := trodVars_none hV
  clear hA0 hval0
  simp only [List.append_nil] at hW'
  refine (walk hL).mono fun e W' ⟨he, hk⟩ => ?_
  subst he
  refine ⟨_, rfl, _, _, _, [], [], [], hW', ?_, ?_, ?_, hk _, fun h => by cases h⟩
  · exact trodAll_mk1 (shut_bool Tryz.underlying4 true)
  · rfl
  · rfl

theorem row : Rows.PruneKnownSaid :=
  OpenClaim.holds_of_wide 3 Tryz.f3 rfl rfl rfl rfl rfl rfl rfl ⟨rfl, rfl, rfl, rfl, rfl⟩ rfl rfl rfl rfl rfl (by kernel_rfl) Tryz.func3 (by kernel_rfl)
    (of_decide_eq_true (by kernel_rfl)) (by unfold Func.isWrapper; first | (rw [if_pos (by decide +kernel)]; kernel_rfl) | (rw [if_neg (by decide +kernel)]; exact ⟨rfl, rfl⟩))
    (fun os started H enc _ => lifted os started H enc)
end Go.Proofs.YtifdonldmabaaaaGreatDoor.pruneKnown
namespace Go.Proofs.YtifdonldmabaaaaGreatDoor
open Go
theorem pruneKnown_card : Rows.PruneKnownCardSaid :=
  Claim7.holds_tied_plain_at .later [] [.data, .data] true (true, "763c55d3088e82bb8511baa28b45f0f08c19ec0e9649671b9ccf099067fb74b2") false
    pruneKnown.row (fun _ h => by cases h) (by kernel_rfl) (fun _ h => by cases h) pruneKnown_row_tie rfl ⟨rfl, rfl⟩ (by kernel_rfl) rfl
    (fun f fn hf hfn => by
      obtain rfl : f = 3 := Option.some.inj ((show Tryz.prog.funcNamed "drumlin/drumlinlaw36.PruneKnown" = some 3 by kernel_rfl).symm.trans hf) |>.symm
      obtain rfl : fn = Tryz.f3 := (Option.some.inj (Tryz.func3.symm.trans hfn)).symm
      exact ⟨by kernel_rfl, fun j t ht => by
        rw [Tryz.params3] at ht
        simp at ht⟩)
    (by kernel_rfl)
#print axioms pruneKnown_card
end Go.Proofs.YtifdonldmabaaaaGreatDoor
