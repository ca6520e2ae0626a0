/- PruneNil returns true for all three numbers, at every world whose package variables are as the program's text lays them; no condition beside the row's own. -/
import Derived.Test.YtifdonldmabaaaaGreatDoorRows
import Derived.Test.YtifdonldmabaaaaGreatDoorTie
import Derived.Test.YtifdonldmabaaaaGreatDoorCards
import Derived.Test.YtifdonldmabaaaaGreatDoorDxTbQ6
import Derived.Test.YtifdonldmabaaaaGreatDoorDxTbQ7
import Derived.Test.YtifdonldmabaaaaGreatDoorDxTbQ8
import Derived.Test.YtifdonldmabaaaaGreatDoorDxTbQ9
import Derived.Test.YtifdonldmabaaaaGreatDoorDxTbQ10
import Derived.Test.YtifdonldmabaaaaGreatDoorDxTbQ11
import Derived.Test.YtifdonldmabaaaaGreatDoorDxTbQ12
import Derived.Test.YtifdonldmabaaaaGreatDoorDxTbQ13
import Derived.Test.YtifdonldmabaaaaGreatDoorDxTbQ14
import Derived.Test.YtifdonldmabaaaaGreatDoorDxTbQ15
import Derived.Test.YtifdonldmabaaaaGreatDoorDxTbQ16
import Derived.Test.YtifdonldmabaaaaGreatDoorDxTbQ17
import Derived.Test.YtifdonldmabaaaaGreatDoorDxTbQ18
import Derived.Test.YtifdonldmabaaaaGreatDoorDxTbQ19
import Derived.Test.YtifdonldmabaaaaGreatDoorDxRc
import Derived.WalkKit
import Derived.ProofKit
import Derived.LaidMore
import Derived.OpenShut
import Derived.Stop.Joined
import Derived.SevenTiedAt
namespace Go.Proofs.YtifdonldmabaaaaGreatDoor.pruneNil
open Go.ChangeShapes Go.WideShapes Go.ChangeAt Go.RowKit Go.X
set_option linter.unusedVariables false
set_option maxRecDepth 100000

theorem own : ownKnob Tryz.prog.godebug = none := by kernel_rfl
theorem gDrop : Tryz.prog.globalNamed "drumlin/slots.dropping" = some 1 := by kernel_rfl
theorem gLoad : Tryz.prog.globalNamed "drumlin/slots.loading" = some 0 := by kernel_rfl
theorem tDrop : (Tryz.prog.globals[1]?).map (·.type) = some 126 := by kernel_rfl
theorem tLoad : (Tryz.prog.globals[0]?).map (·.type) = some 126 := by kernel_rfl
theorem nGlob : Tryz.prog.globals.size = 3 := by kernel_rfl

def laid2 : List (String × DataW Unit) := [("drumlin/slots.dropping", Rows.laid_drumlin_slots_dropping), ("drumlin/slots.loading", Rows.laid_drumlin_slots_loading)]

theorem door_met (os : Os) (args : Array Value) : laidMetH Tryz.prog laid2 ((World.doorLaid Tryz.prog 400 os).forCall (fun _ _ => 0) ⟨#[], args, []⟩).memory :=
  laidMetH_of_parts3 (fuel := 8) (laidMet_of_run' 8 (by kernel_rfl) (by kernel_rfl)) (by kernel_rfl) (by kernel_rfl)

theorem openTwo {W : World} {fuel : Nat} {cs : List Value} {bs : List Bool} {k : Int} {p : List MemPlace}
    (h : DataW.trod (fun _ => ()) Tryz.prog W 0 (fun _ => true) false fuel 126 cs = some (.agg [.agg (bs.map fun b => .lit (.bool b)), .lit (.int .i64 k)], p)) : cs = bs.map .bool ++ [.int .i64 k] :=
  open_chg Tryz.underlying126 ⟨rfl, rfl⟩ ⟨rfl, rfl⟩ Tryz.underlying124 Tryz.underlying4 Tryz.underlying3 ⟨by kernel_rfl, by kernel_rfl, by kernel_rfl, by kernel_rfl⟩ h

theorem globs {W : World} (h : laidMetH Tryz.prog laid2 W) : TrAll (GlobOk Tryz.prog.globals.size W) (fun n => n) QG := by
  rw [MakeChecks.laidMetH_plain _ _ _ (by kernel_rfl)] at h
  obtain ⟨ps, ⟨g0, t0, cs0, f0, p0, q0, hg0, ht0, hv0, hd0, ⟨g1, t1, cs1, f1, p1, q1, hg1, ht1, hv1, hd1, _, _⟩, _⟩, _, _⟩ := h
  obtain rfl := Option.some.inj (gDrop.symm.trans hg0)
  obtain rfl := Option.some.inj (gLoad.symm.trans hg1)
  obtain rfl := Option.some.inj (tDrop.symm.trans ht0)
  obtain rfl := Option.some.inj (tLoad.symm.trans ht1)
  have e0 := openTwo (bs := [false, false, true, true, false]) (k := 0) hd0
  have e1 := openTwo (bs := [true, false, false, false, false]) (k := 2) hd1
  obtain ⟨u0, z0, w0⟩ := var_heap hg0 hv0
  obtain ⟨u1, z1, w1⟩ := var_heap hg1 hv1
  obtain ⟨l0⟩ := cs0
  obtain ⟨l1⟩ := cs1
  simp only at e0 e1
  subst e0; subst e1
  rw [nGlob]
  refine ⟨⟨by decide, 126, _, _, _, _, rfl, w1, ?_⟩, ⟨⟨by decide, 126, _, _, _, _, rfl, w0, ?_⟩, trivial, trivial⟩, trivial⟩
  · exact ⟨⟨_, fun _ => rfl, rfl⟩, ⟨⟨_, fun _ => rfl, rfl⟩, ⟨⟨_, fun _ => rfl, rfl⟩, trivial, trivial⟩, ⟨⟨_, fun _ => rfl, rfl⟩, trivial, trivial⟩⟩, ⟨⟨_, fun _ => rfl, rfl⟩, ⟨⟨_, fun _ => rfl, rfl⟩, trivial, trivial⟩, trivial⟩⟩
  · exact ⟨⟨_, fun _ => rfl, rfl⟩, ⟨⟨_, fun _ => rfl, rfl⟩, ⟨⟨_, fun _ => rfl, rfl⟩, trivial, trivial⟩, ⟨⟨_, fun _ => rfl, rfl⟩, trivial, trivial⟩⟩, ⟨⟨_, fun _ => rfl, rfl⟩, ⟨⟨_, fun _ => rfl, rfl⟩, trivial, trivial⟩, trivial⟩⟩


def all : List (List AV) := (List.range 8).flatMap fun a => (List.range 8).flatMap fun b => (List.range 8).map fun c => [.res 0 (.md .u8 8 a), .res 2 (.md .u8 8 b), .res 4 (.md .u8 8 c)]

theorem all_eq : QL0 ++ (QL1 ++ (QL2 ++ (QL3 ++ (QL4 ++ (QL5 ++ (QL6 ++ (QL7 ++ (QL8 ++ (QL9 ++ (QL10 ++ (QL11 ++ (QL12)))))))))))) = all := by kernel_rfl

theorem looked : chkTop (xp QMT) 20000 4 ⟨Tryz.prog.globals.size, QG⟩ all = true := by
  rw [nGlob, ← all_eq]
  exact (top_append QT0 (top_append QT1 (top_append QT2 (top_append QT3 (top_append QT4 (top_append QT5 (top_append QT6 (top_append QT7 (top_append QT8 (top_append QT9 (top_append QT10 (top_append QT11 QT12))))))))))))

theorem mem_all (a b c : Nat) (ha : a < 8) (hb : b < 8) (hc : c < 8) : [.res 0 (.md .u8 8 a), .res 2 (.md .u8 8 b), .res 4 (.md .u8 8 c)] ∈ all :=
  List.mem_flatMap.2 ⟨a, List.mem_range.2 ha, List.mem_flatMap.2 ⟨b, List.mem_range.2 hb, List.mem_map.2 ⟨c, List.mem_range.2 hc, rfl⟩⟩⟩

theorem walk {W : World} (h : laidMetH Tryz.prog laid2 W) (n m k : Nat) : Calls Tryz.prog 4 #[.int .u8 (Int.ofNat n), .int .u8 (Int.ofNat m), .int .u8 (Int.ofNat k)] W fun e w' => e = .returned (.bool true) ∧ ∀ may, W.keptBut w' may :=
  top_true (xp_ok _) (xp_fns _) mixed QmT looked (globs h) (mem_all (n % 8) (m % 8) (k % 8) (Nat.mod_lt _ (by decide)) (Nat.mod_lt _ (by decide)) (Nat.mod_lt _ (by decide)))
    (vs := [.int .u8 (Int.ofNat n), .int .u8 (Int.ofNat m), .int .u8 (Int.ofNat k)]) (fun i => match i with | 0 => .int .u8 (Int.ofNat n) | 1 => .int .u8 (Int.ofNat m) | _ => .int .u8 (Int.ofNat k)) (by simp [cvs, cv, env0, RC.val])

theorem nat_of {n : Int} (h : (Lit.int .u8 n).wf = true) : ∃ m : Nat, n = Int.ofNat m := by
  refine ⟨n.toNat, ?_⟩
  have h2 : (decide (IntKind.u8.min ≤ n) && decide (n ≤ IntKind.u8.max)) = true := h
  have h1 : IntKind.u8.min ≤ n := by
    simp only [Bool.and_eq_true, decide_eq_true_eq] at h2
    exact h2.1
  have h0 : IntKind.u8.min = 0 := by decide
  have : 0 ≤ n := by omega
  simp [Int.toNat_of_nonneg this]

theorem lifted (os : Os) (started : os.Started) (H : Type) (enc : TypeId × Value → H) :
    ReturnsInHanded {} Tryz.checked os 4 .any (fun w args => (Rows.pruneNilSpec.pre enc Tryz.prog Tryz.f4 [] false w args ∧ laidMetH Tryz.prog laid2 w) ∧ sizedMet enc Tryz.prog Tryz.f4 (OpenSpec.ofChange Rows.pruneNilSpec) false w args)
      (Rows.pruneNilSpec.post enc Tryz.prog Tryz.f4 false true false false) := by
  refine returnsInHanded_of_change_and (C := Tryz.checked) (X := fun w _ => laidMetH Tryz.prog laid2 w) (fun _ _ _ hh h => h.of_heap hh) own started (by kernel_rfl) Tryz.func4
    (ChangeSpec.witness_shaped (enc := enc) (C := Tryz.checked) (os := os) (X := fun w _ => laidMetH Tryz.prog laid2 w) false (World.doorLaid Tryz.prog 400 os) #[.int .u8 0, .int .u8 0, .int .u8 0] 8 rfl (World.shaped_of_RefB (by kernel_rfl) (by kernel_rfl)) (by kernel_rfl) (by kernel_rfl) (by kernel_rfl) (door_met os _)) ?_
  intro W base args ds gs before hval0 hW _ _ hL _
  have hval : ∀ (j : Nat) t v, Tryz.f4.params[j]? = some t → args[j]? = some v → Value.okWide Tryz.prog W .any base t v := hval0
  have hW' := hW
  obtain ⟨p, q, hA0, hV, rfl, hfz, hnd⟩ := hW
  have hA : DataW.TrodAll enc Tryz.prog W 0 (fun _ => true) true Tryz.f4.params.toList args.toList ds p := hA0
  rw [Tryz.params4] at hA hval
  obtain ⟨v0, v1, v2, d0, d1, d2, p0, p1, p2, rfl, rfl, rfl, h0, h1, h2⟩ := trodAll_three hA
  obtain ⟨rfl, rfl⟩ := trodVars_none hV
  obtain ⟨n, rfl, rfl, rfl, wn⟩ := open_int Tryz.underlying5 (hval 0 _ v0 rfl rfl) h0
  obtain ⟨m, rfl, rfl, rfl, wm⟩ := open_int Tryz.underlying5 (hval 1 _ v1 rfl rfl) h1
  obtain ⟨k, rfl, rfl, rfl, wk⟩ := open_int Tryz.underlying5 (hval 2 _ v2 rfl rfl) h2
  obtain ⟨n, rfl⟩ := nat_of wn
  obtain ⟨m, rfl⟩ := nat_of wm
  obtain ⟨k, rfl⟩ := nat_of wk
  clear hA0 hval0
  simp only [List.append_nil] at hW'
  refine (walk hL n m k).mono fun e W' ⟨he, hk⟩ => ?_
  subst he
  refine ⟨_, rfl, _, _, _, [], [], [], hW', ?_, ?_, ?_, hk _, fun h => by cases h⟩
  · exact trodAll_mk1 (shut_bool Tryz.underlying4 true)
  · exact trodAll_mk3 (shut_int Tryz.underlying5 wn) (shut_int Tryz.underlying5 wm) (shut_int Tryz.underlying5 wk)
  · rfl

theorem row : Rows.PruneNilSaid :=
  OpenClaim.holds_of_wide 4 Tryz.f4 rfl rfl rfl rfl rfl rfl rfl ⟨rfl, rfl, rfl, rfl, rfl⟩ rfl rfl rfl rfl rfl (by kernel_rfl) Tryz.func4 (by kernel_rfl)
    (of_decide_eq_true (by kernel_rfl)) (by unfold Func.isWrapper; first | (rw [if_pos (by decide +kernel)]; kernel_rfl) | (rw [if_neg (by decide +kernel)]; exact ⟨rfl, rfl⟩))
    (fun os started H enc _ => lifted os started H enc)
end Go.Proofs.YtifdonldmabaaaaGreatDoor.pruneNil
namespace Go.Proofs.YtifdonldmabaaaaGreatDoor
open Go
theorem pruneNil_card : Rows.PruneNilCardSaid :=
  Claim7.holds_tied_plain_at .later [] [.data, .data] true (true, "763c55d3088e82bb8511baa28b45f0f08c19ec0e9649671b9ccf099067fb74b2") false
    pruneNil.row (fun _ h => by cases h) (by kernel_rfl) (fun _ h => by cases h) pruneNil_row_tie rfl ⟨rfl, rfl⟩ (by kernel_rfl) rfl
    (fun f fn hf hfn => by
      obtain rfl : f = 4 := Option.some.inj ((show Tryz.prog.funcNamed "drumlin/drumlinlaw36.PruneNil" = some 4 by kernel_rfl).symm.trans hf) |>.symm
      obtain rfl : fn = Tryz.f4 := (Option.some.inj (Tryz.func4.symm.trans hfn)).symm
      exact ⟨by kernel_rfl, fun j t ht => by
        rw [Tryz.params4] at ht
        have h5 : t = 5 := by
          match j with
          | 0 => simpa using ht.symm
          | 1 => simpa using ht.symm
          | 2 => simpa using ht.symm
          | j + 3 => simp at ht
        subst h5
        have q : Tryz.prog.wantsStandIn 5 = false := by kernel_rfl
        exact q⟩)
    (by kernel_rfl)
#print axioms pruneNil_card
end Go.Proofs.YtifdonldmabaaaaGreatDoor
