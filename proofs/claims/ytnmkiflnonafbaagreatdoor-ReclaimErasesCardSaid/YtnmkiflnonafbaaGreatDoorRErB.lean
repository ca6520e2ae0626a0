/- ReclaimErases returns true for every setup, at every world whose package variables are as the program's text lays them; no condition beside the row's own. -/
import Derived.Test.YtnmkiflnonafbaaGreatDoorRErA
import Derived.Test.YtnmkiflnonafbaaGreatDoorSxTbQ1
import Derived.Test.YtnmkiflnonafbaaGreatDoorK16
import Derived.Test.YtnmkiflnonafbaaGreatDoorK30
import Derived.Test.YtnmkiflnonafbaaGreatDoorTie
import Derived.Test.YtnmkiflnonafbaaGreatDoorCards
namespace Go.Proofs.YtnmkiflnonafbaaGreatDoor.reclaimErases
open Go.ChangeShapes Go.WideShapes Go.ChangeAt Go.RowKit Go.X
set_option linter.unusedVariables false
set_option maxRecDepth 100000
set_option maxHeartbeats 40000000

theorem known : ZdD Tryz.prog 12 (.loc [] ⟨Tryz.prog.globals.size, QG⟩ Qo1) := by
  rw [Zq4]
  exact Qk1

theorem Zn3 {W W' : World} (h : ZdE Tryz.prog.globals.size W QG) (U : Go.M.Old W W') : ZdE Tryz.prog.globals.size W' QG := by
  intro b o hb
  obtain ⟨h1, el, avs, c, t, fz, h2, h3, h4⟩ := h b o hb
  exact ⟨h1, el, avs, c, t, fz, h2, (U.keep b (Array.getElem?_eq_some_iff.1 h3).1 (fun x => x)).trans h3, h4⟩

theorem works {W : World} (h : laidMetH Tryz.prog ZdW W) {W' : World} (U : Go.M.Old W W') :
    Calls Tryz.prog 12 #[] W' fun e w' => e = .returned (.bool true) ∧ Go.M.Kpt W' w' :=
  (Zrs known (Zn3 (ZrJ h) U) (vs := []) (fun _ => .bool false) rfl (fun p hp => by
    have : p = Qo1.head (by simp [Qo1]) := by simpa [Qo1] using hp
    subst this; rfl)).mono
    fun e w' ⟨h1, h2, h3⟩ => ⟨h1, Go.M.Kpt.of h2 h3⟩

theorem db {W : World} (h : laidMetH Tryz.prog ZdW W) : Go.M.DbAt W := by
  obtain ⟨c, t, fz, h1, h2⟩ := (heaps h).1
  exact Go.M.db_of h1 (h2.trans (by kernel_rfl))

theorem ZrK {W : World} (h : laidMetH Tryz.prog ZdW W) : Go.M.SealAt W := by
  obtain ⟨c, t, fz, h1, h2⟩ := (heaps h).2.1
  exact Go.M.seal_of h1 (h2.trans (by kernel_rfl))

theorem ZrL {W : World} (h : laidMetH Tryz.prog ZdW W) : Go.M.DropAt W := by
  obtain ⟨c, t, fz, h1, h2⟩ := (heaps h).2.2
  exact Go.M.drop_of h1 (h2.trans (by kernel_rfl))

theorem walk {W : World} (h : laidMetH Tryz.prog ZdW W) {n0 n1 n2 n3 n4 n5 n6 ff mm ll lc : Nat} {al : Option Addr} (h0 : n0 < 256) (h1 : n1 < 256) (h2 : n2 < 256) (h3 : n3 < 256) (h4 : n4 < 256) (h5 : n5 < 256) (h6 : n6 < 256) (hff : ff < 256) (hmm : mm < 256) (hll : ll ≤ lc) (hlc : lc ≤ 9223372036854775807) (hal : ll = 0 ∨ al.isSome = true) (hL : ∀ j, j < ll → j < 60 → ∃ lb lo, al = some ⟨lb, lo, none⟩ ∧ Go.M.MoveAt W lb lo j) :
    Calls Tryz.prog 4 #[.agg #[.int .u8 ((n0 : Nat) : Int), .int .u8 ((n1 : Nat) : Int), .int .u8 ((n2 : Nat) : Int), .int .u8 ((n3 : Nat) : Int), .int .u8 ((n4 : Nat) : Int), .int .u8 ((n5 : Nat) : Int), .int .u8 ((n6 : Nat) : Int), .slice al ll lc], .int .u8 ((ff : Nat) : Int), .int .u8 ((mm : Nat) : Int)] W fun e w' => e = .returned (.bool true) ∧ (∀ B, B < W.heap.size → w'.heap[B]? = W.heap[B]?) ∧ ∀ may, W.keptBut w' may :=
  (Go.M.reclaimErases_walk h0 h1 h2 h3 h4 h5 h6 hff hmm (db h) (ZrK h) (ZrL h) hll hlc hal hL (fun W' U => works h U)).mono fun e w' ⟨he, hk⟩ => ⟨he, hk.heap, hk.kept⟩


theorem lifted (os : Os) (started : os.Started) (H : Type) (enc : TypeId × Value → H) :
    ReturnsInHanded {} Tryz.checked os 4 .any (fun w args => (Rows.reclaimErasesSpec.pre enc Tryz.prog Tryz.f4 [] false w args ∧ laidMetH Tryz.prog ZdW w) ∧ sizedMet enc Tryz.prog Tryz.f4 (OpenSpec.ofChange Rows.reclaimErasesSpec) false w args)
      (Rows.reclaimErasesSpec.post enc Tryz.prog Tryz.f4 false true false false) := by
  refine returnsInHanded_of_change_and (C := Tryz.checked) (X := fun w _ => laidMetH Tryz.prog ZdW w) (fun _ _ _ hh h => h.of_heap hh) own started (by kernel_rfl) Tryz.func4
    (ChangeSpec.witness_shaped (enc := enc) (C := Tryz.checked) (os := os) (X := fun w _ => laidMetH Tryz.prog ZdW w) false (World.laidAll Tryz.prog os ZdW) #[.agg #[.int .u8 0, .int .u8 0, .int .u8 0, .int .u8 0, .int .u8 0, .int .u8 0, .int .u8 0, .slice none 0 0], .int .u8 0, .int .u8 0] 8 (World.laidAll_os _ _ _) (World.shaped_of_ZipB (by kernel_rfl) (by kernel_rfl)) (by kernel_rfl) (by kernel_rfl) (by kernel_rfl) (Zn2 os _)) ?_
  intro W base args ds gs before hval0 hW _ _ hL _
  have hval : ∀ (j : Nat) t v, Tryz.f4.params[j]? = some t → args[j]? = some v → Value.okWide Tryz.prog W .any base t v := hval0
  have hW' := hW
  obtain ⟨p, q, hA0, hV, rfl, hfz, hnd⟩ := hW
  have hA : DataW.TrodAll enc Tryz.prog W 0 (fun _ => true) true Tryz.f4.params.toList args.toList ds p := hA0
  have hA1 := hA0
  rw [Tryz.params4] at hA hval
  obtain ⟨v0, v1, v2, d0, d1, d2, p0, p1, p2, rfl, rfl, rfl, h0, h1, h2⟩ := trodAll_three hA
  obtain ⟨rfl, rfl⟩ := trodVars_none hV
  obtain ⟨cs, rfl, hsz⟩ := okWide_struct Tryz.underlying25 (hval 0 _ v0 rfl rfl)
  obtain ⟨m1, rfl, rfl, rfl, wm1⟩ := open_int Tryz.underlying5 (hval 1 _ v1 rfl rfl) h1
  obtain ⟨m2, rfl, rfl, rfl, wm2⟩ := open_int Tryz.underlying5 (hval 2 _ v2 rfl rfl) h2
  obtain ⟨ff, hff, rfl⟩ := Go.M.u8_of wm1
  obtain ⟨mm, hmm, rfl⟩ := Go.M.u8_of wm2
  obtain ⟨fu, h0⟩ := h0
  obtain ⟨n0, n1, n2, n3, n4, n5, n6, ll, lc, al, rfl, q0, q1, q2, q3, q4, q5, q6, hll, hlc, hal, hmv⟩ := Go.M.setup_of hsz h0
  clear hval0
  simp only [List.append_nil] at hW' hA1
  refine (walk hL q0 q1 q2 q3 q4 q5 q6 hff hmm hll hlc hal hmv).mono fun e W' ⟨he, hkp, hk⟩ => ?_
  subst he
  refine ⟨_, rfl, _, _, _, [], p0, [], hW', ?_, ?_, ?_, hk _, fun h => by cases h⟩
  · exact trodAll_mk1 (shut_bool Tryz.underlying4 true)
  · exact DataW.TrodAll.respare kids full (by rw [Tryz.params4]; decide +kernel) (ZgX hkp hA1) (fun q hq => by simpa using DataW.TrodAll.lt hA1 q hq)
  · rfl

end Go.Proofs.YtnmkiflnonafbaaGreatDoor.reclaimErases
