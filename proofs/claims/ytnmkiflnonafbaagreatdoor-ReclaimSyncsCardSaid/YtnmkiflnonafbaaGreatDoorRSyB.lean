/- ReclaimSyncs returns true for every setup, at every world whose package variables are as the program's text lays them; no condition beside the row's own. -/
import Derived.Test.YtnmkiflnonafbaaGreatDoorRSyA
import Derived.Test.YtnmkiflnonafbaaGreatDoorDxTbQZ
import Derived.Test.YtnmkiflnonafbaaGreatDoorK17
import Derived.Test.YtnmkiflnonafbaaGreatDoorK23
import Derived.Test.YtnmkiflnonafbaaGreatDoorTie
import Derived.Test.YtnmkiflnonafbaaGreatDoorCards
namespace Go.Proofs.YtnmkiflnonafbaaGreatDoor.reclaimSyncs
open Go.ChangeShapes Go.WideShapes Go.ChangeAt Go.RowKit Go.X
set_option linter.unusedVariables false
set_option maxRecDepth 100000
set_option maxHeartbeats 40000000

theorem looked : chkTop (xp QMT []) 20000 12 ⟨Tryz.prog.globals.size, QG⟩ [[]] = true := by
  rw [nGlob]
  exact QT0

theorem glob_old {W W' : World} (h : GlobAll Tryz.prog.globals.size W QG) (U : Go.M.Old W W') : GlobAll Tryz.prog.globals.size W' QG := by
  intro b o hb
  obtain ⟨h1, el, avs, c, t, fz, h2, h3, h4⟩ := h b o hb
  exact ⟨h1, el, avs, c, t, fz, h2, (U.keep b (Array.getElem?_eq_some_iff.1 h3).1 (fun x => x)).trans h3, h4⟩

theorem works {W : World} (h : laidMetH Tryz.prog laidL W) {W' : World} (U : Go.M.Old W W') :
    Calls Tryz.prog 12 #[] W' fun e w' => e = .returned (.bool true) ∧ Go.M.Kpt W' w' :=
  (top_trueg (xp_ok _ _) (xp_fns _ _) mixed (QmT _) (xp_sums _ _) looked (glob_old (globs h) U) («as» := []) (List.mem_singleton.2 rfl) (vs := []) (fun _ => .int .i64 0) (ora_nil _) rfl).mono
    fun e w' ⟨h1, h2, h3⟩ => ⟨h1, Go.M.Kpt.of h2 h3⟩

theorem db {W : World} (h : laidMetH Tryz.prog laidL W) : Go.M.DbAt W := by
  obtain ⟨c, t, fz, h1, h2⟩ := (heaps h).1
  exact Go.M.db_of h1 (h2.trans (by kernel_rfl))

theorem sealW {W : World} (h : laidMetH Tryz.prog laidL W) : Go.M.SealAt W := by
  obtain ⟨c, t, fz, h1, h2⟩ := (heaps h).2.1
  exact Go.M.seal_of h1 (h2.trans (by kernel_rfl))

theorem walk {W : World} (h : laidMetH Tryz.prog laidL W) {n0 n1 n2 n3 n4 n5 n6 ll lc : Nat} {al : Option Addr} (h0 : n0 < 256) (h1 : n1 < 256) (h2 : n2 < 256) (h3 : n3 < 256) (h4 : n4 < 256) (h5 : n5 < 256) (h6 : n6 < 256) (hll : ll ≤ lc) (hlc : lc ≤ 9223372036854775807) (hal : ll = 0 ∨ al.isSome = true) (hL : ∀ j, j < ll → j < 60 → ∃ lb lo, al = some ⟨lb, lo, none⟩ ∧ Go.M.MoveAt W lb lo j) :
    Calls Tryz.prog 3 #[.agg #[.int .u8 ((n0 : Nat) : Int), .int .u8 ((n1 : Nat) : Int), .int .u8 ((n2 : Nat) : Int), .int .u8 ((n3 : Nat) : Int), .int .u8 ((n4 : Nat) : Int), .int .u8 ((n5 : Nat) : Int), .int .u8 ((n6 : Nat) : Int), .slice al ll lc]] W fun e w' => e = .returned (.bool true) ∧ (∀ B, B < W.heap.size → w'.heap[B]? = W.heap[B]?) ∧ ∀ may, W.keptBut w' may :=
  (Go.M.reclaimSyncs_walk h0 h1 h2 h3 h4 h5 h6 (db h) (sealW h) hll hlc hal hL (fun W' U => works h U)).mono fun e w' ⟨he, hk⟩ => ⟨he, hk.heap, hk.kept⟩


theorem lifted (os : Os) (started : os.Started) (H : Type) (enc : TypeId × Value → H) :
    ReturnsInHanded {} Tryz.checked os 3 .any (fun w args => (Rows.reclaimSyncsSpec.pre enc Tryz.prog Tryz.f3 [] false w args ∧ laidMetH Tryz.prog laidL w) ∧ sizedMet enc Tryz.prog Tryz.f3 (OpenSpec.ofChange Rows.reclaimSyncsSpec) false w args)
      (Rows.reclaimSyncsSpec.post enc Tryz.prog Tryz.f3 false true false false) := by
  refine returnsInHanded_of_change_and (C := Tryz.checked) (X := fun w _ => laidMetH Tryz.prog laidL w) (fun _ _ _ hh h => h.of_heap hh) own started (by kernel_rfl) Tryz.func3
    (ChangeSpec.witness_shaped (enc := enc) (C := Tryz.checked) (os := os) (X := fun w _ => laidMetH Tryz.prog laidL w) false (World.laidAll Tryz.prog os laidL) #[.agg #[.int .u8 0, .int .u8 0, .int .u8 0, .int .u8 0, .int .u8 0, .int .u8 0, .int .u8 0, .slice none 0 0]] 8 (World.laidAll_os _ _ _) (World.shaped_of_ZipB (by kernel_rfl) (by kernel_rfl)) (by kernel_rfl) (by kernel_rfl) (by kernel_rfl) (door_met os _)) ?_
  intro W base args ds gs before hval0 hW _ _ hL _
  have hval : ∀ (j : Nat) t v, Tryz.f3.params[j]? = some t → args[j]? = some v → Value.okWide Tryz.prog W .any base t v := hval0
  have hW' := hW
  obtain ⟨p, q, hA0, hV, rfl, hfz, hnd⟩ := hW
  have hA : DataW.TrodAll enc Tryz.prog W 0 (fun _ => true) true Tryz.f3.params.toList args.toList ds p := hA0
  have hA1 := hA0
  rw [Tryz.params3] at hA hval
  obtain ⟨v0, d0, rfl, rfl, h0⟩ := trodAll_one hA
  obtain ⟨rfl, rfl⟩ := trodVars_none hV
  obtain ⟨cs, rfl, hsz⟩ := okWide_struct Tryz.underlying25 (hval 0 _ v0 rfl rfl)
  obtain ⟨fu, h0⟩ := h0
  obtain ⟨n0, n1, n2, n3, n4, n5, n6, ll, lc, al, rfl, q0, q1, q2, q3, q4, q5, q6, hll, hlc, hal, hmv⟩ := Go.M.setup_of hsz h0
  clear hval0
  simp only [List.append_nil] at hW' hA1
  refine (walk hL q0 q1 q2 q3 q4 q5 q6 hll hlc hal hmv).mono fun e W' ⟨he, hkp, hk⟩ => ?_
  subst he
  refine ⟨_, rfl, _, _, _, [], p, [], hW', ?_, ?_, ?_, hk _, fun h => by cases h⟩
  · exact trodAll_mk1 (shut_bool Tryz.underlying4 true)
  · exact DataW.TrodAll.respare kids full (by rw [Tryz.params3]; decide +kernel) (trodAll_keep hkp hA1) (fun q hq => by simpa using DataW.TrodAll.lt hA1 q hq)
  · rfl

end Go.Proofs.YtnmkiflnonafbaaGreatDoor.reclaimSyncs
