/- PruneMap returns true for every setup, list of numbers and truth value, at every world whose package variables are as the program's text lays them; no condition beside the row's own. -/
import Derived.Test.YtjadmbkmlehfdaaGreatDoorRPmA
import Derived.Test.YtjadmbkmlehfdaaGreatDoorK43
import Derived.Test.YtjadmbkmlehfdaaGreatDoorK47
import Derived.Test.YtjadmbkmlehfdaaGreatDoorK48
import Derived.Test.YtjadmbkmlehfdaaGreatDoorTie
import Derived.Test.YtjadmbkmlehfdaaGreatDoorCards
namespace Go.Proofs.YtjadmbkmlehfdaaGreatDoor.pruneMap
open Go.ChangeShapes Go.WideShapes Go.ChangeAt Go.RowKit Go.M
set_option linter.unusedVariables false
set_option maxRecDepth 100000
set_option maxHeartbeats 40000000
theorem db {W : World} (h : laidMetH Tryz.prog laidL W) : Go.M.DbAt W := by
  obtain ⟨c, t, fz, h1, h2⟩ := (heaps h).1
  exact Go.M.db_of h1 (h2.trans (by kernel_rfl))
theorem sealW {W : World} (h : laidMetH Tryz.prog laidL W) : Go.M.SealAt W := by
  obtain ⟨c, t, fz, h1, h2⟩ := (heaps h).2.1
  exact Go.M.seal_of h1 (h2.trans (by kernel_rfl))
theorem dropW {W : World} (h : laidMetH Tryz.prog laidL W) : Go.M.DropAt W := by
  obtain ⟨c, t, fz, h1, h2⟩ := (heaps h).2.2.1
  exact Go.M.drop_of h1 (h2.trans (by kernel_rfl))
theorem loadW {W : World} (h : laidMetH Tryz.prog laidL W) : Go.M.LoadAt W := by
  obtain ⟨c, t, fz, h1, h2⟩ := (heaps h).2.2.2
  exact Go.M.load_of h1 (h2.trans (by kernel_rfl))
theorem walk {W : World} (h : laidMetH Tryz.prog laidL W) {n0 n1 n2 n3 n4 n5 n6 ll lc l2 c2 : Nat} {al al2 : Option Addr} {sl : Bool} (h0 : n0 < 256) (h1 : n1 < 256) (h2 : n2 < 256) (h3 : n3 < 256) (h4 : n4 < 256) (h5 : n5 < 256) (h6 : n6 < 256) (hll : ll ≤ lc) (hlc : lc ≤ 9223372036854775807) (hal : ll = 0 ∨ al.isSome = true) (hL : ∀ j, j < ll → j < 60 → ∃ lb lo, al = some ⟨lb, lo, none⟩ ∧ Go.M.MoveAt W lb lo j)
    (hc2 : l2 ≤ c2) (hc3 : c2 ≤ 9223372036854775807) (hN : ∀ j, j < l2 → Go.M.NumAt W al2 j) :
    Calls Tryz.prog 4 #[.agg #[.int .u8 ((n0 : Nat) : Int), .int .u8 ((n1 : Nat) : Int), .int .u8 ((n2 : Nat) : Int), .int .u8 ((n3 : Nat) : Int), .int .u8 ((n4 : Nat) : Int), .int .u8 ((n5 : Nat) : Int), .int .u8 ((n6 : Nat) : Int), .slice al ll lc], .slice al2 l2 c2, .bool sl] W fun e w' => e = .returned (.bool true) ∧ (∀ B, B < W.heap.size → w'.heap[B]? = W.heap[B]?) ∧ ∀ may, W.keptBut w' may :=
  (Go.M.pruneMap_walk h0 h1 h2 h3 h4 h5 h6 (db h) (sealW h) (dropW h) hll hlc hal hL hc2 (fun j a _ => hN j a) (by omega) (fun W' U => Go.M.works36 ((db h).upd U (fun x => x)) ((sealW h).upd U (fun x => x)) ((dropW h).upd U (fun x => x)) ((loadW h).upd U (fun x => x)))).mono fun e w' ⟨he, hk⟩ => ⟨he, hk.heap, hk.kept⟩
theorem lifted (os : Os) (started : os.Started) (H : Type) (enc : TypeId × Value → H) :
    ReturnsInHanded {} Tryz.checked os 4 .any (fun w args => (Rows.pruneMapSpec.pre enc Tryz.prog Tryz.f4 [] false w args ∧ laidMetH Tryz.prog laidL w) ∧ sizedMet enc Tryz.prog Tryz.f4 (OpenSpec.ofChange Rows.pruneMapSpec) false w args)
      (Rows.pruneMapSpec.post enc Tryz.prog Tryz.f4 false true false false) := by
  refine returnsInHanded_of_change_and (C := Tryz.checked) (X := fun w _ => laidMetH Tryz.prog laidL w) (fun _ _ _ hh h => h.of_heap hh) own started (by kernel_rfl) Tryz.func4
    (ChangeSpec.witness_shaped (enc := enc) (C := Tryz.checked) (os := os) (X := fun w _ => laidMetH Tryz.prog laidL w) false (World.laidAll Tryz.prog os laidL) #[.agg #[.int .u8 0, .int .u8 0, .int .u8 0, .int .u8 0, .int .u8 0, .int .u8 0, .int .u8 0, .slice none 0 0], .slice none 0 0, .bool false] 8 (World.laidAll_os _ _ _) (World.shaped_of_ZipB (by kernel_rfl) (by kernel_rfl)) (by kernel_rfl) (by kernel_rfl) (by kernel_rfl) (door_met os _)) ?_
  intro W base args ds gs before hval0 hW _ _ hL _
  have hval : ∀ (j : Nat) t v, Tryz.f4.params[j]? = some t → args[j]? = some v → Value.okWide Tryz.prog W .any base t v := hval0
  have hW' := hW
  obtain ⟨p, q, hA0, hV, rfl, hfz, hnd⟩ := hW
  have hA : DataW.TrodAll enc Tryz.prog W 0 (fun _ => true) true Tryz.f4.params.toList args.toList ds p := hA0
  have hA1 := hA0
  rw [Tryz.params4] at hA hval
  obtain ⟨v0, v1, v2, d0, d1, d2, p0, p1, p2, rfl, rfl, rfl, h0, h1, h2⟩ := trodAll_three hA
  obtain ⟨rfl, rfl⟩ := trodVars_none hV
  obtain ⟨cs, rfl, hsz⟩ := okWide_struct Tryz.underlying25 (hval 0 _ v0 rfl rfl)
  obtain ⟨a1, k1, k2, rfl⟩ := okWide_slice Tryz.underlying60 (hval 1 _ v1 rfl rfl)
  obtain ⟨sl, rfl, rfl, rfl⟩ := open_bool Tryz.underlying4 (hval 2 _ v2 rfl rfl) h2
  obtain ⟨fv, h1⟩ := h1
  obtain ⟨l2, c2, al2, hv1, hc2, hc3, hN⟩ := Go.M.nums_of rfl h1
  rw [hv1] at hW' hA1 hA0 ⊢
  obtain ⟨fu, h0⟩ := h0
  obtain ⟨n0, n1, n2, n3, n4, n5, n6, ll, lc, al, rfl, q0, q1, q2, q3, q4, q5, q6, hll, hlc, hal, hmv⟩ := Go.M.setup_of hsz h0
  clear hval0
  simp only [List.append_nil] at hW' hA1
  refine (walk hL q0 q1 q2 q3 q4 q5 q6 hll hlc hal hmv hc2 hc3 hN).mono fun e W' ⟨he, hkp, hk⟩ => ?_
  subst he
  refine ⟨_, rfl, _, _, _, [], (p0 ++ p1), [], hW', ?_, ?_, ?_, hk _, fun h => by cases h⟩
  · exact trodAll_mk1 (shut_bool Tryz.underlying4 true)
  · exact DataW.TrodAll.respare kids full (by rw [Tryz.params4]; decide +kernel) (trodAll_keep hkp hA1) (fun q hq => by simpa using DataW.TrodAll.lt hA1 q hq)
  · rfl
end Go.Proofs.YtjadmbkmlehfdaaGreatDoor.pruneMap
