/- PruneCrash returns true for every setup, list of numbers, truth value, byte and truth value, at every world whose package variables are as the program's text lays them; no condition beside the row's own. -/
import Derived.Test.YtjadmbkmlehfdaaGreatDoorRPcA
import Derived.Test.YtjadmbkmlehfdaaGreatDoorK41
import Derived.Test.YtjadmbkmlehfdaaGreatDoorK44
import Derived.Test.YtjadmbkmlehfdaaGreatDoorK49
import Derived.Test.YtjadmbkmlehfdaaGreatDoorTie
import Derived.Test.YtjadmbkmlehfdaaGreatDoorCards
namespace Go.Proofs.YtjadmbkmlehfdaaGreatDoor.pruneCrash
open Go.ChangeShapes Go.WideShapes Go.ChangeAt Go.RowKit Go.M
set_option linter.unusedVariables false
set_option maxRecDepth 100000
set_option maxHeartbeats 40000000
theorem trodAll_five {H : Type} {enc : TypeId × Value → H} {P : Program} {w : World} {base : Nat} {spare : Nat → Bool} {held : Bool} {t0 t1 t2 t3 t4 : TypeId} {args : Array Value} {ds : List (DataW H)} {ps : List MemPlace} (h : DataW.TrodAll enc P w base spare held [t0, t1, t2, t3, t4] args.toList ds ps) :
    ∃ v0 v1 v2 v3 v4 d0 d1 d2 d3 d4 p0 p1 p2 p3 p4, args = #[v0, v1, v2, v3, v4] ∧ ds = [d0, d1, d2, d3, d4] ∧ ps = p0 ++ p1 ++ p2 ++ p3 ++ p4 ∧ DataW.Trod enc P w base spare held t0 v0 d0 p0 ∧ DataW.Trod enc P w base spare held t1 v1 d1 p1 ∧ DataW.Trod enc P w base spare held t2 v2 d2 p2 ∧ DataW.Trod enc P w base spare held t3 v3 d3 p3 ∧ DataW.Trod enc P w base spare held t4 v4 d4 p4 := by
  obtain ⟨v0, vs0, d0, ds0, p0, q0, hargs, rfl, rfl, e0, r0⟩ := trodAll_cons h
  obtain ⟨v1, vs1, d1, ds1, p1, q1, rfl, rfl, rfl, e1, r1⟩ := trodAll_cons r0
  obtain ⟨v2, vs2, d2, ds2, p2, q2, rfl, rfl, rfl, e2, r2⟩ := trodAll_cons r1
  obtain ⟨v3, vs3, d3, ds3, p3, q3, rfl, rfl, rfl, e3, r3⟩ := trodAll_cons r2
  obtain ⟨v4, vs4, d4, ds4, p4, q4, rfl, rfl, rfl, e4, r4⟩ := trodAll_cons r3
  obtain ⟨rfl, rfl, rfl⟩ := trodAll_nil r4
  exact ⟨v0, v1, v2, v3, v4, d0, d1, d2, d3, d4, p0, p1, p2, p3, p4, by cases args; simp_all, rfl, by simp, e0, e1, e2, e3, e4⟩
theorem db {W : World} (h : laidMetH Tryz.prog laidL W) : Go.M.DbAt W := by
  obtain ⟨c, t, fz, h1, h2⟩ := (heaps h).1
  exact Go.M.db_of h1 (h2.trans (by kernel_rfl))
theorem sealW {W : World} (h : laidMetH Tryz.prog laidL W) : Go.M.SealAt W := by
  obtain ⟨c, t, fz, h1, h2⟩ := (heaps h).2.1
  exact Go.M.seal_of h1 (h2.trans (by kernel_rfl))
theorem dropW {W : World} (h : laidMetH Tryz.prog laidL W) : Go.M.DropAt W := by
  obtain ⟨c, t, fz, h1, h2⟩ := (heaps h).2.2.1
  exact Go.M.drop_of h1 (h2.trans (by kernel_rfl))
theorem loadW {W : World} (h : laidMetH Tryz.prog laidL W) : Go.M.LoadAt W := by
  obtain ⟨c, t, fz, h1, h2⟩ := (heaps h).2.2.2
  exact Go.M.load_of h1 (h2.trans (by kernel_rfl))
theorem walk {W : World} (h : laidMetH Tryz.prog laidL W) {n0 n1 n2 n3 n4 n5 n6 ll lc l2 c2 kp : Nat} {al al2 : Option Addr} {sl dn : Bool} (h0 : n0 < 256) (h1 : n1 < 256) (h2 : n2 < 256) (h3 : n3 < 256) (h4 : n4 < 256) (h5 : n5 < 256) (h6 : n6 < 256) (hkq : kp < 256) (hll : ll ≤ lc) (hlc : lc ≤ 9223372036854775807) (hal : ll = 0 ∨ al.isSome = true) (hL : ∀ j, j < ll → j < 60 → ∃ lb lo, al = some ⟨lb, lo, none⟩ ∧ Go.M.MoveAt W lb lo j)
    (hc2 : l2 ≤ c2) (hc3 : c2 ≤ 9223372036854775807) (hN : ∀ j, j < l2 → Go.M.NumAt W al2 j) :
    Calls Tryz.prog 5 #[.agg #[.int .u8 ((n0 : Nat) : Int), .int .u8 ((n1 : Nat) : Int), .int .u8 ((n2 : Nat) : Int), .int .u8 ((n3 : Nat) : Int), .int .u8 ((n4 : Nat) : Int), .int .u8 ((n5 : Nat) : Int), .int .u8 ((n6 : Nat) : Int), .slice al ll lc], .slice al2 l2 c2, .bool sl, .int .u8 ((kp : Nat) : Int), .bool dn] W fun e w' => e = .returned (.bool true) ∧ (∀ B, B < W.heap.size → w'.heap[B]? = W.heap[B]?) ∧ ∀ may, W.keptBut w' may :=
  (Go.M.pruneCrash_walk h0 h1 h2 h3 h4 h5 h6 hkq (db h) (sealW h) (dropW h) hll hlc hal hL hc2 (fun j a _ => hN j a) (by omega) (fun W' U => Go.M.works36 ((db h).upd U (fun x => x)) ((sealW h).upd U (fun x => x)) ((dropW h).upd U (fun x => x)) ((loadW h).upd U (fun x => x)))).mono fun e w' ⟨he, hk⟩ => ⟨he, hk.heap, hk.kept⟩
theorem lifted (os : Os) (started : os.Started) (H : Type) (enc : TypeId × Value → H) :
    ReturnsInHanded {} Tryz.checked os 5 .any (fun w args => (Rows.pruneCrashSpec.pre enc Tryz.prog Tryz.f5 [] false w args ∧ laidMetH Tryz.prog laidL w) ∧ sizedMet enc Tryz.prog Tryz.f5 (OpenSpec.ofChange Rows.pruneCrashSpec) false w args)
      (Rows.pruneCrashSpec.post enc Tryz.prog Tryz.f5 false true false false) := by
  refine returnsInHanded_of_change_and (C := Tryz.checked) (X := fun w _ => laidMetH Tryz.prog laidL w) (fun _ _ _ hh h => h.of_heap hh) own started (by kernel_rfl) Tryz.func5
    (ChangeSpec.witness_shaped (enc := enc) (C := Tryz.checked) (os := os) (X := fun w _ => laidMetH Tryz.prog laidL w) false (World.laidAll Tryz.prog os laidL) #[.agg #[.int .u8 0, .int .u8 0, .int .u8 0, .int .u8 0, .int .u8 0, .int .u8 0, .int .u8 0, .slice none 0 0], .slice none 0 0, .bool false, .int .u8 0, .bool false] 8 (World.laidAll_os _ _ _) (World.shaped_of_ZipB (by kernel_rfl) (by kernel_rfl)) (by kernel_rfl) (by kernel_rfl) (by kernel_rfl) (door_met os _)) ?_
  intro W base args ds gs before hval0 hW _ _ hL _
  have hval : ∀ (j : Nat) t v, Tryz.f5.params[j]? = some t → args[j]? = some v → Value.okWide Tryz.prog W .any base t v := hval0
  have hW' := hW
  obtain ⟨p, q, hA0, hV, rfl, hfz, hnd⟩ := hW
  have hA : DataW.TrodAll enc Tryz.prog W 0 (fun _ => true) true Tryz.f5.params.toList args.toList ds p := hA0
  have hA1 := hA0
  rw [Tryz.params5] at hA hval
  obtain ⟨v0, v1, v2, v3, v4, d0, d1, d2, d3, d4, p0, p1, p2, p3, p4, rfl, rfl, rfl, h0, h1, h2, h3, h4⟩ := trodAll_five hA
  obtain ⟨rfl, rfl⟩ := trodVars_none hV
  obtain ⟨cs, rfl, hsz⟩ := okWide_struct Tryz.underlying25 (hval 0 _ v0 rfl rfl)
  obtain ⟨a1, k1, k2, rfl⟩ := okWide_slice Tryz.underlying60 (hval 1 _ v1 rfl rfl)
  obtain ⟨sl, rfl, rfl, rfl⟩ := open_bool Tryz.underlying4 (hval 2 _ v2 rfl rfl) h2
  obtain ⟨m1, rfl, rfl, rfl, wm1⟩ := open_int Tryz.underlying5 (hval 3 _ v3 rfl rfl) h3
  obtain ⟨dn, rfl, rfl, rfl⟩ := open_bool Tryz.underlying4 (hval 4 _ v4 rfl rfl) h4
  obtain ⟨kp, hkq, rfl⟩ := Go.M.u8_of wm1
  obtain ⟨fv, h1⟩ := h1
  obtain ⟨l2, c2, al2, hv1, hc2, hc3, hN⟩ := Go.M.nums_of rfl h1
  rw [hv1] at hW' hA1 hA0 ⊢
  obtain ⟨fu, h0⟩ := h0
  obtain ⟨n0, n1, n2, n3, n4, n5, n6, ll, lc, al, rfl, q0, q1, q2, q3, q4, q5, q6, hll, hlc, hal, hmv⟩ := Go.M.setup_of hsz h0
  clear hval0
  simp only [List.append_nil] at hW' hA1
  refine (walk hL q0 q1 q2 q3 q4 q5 q6 hkq hll hlc hal hmv hc2 hc3 hN).mono fun e W' ⟨he, hkp, hk⟩ => ?_
  subst he
  refine ⟨_, rfl, _, _, _, [], (p0 ++ p1), [], hW', ?_, ?_, ?_, hk _, fun h => by cases h⟩
  · exact trodAll_mk1 (shut_bool Tryz.underlying4 true)
  · exact DataW.TrodAll.respare kids full (by rw [Tryz.params5]; decide +kernel) (trodAll_keep hkp hA1) (fun q hq => by simpa using DataW.TrodAll.lt hA1 q hq)
  · rfl
end Go.Proofs.YtjadmbkmlehfdaaGreatDoor.pruneCrash
