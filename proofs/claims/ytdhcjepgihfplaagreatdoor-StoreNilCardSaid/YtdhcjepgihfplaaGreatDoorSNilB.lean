/- StoreNil returns true for every step, at every world whose package variables are as the program's text lays them; no condition beside the row's own. -/
import Derived.Test.YtdhcjepgihfplaaGreatDoorSNilA
import Derived.Test.YtdhcjepgihfplaaGreatDoorTie
import Derived.Test.YtdhcjepgihfplaaGreatDoorCards
namespace Go.Proofs.YtdhcjepgihfplaaGreatDoor.storeNil
open Go.ChangeShapes Go.WideShapes Go.ChangeAt Go.RowKit Go.X
set_option linter.unusedVariables false
set_option maxRecDepth 100000
set_option maxHeartbeats 40000000

def one (k v p : Nat × Nat) (d : Bool) : List AV := [.agg [.res 0 (.rng .i64 (-9223372036854775808) 9223372036854775807), .res 2 (.rng .i64 (-9223372036854775808) 9223372036854775807), .res 4 (.strLen k.1 k.2), .res 6 (.strLen v.1 v.2), .res 8 (.rng .i64 (-9223372036854775808) 9223372036854775807), .bool d, .res 12 (.slLen p.1 p.2)]]
def two (n : Nat) : List (Nat × Nat) := [(0, n), (n + 1, 9223372036854775807)]
def all : List (List AV) := (two 600).flatMap fun k => (two 600).flatMap fun v => (two 40).flatMap fun p => [true, false].map fun d => one k v p d

theorem all_eq : QL0 = all := by kernel_rfl

theorem looked : chkTop (xp QMT []) 20000 3 ⟨Tryz.prog.globals.size, QG⟩ all = true := by
  rw [nGlob, ← all_eq]
  exact QT0

theorem mem_all {k v p : Nat × Nat} (hk : k ∈ two 600) (hv : v ∈ two 600) (hp : p ∈ two 40) (d : Bool) : one k v p d ∈ all :=
  List.mem_flatMap.2 ⟨k, hk, List.mem_flatMap.2 ⟨v, hv, List.mem_flatMap.2 ⟨p, hp, List.mem_map.2 ⟨d, by cases d <;> simp, rfl⟩⟩⟩⟩

theorem in_two (n m : Nat) (hm : m ≤ maxLen) : ∃ k ∈ two n, k.1 ≤ m ∧ m ≤ k.2 := by
  have hx : maxLen ≤ 9223372036854775807 := by decide
  by_cases h : m ≤ n
  · exact ⟨(0, n), by simp [two], Nat.zero_le _, h⟩
  · exact ⟨(n + 1, 9223372036854775807), by simp [two], by show n + 1 ≤ m; omega, by show m ≤ 9223372036854775807; omega⟩

def sy (a0 a1 a4 : Int) (k v : ByteArray) (a : Option Addr) (n c : Nat) : Nat → Value
  | 0 => .int .i64 a0 | 1 => .int .i64 a1 | 2 => .string k | 3 => .string v | 4 => .int .i64 a4 | _ => .slice a n c

theorem walk {W : World} (h : laidMetH Tryz.prog laidL W) {a0 a1 a4 : Int} {k v : ByteArray} {d : Bool} {a : Option Addr} {n c : Nat} (h0 : (-9223372036854775808) ≤ a0 ∧ a0 ≤ 9223372036854775807) (h1 : (-9223372036854775808) ≤ a1 ∧ a1 ≤ 9223372036854775807)
    (h4 : (-9223372036854775808) ≤ a4 ∧ a4 ≤ 9223372036854775807) (hk : k.size ≤ maxLen) (hv : v.size ≤ maxLen) (hn : n ≤ maxLen) :
    Calls Tryz.prog 3 #[.agg #[.int .i64 a0, .int .i64 a1, .string k, .string v, .int .i64 a4, .bool d, .slice a n c]] W fun e w' => e = .returned (.bool true) ∧ (∀ B, B < W.heap.size → w'.heap[B]? = W.heap[B]?) ∧ ∀ may, W.keptBut w' may := by
  obtain ⟨rk, mk, ik⟩ := in_two 600 k.size hk
  obtain ⟨rv, mv, iv⟩ := in_two 600 v.size hv
  obtain ⟨rp, mp, ip⟩ := in_two 40 n hn
  refine top_trueg (xp_ok _ _) (xp_fns _ _) mixed (QmT _) looked (globs h) (mem_all mk mv mp d) (vs := [.agg #[.int .i64 a0, .int .i64 a1, .string k, .string v, .int .i64 a4, .bool d, .slice a n c]]) (sy a0 a1 a4 k v a n c) (ora_nil _) ?_
  exact cvs_mk (cvAgg (cvs_mk (rng_cv rfl h0) (cvs_mk (rng_cv rfl h1) (cvs_mk (str_cv rfl ik) (cvs_mk (str_cv rfl iv) (cvs_mk (rng_cv rfl h4) (cvs_mk rfl (cvs_mk (sl_cv rfl ip) rfl)))))))) rfl


theorem lifted (os : Os) (started : os.Started) (H : Type) (enc : TypeId × Value → H) :
    ReturnsInHanded {} Tryz.checked os 3 .any (fun w args => (Rows.storeNilSpec.pre enc Tryz.prog Tryz.f3 [] false w args ∧ laidMetH Tryz.prog laidL w) ∧ sizedMet enc Tryz.prog Tryz.f3 (OpenSpec.ofChange Rows.storeNilSpec) false w args)
      (Rows.storeNilSpec.post enc Tryz.prog Tryz.f3 false true false false) := by
  refine returnsInHanded_of_change_and (C := Tryz.checked) (X := fun w _ => laidMetH Tryz.prog laidL w) (fun _ _ _ hh h => h.of_heap hh) own started (by kernel_rfl) Tryz.func3
    (ChangeSpec.witness_shaped (enc := enc) (C := Tryz.checked) (os := os) (X := fun w _ => laidMetH Tryz.prog laidL w) false (World.doorLaid Tryz.prog 400 os) #[.agg #[.int .i64 0, .int .i64 0, .string ⟨#[]⟩, .string ⟨#[]⟩, .int .i64 0, .bool false, .slice none 0 0]] 8 rfl (World.shaped_of_RefB (by kernel_rfl) (by kernel_rfl)) (by kernel_rfl) (by kernel_rfl) (by kernel_rfl) (door_met os _)) ?_
  intro W base args ds gs before hval0 hW _ _ hL _
  have hval : ∀ (j : Nat) t v, Tryz.f3.params[j]? = some t → args[j]? = some v → Value.okWide Tryz.prog W .any base t v := hval0
  have hW' := hW
  obtain ⟨p, q, hA0, hV, rfl, hfz, hnd⟩ := hW
  have hA : DataW.TrodAll enc Tryz.prog W 0 (fun _ => true) true Tryz.f3.params.toList args.toList ds p := hA0
  have hA1 := hA0
  rw [Tryz.params3] at hA hval
  obtain ⟨v0, d0, rfl, rfl, h0⟩ := trodAll_one hA
  obtain ⟨rfl, rfl⟩ := trodVars_none hV
  obtain ⟨cs, rfl, hsz⟩ := okWide_struct Tryz.underlying26 (hval 0 _ v0 rfl rfl)
  obtain ⟨fu, h0⟩ := h0
  have hsz' : cs.toList.length = 7 := by rw [Array.length_toList, hsz]; kernel_rfl
  obtain ⟨a0, e0, f0⟩ := fld_int (i := 0) Tryz.underlying26 rfl rfl rfl Tryz.underlying3 (by kernel_rfl) h0
  obtain ⟨a1, e1, f1⟩ := fld_int (i := 1) Tryz.underlying26 rfl rfl rfl Tryz.underlying3 (by kernel_rfl) h0
  obtain ⟨sk, e2, f2⟩ := fld_str (i := 2) Tryz.underlying26 rfl rfl rfl Tryz.underlying9 (by kernel_rfl) h0
  obtain ⟨sv, e3, f3⟩ := fld_str (i := 3) Tryz.underlying26 rfl rfl rfl Tryz.underlying9 (by kernel_rfl) h0
  obtain ⟨n4, y4, h4⟩ := fld_struct (i := 4) (c := 3) Tryz.underlying26 rfl rfl rfl (by kernel_rfl) h0
  obtain ⟨a4, e4, f4⟩ := fld_int (i := 0) Tryz.underlying24 rfl rfl rfl Tryz.underlying3 (by kernel_rfl) h4
  obtain ⟨b5, e5⟩ := fld_bool (i := 1) Tryz.underlying24 rfl rfl rfl Tryz.underlying4 (by kernel_rfl) h4
  obtain ⟨a6, n6, c6, e6, f6⟩ := fld_slice (i := 2) Tryz.underlying24 rfl rfl rfl Tryz.underlying22 (by kernel_rfl) h4
  simp only [Value.cells] at e0 e1 e2 e3 e4 e5 e6
  have e4' : cs.toList[4]? = some (.int .i64 a4) := by simpa using e4
  have e5' : cs.toList[5]? = some (.bool b5) := by simpa using e5
  have e6' : cs.toList[6]? = some (.slice a6 n6 c6) := by simpa using e6
  have hcs := list7 hsz' e0 e1 e2 e3 e4' e5' e6'
  obtain ⟨l⟩ := cs
  simp only at hcs
  subst hcs
  clear hval0
  simp only [List.append_nil] at hW'
  refine (walk hL (i64_of f0) (i64_of f1) (i64_of f4) f2 f3 f6).mono fun e W' ⟨he, hkp, hk⟩ => ?_
  subst he
  refine ⟨_, rfl, _, _, _, [], p, [], hW', ?_, ?_, ?_, hk _, fun h => by cases h⟩
  · exact trodAll_mk1 (shut_bool Tryz.underlying4 true)
  · exact DataW.TrodAll.respare kids full (by rw [Tryz.params3]; decide +kernel) (trodAll_keep hkp hA1) (fun q hq => by simpa using DataW.TrodAll.lt hA1 q hq)
  · rfl

end Go.Proofs.YtdhcjepgihfplaaGreatDoor.storeNil
