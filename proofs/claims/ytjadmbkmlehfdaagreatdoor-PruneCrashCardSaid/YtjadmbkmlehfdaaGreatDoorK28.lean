/- Walks 28. -/
import Derived.Test.YtjadmbkmlehfdaaGreatDoorProg
import Derived.Test.YtjadmbkmlehfdaaGreatDoorK23
import Derived.Test.YtjadmbkmlehfdaaGreatDoorK27
set_option linter.unusedVariables false
set_option linter.unusedSimpArgs false
set_option maxRecDepth 100000
namespace Go.M
open Go.Proofs Go.RowKit
theorem pbytes {w : World} {col : Col} {q D PP : Nat} {s : DevS} {K S cap T : Nat} {M : Nat → Nat} {V : Nat → Value} (h : DevAt w col q D s K S cap T M V) (hup : s.down = false) (hP : w.cell? ⟨PP, 7, none⟩ = some (.pointer (some ⟨D, 0, none⟩))) {i : Nat} (hi : i < s.n + 2) :
 Calls Tryz.prog 33 #[.pointer (some ⟨PP, 0, none⟩), .int .i64 ((i : Nat) : Int)] w fun e w' => (∃ a n c, e = .returned (.slice a n c) ∧ BytesAt w' (.slice a n c) (s.img i).bs) ∧ Old w w' := by
 have HL : Hid (Calls Tryz.prog 12 #[.pointer (some ⟨D, 0, none⟩), .int .i64 ((i : Nat) : Int)] w fun e w' => e = .returned (.tuple #[.int .i64 (((s.img i).bs.length : Nat) : Int), .int .i64 0]) ∧ Old w w') := by
  obtain ⟨va, vc, hv, c⟩ := h.cells i hi
  rw [hup] at c
  exact len_cells c
 have HR := Lib.hid (fun (W : World) (U : Old w W) => dread (h.other U (fun _ x => x.elim) (Kept.refl _ _)) hup hi)
 have hPl := World.block_lt_of_cell? w _ hP
 clear h
 go_enter Tryz.func33, Tryz.ntmps33
 go_wp2_with (first | (go_at_call 12; refine HL.out.mono ?_; rintro e w1 ⟨rfl, hO⟩; have c7 := Old.cellOf' hO hP; have l7 := World.block_lt_of_cell? w1 _ c7; have H1 := Lib.hid hO; clear hO HL) | (go_at_call 95; refine (HR.out w1 H1.out).mono ?_; rintro e w2 ⟨a, n, c, rfl, hb, hO, hf⟩; have H2 := Lib.hid (And.intro hb (Upd.trans H1.out hO)); clear hb hO hf) | (go_at_call 95; refine Hid.out ?_))
 go_ret
 exact ⟨⟨a, n, c, rfl, H2.out.1⟩, H2.out.2⟩
def cntU (s : DevS) (k : Nat) : Nat := ((List.range k).filter (unsOf s)).length
theorem cntU_le (s : DevS) (k : Nat) : cntU s k ≤ k := by
 have := List.length_filter_le (unsOf s) (List.range k)
 rwa [List.length_range] at this
theorem syns_all (s : DevS) (n : Nat) (hd : ∀ k, k < n → (s.img k).dur ≤ (s.img k).bs.length) : ∃ s2, s.syns ((List.range n).filter (unsOf s)) = s2 ∧ s2.ops = s.ops + (cntU s n : Int) ∧ (∀ k, k < n → unsOf s2 k = false) ∧ (∀ k, k < n → (s2.img k).dur = (s2.img k).bs.length ∧ (s2.img k).bs = (s.img k).bs) ∧ (List.range n).filter (unsOf s2) = [] := by
 obtain ⟨h1, h2, h3, h4, h5⟩ := syns_n ((List.range n).filter (unsOf s)) s
 have hk : ∀ k, k < n → ((s.syns ((List.range n).filter (unsOf s))).img k).dur = ((s.syns ((List.range n).filter (unsOf s))).img k).bs.length ∧ ((s.syns ((List.range n).filter (unsOf s))).img k).bs = (s.img k).bs := fun k hk => by
  by_cases hu : unsOf s k = true
  ·rw [h5 k (List.mem_filter.2 ⟨List.mem_range.2 hk, hu⟩)]
   exact ⟨rfl, rfl⟩
  ·rw [h4 k (fun hm => hu (List.mem_filter.1 hm).2)]
   refine ⟨?_, rfl⟩
   have := hd k hk
   have hu' : ¬ (s.img k).dur < (s.img k).bs.length := by simpa [unsOf] using hu
   omega
 have hu : ∀ k, k < n → unsOf (s.syns ((List.range n).filter (unsOf s))) k = false := fun k hk' => by
  have := (hk k hk').1
  simp [unsOf, this]
 refine ⟨_, rfl, h3, hu, hk, ?_⟩
 rw [List.filter_eq_nil_iff]
 intro k hm
 rw [hu k (List.mem_range.1 hm)]
 decide
end Go.M
