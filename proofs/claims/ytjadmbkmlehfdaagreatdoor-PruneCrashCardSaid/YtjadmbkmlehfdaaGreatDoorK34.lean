/- Walks 34. -/
import Derived.Test.YtjadmbkmlehfdaaGreatDoorProg
import Derived.Test.YtjadmbkmlehfdaaGreatDoorK24
import Derived.Test.YtjadmbkmlehfdaaGreatDoorK6
import Derived.Test.YtjadmbkmlehfdaaGreatDoorK7
set_option linter.unusedVariables false
set_option linter.unusedSimpArgs false
set_option maxRecDepth 100000
namespace Go.M
open Go.Proofs Go.RowKit Go.Shelf
attribute [local go_sem] Oper.semAt_some
def ImgX (w : World) (M : Nat) (A : Option Addr) (C l0 d0 sz : Nat) : Prop := ∃ (t : TypeId) (len dur : Nat), Has w M t #[.slice A len C, .int .i64 ((sz : Nat) : Int), .int .i64 ((dur : Nat) : Int)] ∧ d0 ≤ dur ∧ dur ≤ len ∧ len ≤ l0 ∧ len ≤ C ∧ len ≤ sz ∧ 1 ≤ sz ∧ sz ≤ 8192 ∧ ((A = none ∧ len = 0 ∧ C = 0) ∨ ∃ g, A = some ⟨g, 0, none⟩)
structure CxP where
 PD : Nat
 BD : Nat
 BK : Nat
 K : Nat
 S : Nat
 cap : Nat
 kb : Nat
 kc : Nat
 n : Nat
 x : Nat
 M : Nat → Nat
 A : Nat → Option Addr
 C : Nat → Nat
 L : Nat → Nat
 E : Nat → Nat
 Z : Nat → Nat
structure CxW (p : CxP) (w : World) : Prop where
 pd : w.cell? ⟨p.PD, 0, none⟩ = some (.pointer (some ⟨p.K, 0, none⟩))
 bd : w.cell? ⟨p.BD, 0, none⟩ = some (.pointer (some ⟨p.K, 0, none⟩))
 bk : w.cell? ⟨p.BK, 0, none⟩ = some (.slice (some ⟨p.kb, 0, none⟩) 1 p.kc)
 k0 : w.cell? ⟨p.K, 0, none⟩ = some (.slice (some ⟨p.S, 0, none⟩) (p.n + 2) p.cap)
 s0 : ∀ i, i < p.n + 2 → w.cell? ⟨p.S, i, none⟩ = some (.pointer (some ⟨p.M i, 0, none⟩))
 m : ∀ i, i < p.n + 2 → ImgX w (p.M i) (p.A i) (p.C i) (p.L i) (p.E i) (p.Z i)
 kp : w.cell? ⟨p.kb, 0, none⟩ = some (.int .i64 ((p.x : Nat) : Int))
theorem cell_grown {X Y : World} {row : Option Nat} (hg : X.grownBy Y row) (hr : ∀ r, row = some r → ∃ o : Obj, X.heap[r]? = some o ∧ o.isCells = false) {a : Addr} {v : Value} (h : X.cell? a = some v) : Y.cell? a = some v := by
 have hl := World.block_lt_of_cell? X a h
 have hne : some a.block ≠ row := fun e => by
  obtain ⟨o, ho, hc⟩ := hr a.block e.symm
  unfold World.cell? at h
  rw [ho] at h
  cases o <;> simp_all [Obj.isCells]
 unfold World.cell? at *
 rw [hg.block _ hl hne]
 exact h
theorem has_grown {X Y : World} {row : Option Nat} (hg : X.grownBy Y row) (hr : ∀ r, row = some r → ∃ o : Obj, X.heap[r]? = some o ∧ o.isCells = false) {B : Nat} {t : TypeId} {c : Array Value} (h : Has X B t c) : Has Y B t c :=
 has_own B t (fun (_ : Unit) => c) () X Y row h hg hr
theorem ImgX.grown {X Y : World} {row : Option Nat} (hg : X.grownBy Y row) (hr : ∀ r, row = some r → ∃ o : Obj, X.heap[r]? = some o ∧ o.isCells = false) {M : Nat} {A : Option Addr} {C l0 d0 sz : Nat} : ImgX X M A C l0 d0 sz → ImgX Y M A C l0 d0 sz
 | ⟨t, len, dur, h, r⟩ => ⟨t, len, dur, has_grown hg hr h, r⟩
theorem CxW.grown {p : CxP} {X Y : World} {row : Option Nat} (h : CxW p X) (hg : X.grownBy Y row) (hr : ∀ r, row = some r → ∃ o : Obj, X.heap[r]? = some o ∧ o.isCells = false) : CxW p Y :=
 ⟨cell_grown hg hr h.pd, cell_grown hg hr h.bd, cell_grown hg hr h.bk, cell_grown hg hr h.k0, fun i hi => cell_grown hg hr (h.s0 i hi), fun i hi => (h.m i hi).grown hg hr, cell_grown hg hr h.kp⟩
theorem d_len2 {w : World} {K S n cap : Nat} (k0 : w.cell? ⟨K, 0, none⟩ = some (.slice (some ⟨S, 0, none⟩) (n + 2) cap)) (hn : n ≤ 32) :
 Calls Tryz.prog 257 #[.pointer (some ⟨K, 0, none⟩)] w fun e w' => e = .returned (.int .i64 ((n : Nat) + 2 : Int)) ∧ w = w' := by
 have p1 : (0 : Int) < (n : Int) + 2 := by omega
 go_enter Tryz.func257, Tryz.ntmps257
 go_wp2
 go_ret
 exact ⟨rfl, rfl⟩
theorem i_len2 {w : World} {Mi sz len vc : Nat} {va : Option Addr} (m0 : w.cell? ⟨Mi, 0, none⟩ = some (.slice va len vc)) (m1 : w.cell? ⟨Mi, 1, none⟩ = some (.int .i64 ((sz : Nat) : Int))) (p2 : 0 < sz) :
 Calls Tryz.prog 114 #[.pointer (some ⟨Mi, 0, none⟩)] w fun e w' => e = .returned (.int .i64 ((len : Nat) : Int)) ∧ w = w' := by
 go_enter Tryz.func114, Tryz.ntmps114
 go_wp2
 go_ret
 exact ⟨rfl, rfl⟩
theorem used_iterx (nf : Nat) (hnf : 1 ≤ nf) (l : Nat) (p : CxP) (hn : p.n ≤ 32) (J Jx : List {i : Nat // i < p.n + 2} → World → Prop)
 (hY : ∀ pre i W, J pre W → pre.length < p.n + 2 → YieldAt Fence.wide (nf - 1) Tryz.prog l #[.int .i64 ((i.1 : Nat) : Int)] W fun e W' =>
   (e = .returned (.bool true) ∧ J (pre ++ [i]) W' ∧ (CxW p W → CxW p W')) ∨ (e = .returned (.bool false) ∧ Jx (pre ++ [i]) W'))
 (W : World) (hJ : AbidesFrom W.heap.size J) (hC : CxW p W) (h0 : J [] W) :
 Calls Tryz.prog 256 #[.func (.yield l) #[] #[], .pointer (some ⟨p.PD, 0, none⟩)] W fun e W' => (∃ v, e = .returned v) ∧ ((∃ ys, True ∧ J ys W') ∨ ∃ pre, True ∧ Jx pre W') := by
 refine callsIn_wide (n := nf) |>.1 ?_
 refine callsIn_of_wp Tryz.func256 rfl trivial ?_ rfl
 simp only [Tryz.ntmps256, List.size_toArray, List.length_cons, List.length_nil, Nat.reduceAdd, Nat.reduceSub, Array.replicate_succ, Array.replicate_zero, List.push_toArray, List.append_toArray, List.nil_append, List.cons_append]
 have HY := Lib.hid hY
 have HJ := Lib.hid hJ
 have HC := Lib.hid hC
 clear hY hJ
 obtain ⟨c1, -, -, c2, -, -, -⟩ := hC
 have g1 : (0 : Int) < (p.n : Int) + 2 := by omega
 gi_wp2_with (first | (refine ⟨trivial, ?_⟩; gi_at_call 257; refine (callsIn_wide.2 (d_len2 c2 hn)).mono ?_; rintro e w1 ⟨rfl, rfl⟩))
 gi_loopw [3, 6] (fun _ i wr => ∃ (k : Nat) (pre : List {i : Nat // i < p.n + 2}), k ≤ p.n + 2 ∧ pre.length ≤ k ∧ i = .int .i64 k ∧ J pre wr ∧ CxW p wr)
  (fun _ i _ => p.n + 2 - (intOf i).toNat)
 case atStart => exact ⟨0, [], Nat.zero_le _, Nat.le_refl _, rfl, h0, HC.out⟩
 case round =>
  obtain ⟨k, pre, hk, hpl, rfl, hJs, hcr⟩ := hrel
  by_cases hlt : k < p.n + 2
  ·obtain ⟨t, len, dur, hm, q0, q1, q7, q2, q3, q4, q5, q6⟩ := hcr.m k hlt
   have m0 := hm.cell 0
   have m1 := hm.cell 1
   have e1 := hcr.pd
   have e2 := hcr.k0
   have e3 := hcr.s0 k hlt
   have HLN := Lib.hid (i_len2 (w := wr) (Mi := p.M k) (sz := p.Z k) (len := len) (vc := p.C k) (va := p.A k) m0 m1 (by omega))
   have g2 : ((k : Nat) : Int) < (p.n : Int) + 2 := by omega
   have HCR := Lib.hid hcr
   clear hcr hm m0 m1 q0 q1 q7 q2 q3 q4 q5 q6
   rcases Nat.eq_zero_or_pos len with rfl | hp
   ·gi_wp2_with (first | (refine ⟨trivial, ?_⟩; gi_at_call 114; refine (callsIn_wide.2 HLN.out).mono ?_; rintro e w1 ⟨rfl, rfl⟩))
    refine ⟨fun f h => (by cases h), ?_⟩
    gi_wp2
    go_roundw
    case rel => exact ⟨k + 1, pre, by omega, by omega, by simp, hJs, HCR.out⟩
    case measure => simp [intOf]; omega
   ·obtain ⟨fn, tmps, assign, body, hy, hR⟩ := HY.out pre ⟨k, hlt⟩ wr hJs (by omega)
    gi_wp2_with (first | (refine ⟨trivial, ?_⟩; gi_at_call 114; refine (callsIn_wide.2 HLN.out).mono ?_; rintro e w1 ⟨rfl, rfl⟩))
    refine hR.mono ?_
    rintro e W3 (⟨rfl, hJ3, hk3⟩ | ⟨rfl, hJx3⟩)
    ·gi_wp2
     go_roundw
     case rel => exact ⟨k + 1, pre ++ [⟨k, hlt⟩], by omega, by simp; omega, by simp, hJ3, hk3 HCR.out⟩
     case measure => simp [intOf]; omega
    ·gi_wp2
     refine bodyPost_ret (results_none rfl _ _ _) rfl ?_
     exact ⟨⟨_, rfl⟩, .inr ⟨_, trivial, hJx3⟩⟩
  ·obtain rfl : k = p.n + 2 := by omega
   gi_wp2
   go_end0
   exact ⟨⟨_, rfl⟩, .inl ⟨_, trivial, hJs⟩⟩
end Go.M
namespace Go.M
open Go.Proofs Go.RowKit Go.Shelf
attribute [local go_sem] Oper.semAt_some
end Go.M
