/- Walks 38. -/
import Derived.Test.YtjadmbkmlehfdaaGreatDoorProg
import Derived.Test.YtjadmbkmlehfdaaGreatDoorK37
set_option linter.unusedVariables false
set_option linter.unusedSimpArgs false
set_option maxRecDepth 100000
namespace Go.M
open Go.Proofs Go.RowKit
set_option linter.unusedSimpArgs false
def ReadIn (W : World) (Bb : Nat) (rs : List UInt8) (w' : World) : Prop :=
 ∃ a m c, Has w' Bb 77 #[.slice a m c] ∧ BytesAt w' (.slice a m c) rs ∧ Upd (fun b => b = Bb) W w' ∧ ∀ ad m' c', (Value.slice a m c) = .slice (some ad) m' c' → W.heap.size ≤ ad.block
theorem copy2 {W : World} {H E Bb D : Nat} {sl off sz : Nat} {v0 : Value} {rs : List UInt8} (ha : W.cell? ⟨H, 0, none⟩ = some (.pointer (some ⟨D, 0, none⟩))) (e3 : W.cell? ⟨E, 3, none⟩ = some (.int .i64 ((sl : Nat) : Int))) (e4 : W.cell? ⟨E, 4, none⟩ = some (.int .i64 ((off : Nat) : Int))) (e5 : W.cell? ⟨E, 5, none⟩ = some (.int .i64 ((sz : Nat) : Int)))
 (hb : Has W Bb 77 #[v0])
 (HR : Calls Tryz.prog 95 #[.pointer (some ⟨D, 0, none⟩), .int .i64 ((sl : Nat) : Int), .int .i64 ((off : Nat) : Int), .int .i64 ((sz : Nat) : Int)] W (ReadPost W rs)) :
 Calls Tryz.prog 148 #[.pointer (some ⟨H, 0, none⟩), .pointer (some ⟨E, 0, none⟩), .pointer (some ⟨Bb, 0, none⟩)] W fun e w' => e = .returned (.int .i64 0) ∧ ReadIn W Bb rs w' := by
 have HH := Lib.hid HR
 have HB := Lib.hid hb
 have hBl := hb.lt
 clear HR hb
 go_enter Tryz.func148, Tryz.ntmps148
 go_wp2_with (first | (go_at_call 95; refine HH.out.mono ?_; rintro e w1 ⟨a, m, c, rfl, hbt, hU, hfr⟩; have B1 := Old.has hU HB.out; have b0 : w1.cell? ⟨Bb, 0, none⟩ = some v0 := B1.cell 0; have f0 := B1.frozen 0; have H1 := Lib.hid (And.intro hbt (And.intro hU (And.intro hfr B1))); clear hbt hU hfr B1) | go_in)
 go_ret
 obtain ⟨hbt, hU, hfr, B1⟩ := H1.out
 have U1 : Upd (fun b => b = Bb) w1 (w1.setCell ⟨Bb, 0, none⟩ (.slice a m c)) := (Upd.refl _ w1).setCell _ _ (.inl rfl)
 refine ⟨rfl, a, m, c, by simpa using B1.set 0 (.slice a m c), hbt.upd U1 (fun ad m' c' e hb => ?_), (hU.mono (fun _ _ x => x.elim)).trans U1, hfr⟩
 have := hfr _ _ _ e
 omega
theorem copy3 {W : World} {H L C D : Nat} {j len : Nat} {t : TypeId} {seq key del sl0 off0 size : Value} (ha : W.cell? ⟨H, 0, none⟩ = some (.pointer (some ⟨D, 0, none⟩))) (hl : W.cell? ⟨L, 0, none⟩ = some (.int .i64 ((j : Nat) : Int))) (hc : Has W C t #[seq, key, del, sl0, off0, size]) (hCH : C ≠ H) (hCL : C ≠ L)
 (HL : ∀ W', Upd (fun b => b = C) W W' → Calls Tryz.prog 12 #[.pointer (some ⟨D, 0, none⟩), .int .i64 ((j : Nat) : Int)] W' fun e w' => e = .returned (.tuple #[.int .i64 ((len : Nat) : Int), .int .i64 0]) ∧ Old W' w') :
 Calls Tryz.prog 149 #[.pointer (some ⟨L, 0, none⟩), .pointer (some ⟨C, 0, none⟩), .pointer (some ⟨H, 0, none⟩)] W fun e w' => e = .returned (.int .i64 0) ∧ Has w' C t #[seq, key, del, .int .i64 ((j : Nat) : Int), .int .i64 ((len : Nat) : Int), size] ∧ Upd (fun b => b = C) W w' := by
 have HH := Lib.hid HL
 have HB := Lib.hid hc
 have c3 : W.cell? ⟨C, 3, none⟩ = some sl0 := hc.cell 3
 have f3 := hc.frozen 3
 have hCl := hc.lt
 have hCH' := Ne.symm hCH
 have hCL' := Ne.symm hCL
 clear HL hc
 go_enter Tryz.func149, Tryz.ntmps149
 go_wp2_with (first | (go_at_call 12; refine (HH.out _ ?_).mono ?_; (exact (Upd.refl _ W).setCell _ _ (.inl rfl)); rintro e w1 ⟨rfl, hU⟩; have B1 := Old.has hU (HB.out.set 3 (.int .i64 ((j : Nat) : Int))); have b4 : w1.cell? ⟨C, 4, none⟩ = some off0 := (by have := B1.cell 4; simpa using this); have f4 := B1.frozen 4; have H1 := Lib.hid (And.intro hU B1); clear hU B1) | go_in)
 go_ret
 obtain ⟨hU, B1⟩ := H1.out
 refine ⟨rfl, by simpa using B1.set 4 (.int .i64 ((len : Nat) : Int)), (((Upd.refl (fun b => b = C) W).setCell _ _ (.inl rfl)).trans (hU.mono (fun _ _ x => x.elim))).setCell _ _ (.inl rfl)⟩
theorem copy4 {W : World} {a b c D i : Nat} {v : Value} {Q : World → Prop} (ha : W.cell? ⟨a, 0, none⟩ = some (.pointer (some ⟨D, 0, none⟩))) (hb : W.cell? ⟨b, 0, none⟩ = some (.int .i64 ((i : Nat) : Int))) (hc : W.cell? ⟨c, 0, none⟩ = some v)
 (HA : Calls Tryz.prog 107 #[.pointer (some ⟨D, 0, none⟩), .int .i64 ((i : Nat) : Int), v] W fun e w' => e = .returned (.int .i64 0) ∧ Q w') :
 Calls Tryz.prog 150 #[.pointer (some ⟨a, 0, none⟩), .pointer (some ⟨b, 0, none⟩), .pointer (some ⟨c, 0, none⟩)] W fun e w' => e = .returned (.int .i64 0) ∧ Q w' := by
 have H := Lib.hid HA
 clear HA
 go_enter Tryz.func150, Tryz.ntmps150
 go_wp2_with (first | (go_at_call 107; refine H.out.mono ?_; rintro e w1 ⟨rfl, hQ⟩) | go_in)
 go_ret
 exact ⟨rfl, hQ⟩
theorem copy5 {W : World} {a C X : Nat} {t : TypeId} {e : Ent} {Q : World → Prop} (ha : W.cell? ⟨a, 0, none⟩ = some (.pointer (some ⟨X, 0, none⟩))) (hc : Has W C t #[.int .i64 ((e.seq : Nat) : Int), .string e.key, .bool e.del, .int .i64 ((e.slot : Nat) : Int), .int .i64 ((e.off : Nat) : Int), .int .i64 ((e.size : Nat) : Int)])
 (HA : Calls Tryz.prog 64 #[.pointer (some ⟨X, 0, none⟩), e.val] W fun en w' => en = .returned (.int .i64 0) ∧ Q w') :
 Calls Tryz.prog 151 #[.pointer (some ⟨a, 0, none⟩), .pointer (some ⟨C, 0, none⟩)] W fun en w' => en = .returned (.int .i64 0) ∧ Q w' := by
 have H := Lib.hid HA
 have x0 : W.cell? ⟨C, 0, none⟩ = some (.int .i64 ((e.seq : Nat) : Int)) := hc.cell 0
 have x1 : W.cell? ⟨C, 1, none⟩ = some (.string e.key) := hc.cell 1
 have x2 : W.cell? ⟨C, 2, none⟩ = some (.bool e.del) := hc.cell 2
 have x3 : W.cell? ⟨C, 3, none⟩ = some (.int .i64 ((e.slot : Nat) : Int)) := hc.cell 3
 have x4 : W.cell? ⟨C, 4, none⟩ = some (.int .i64 ((e.off : Nat) : Int)) := hc.cell 4
 have x5 : W.cell? ⟨C, 5, none⟩ = some (.int .i64 ((e.size : Nat) : Int)) := hc.cell 5
 clear HA hc
 unfold Ent.val at H
 go_enter Tryz.func151, Tryz.ntmps151
 go_wp2_with (first | (go_at_call 64; refine H.out.mono ?_; rintro en w1 ⟨rfl, hQ⟩) | go_in)
 go_ret
 exact ⟨rfl, hQ⟩
theorem copy1_fit {W : World} {F a b c L : Nat} (hF : W.cell? ⟨F, 0, none⟩ = some (.bool true)) :
 Calls Tryz.prog 146 #[.pointer (some ⟨F, 0, none⟩), .pointer (some ⟨a, 0, none⟩), .pointer (some ⟨b, 0, none⟩), .pointer (some ⟨c, 0, none⟩), .pointer (some ⟨L, 0, none⟩)] W fun e w' => e = .returned (.int .i64 0) ∧ Old W w' := by
 go_enter Tryz.func146, Tryz.ntmps146
 go_wp2
 go_ret
 exact ⟨rfl, Upd.refl _ _⟩
theorem copy1_new {W : World} {F a b c L D B X j : Nat} {v0 : Value} {t : TypeId} {Q : World → Prop} {G : Nat → Prop} {z : Int} (hF : W.cell? ⟨F, 0, none⟩ = some (.bool false)) (ha : W.cell? ⟨a, 0, none⟩ = some (.pointer (some ⟨D, 0, none⟩))) (hb : W.cell? ⟨b, 0, none⟩ = some (.pointer (some ⟨B, 0, none⟩))) (hc : W.cell? ⟨c, 0, none⟩ = some (.pointer (some ⟨X, 0, none⟩))) (hL : Has W L t #[v0])
 (nG : ¬ G b ∧ ¬ G L)
 (HS : Calls Tryz.prog 70 #[.pointer (some ⟨D, 0, none⟩), .pointer (some ⟨B, 0, none⟩), .pointer (some ⟨X, 0, none⟩)] W fun e w' => e = .returned (.tuple #[.int .i64 z, .int .i64 0]) ∧ Upd G W w' ∧ Calls Tryz.prog 147 #[.pointer (some ⟨B, 0, none⟩)] w' fun e w'' => e = .returned (.tuple #[.int .i64 ((j : Nat) : Int), .int .i64 0]) ∧ Upd G w' w'' ∧ Q w'') :
 Calls Tryz.prog 146 #[.pointer (some ⟨F, 0, none⟩), .pointer (some ⟨a, 0, none⟩), .pointer (some ⟨b, 0, none⟩), .pointer (some ⟨c, 0, none⟩), .pointer (some ⟨L, 0, none⟩)] W fun e w' => e = .returned (.int .i64 0) ∧ ∃ w2, Q w2 ∧ Upd G W w2 ∧ w' = w2.setCell ⟨L, 0, none⟩ (.int .i64 ((j : Nat) : Int)) := by
 have H := Lib.hid HS
 have HLL := Lib.hid hL
 have hLl := hL.lt
 obtain ⟨n1, n2⟩ := nG
 clear HS hL
 go_enter Tryz.func146, Tryz.ntmps146
 go_wp2_with (first | (go_at_call 70; refine H.out.mono ?_; rintro e w1 ⟨rfl, hU, hT⟩; have b1 := hU.cellOf hb n1; have H1 := Lib.hid (And.intro hU hT); clear hU hT) | (go_at_call 147; refine H1.out.2.mono ?_; rintro e w2 ⟨rfl, hU2, hQ⟩; have L2 := (H1.out.1.trans hU2).has HLL.out n2; have l0 : w2.cell? ⟨L, 0, none⟩ = some v0 := L2.cell 0; have f0 := L2.frozen 0; have H2 := Lib.hid (And.intro hU2 hQ); clear hU2 hQ L2) | go_in)
 go_ret
 exact ⟨rfl, w2, H2.out.2, H1.out.1.trans H2.out.1, rfl⟩
theorem EIn.box {w w' : World} {col : Col} {PP D B X n r : Nat} {s : DevS} {st : Nat → Nat} {M : ByteArray → List Ent} {x : IdxS} (h : EIn w col PP D B X n s r st M x) {F : Nat → Prop} (U : Upd F w w') (hF : ∀ b, F b → (col b).1 = 0) (hg : ¬ F 0 ∧ ¬ F 3 ∧ ¬ F 1) : EIn w' col PP D B X n s r st M x := by
 have nF : ∀ q, q ≠ 0 → ∀ b, F b → (col b).1 ≠ q := fun q hq b hb h => hq (by rw [← h, hF b hb])
 have sz := U.size
 obtain ⟨K, S, cap, T, Mi, V, hd⟩ := h.dev
 obtain ⟨g1, g2, g3⟩ := hg
 exact ⟨h.pp.upd U (nF 4 (by decide)) (Kept.refl _ _), ⟨K, S, cap, T, Mi, V, hd.other U (nF 1 (by decide)) (Kept.refl _ _)⟩, h.sn, h.up, h.tab.other U (nF 2 (by decide)) (Kept.refl _ _), h.idx.other U (nF 3 (by decide)) (Kept.refl _ _),
  ⟨h.gl.dp.upd U g1, h.gl.db.upd U g2, h.gl.se.upd U g3, h.gl.c1, h.gl.c2, h.gl.c3⟩, h.n4, h.n9, fun b hb => h.new b (by omega)⟩
end Go.M
namespace Go.M
open Go.Proofs Go.RowKit
set_option linter.unusedSimpArgs false
variable {n size zm : Nat} {s : DevS} {st : Nat → Nat} {es : Nat → List Ent} {o : Int}
theorem closed_img (s : DevS) (i : Nat) (fb : List UInt8) (k : Nat) : (synD (appD s i fb) i).img k = if k = i then { s.img i with bs := (s.img i).bs ++ fb, dur := ((s.img i).bs ++ fb).length } else s.img k := by
 unfold synD appD DevS.put
 by_cases h : k = i
 ·simp [h]
 ·simp [h]
theorem POk.closed (ok : POk n size zm s st es o) {i : Nat} (hi : i < n) (hst : st i = 4) {fb : List UInt8} (hl : fb.length = 16) : POk n size zm (synD (appD s i fb) i) (setSt st i 2) es (o + 2) := by
 have hs : ∀ k, k ≠ i → setSt st i 2 k = st k := fun k h => if_neg h
 have hsi : setSt st i 2 i = 2 := if_pos rfl
 have hops : (synD (appD s i fb) i).ops = s.ops + 1 + 1 := rfl
 refine ⟨fun k hk => ?_, fun k hk j hj hkj h14 => ?_, fun k hk y hy => ?_, ok.cop, fun k hk h0 => ?_, fun k hk h0 => ?_, fun k hk h2 => ?_, fun k hk h14 => ?_, fun k hk => ?_, ok.zs, ok.z8, ?_, ?_⟩
 ·by_cases h : k = i
  ·rw [h, hsi]; decide
  ·rw [hs k h]; exact ok.st3 k hk
 ·have h1 : k ≠ i := fun h => by rw [h, hsi] at h14; omega
  have h2 : j ≠ i := fun h => by rw [h, hsi] at hkj; omega
  rw [hs k h1] at hkj h14
  rw [hs j h2] at hkj
  exact ok.one k hk j hj hkj h14
 ·obtain ⟨a1, a2, a3, a4⟩ := ok.ent k hk y hy
  rw [closed_img]
  split
  ·next h =>
   subst h
   simp only [List.length_append]
   exact ⟨a1, by omega, by omega, a4⟩
  ·exact ⟨a1, a2, a3, a4⟩
 ·have h1 : k ≠ i := fun h => by rw [h, hsi] at h0; omega
  rw [hs k h1] at h0
  rw [closed_img, if_neg h1]
  exact ok.free k hk h0
 ·by_cases h : k = i
  ·subst h; exact ok.use k hk (by omega)
  ·rw [hs k h] at h0; exact ok.use k hk h0
 ·unfold unsOf
  rw [closed_img]
  by_cases h : k = i
  ·rw [if_pos h]; simp
  ·rw [if_neg h]
   rw [hs k h] at h2
   exact ok.du k hk h2
 ·have h1 : k ≠ i := fun h => by rw [h, hsi] at h14; omega
  rw [hs k h1] at h14
  rw [closed_img, if_neg h1]
  exact ok.room k hk h14
 ·rw [closed_img]
  split
  ·exact ok.sz i hi
  ·exact ok.sz k hk
 ·have := ok.o0; omega
 ·have := ok.o1; omega
def copyE (s : DevS) (e : Ent) (j : Nat) : Ent := { e with slot := j, off := (s.img j).bs.length }
theorem appD_img (s : DevS) (j : Nat) (rs : List UInt8) (k : Nat) : (appD s j rs).img k = if k = j then { s.img j with bs := (s.img j).bs ++ rs } else s.img k := rfl
theorem POk.copied (ok : POk n size zm s st es o) {e : Ent} (hs : e.slot < n) (he : e ∈ es e.slot) {j : Nat} (hj : j < n) {st1 : Nat → Nat} (hst : (st j = 4 ∧ st1 = st ∧ (s.img j).bs.length + e.size + 16 ≤ size) ∨ (st j = 0 ∧ st1 = setSt st j 4 ∧ ∀ i, i < n → st i ≠ 4)) {rs : List UInt8} (hl : rs.length = e.size) :
 POk n size zm (appD s j rs) st1 (addE es (copyE s e j)) (o + 1) ∧ EntOk1 (copyE s e j) ∧ (∀ y ∈ es j, y.off + y.size ≤ (copyE s e j).off ∧ y.off < (copyE s e j).off) ∧ (∀ i, i < n → ∀ y ∈ es i, y.seq = (copyE s e j).seq → y.key = (copyE s e j).key ∧ y.del = (copyE s e j).del ∧ y.size = (copyE s e j).size) ∧ (s.img j).bs.length + rs.length ≤ (s.img j).sz := by
 obtain ⟨a1, a2, a3, a4⟩ := ok.ent _ hs e he
 have zs := ok.zs
 have z8 := ok.z8
 have hz1 := a1.z1
 have hroom : (s.img j).bs.length + e.size + 16 ≤ size := by
  rcases hst with ⟨_, _, h⟩ | ⟨h, _, _⟩
  ·exact h
  ·rw [(ok.free j hj h).2]
   simp
   omega
 have hsj : st1 j = 4 := by
  rcases hst with ⟨h, rfl, _⟩ | ⟨_, rfl, _⟩
  ·exact h
  ·exact if_pos rfl
 have hsk : ∀ k, k ≠ j → st1 k = st k := fun k hk => by
  rcases hst with ⟨_, rfl, _⟩ | ⟨_, rfl, _⟩
  ·rfl
  ·exact if_neg hk
 have h4 : ∀ k, k < n → st1 k = 4 → k = j := fun k hk h => by
  rcases hst with ⟨h1, rfl, _⟩ | ⟨h1, rfl, h2⟩
  ·exact ok.one k hk j hj (by rw [h, h1]) (.inr h)
  ·by_cases hkj : k = j
   ·exact hkj
   ·rw [setSt, if_neg hkj] at h
    exact absurd h (h2 k hk)
 have hcp : ∀ i, i < n → ∀ y ∈ es i, y.seq = e.seq → y.key = e.key ∧ y.del = e.del ∧ y.size = e.size := fun i hi y hy hq => ok.cop i hi y hy _ hs e he hq
 have hmem : ∀ k y, y ∈ addE es (copyE s e j) k → (k = j ∧ y = copyE s e j) ∨ y ∈ es k := fun k y hy => by
  unfold addE at hy
  split at hy
  ·next h =>
   rcases List.mem_append.1 hy with hy | hy
   ·exact .inr hy
   ·simp at hy
    exact .inl ⟨h, hy⟩
  ·exact .inr hy
 refine ⟨⟨fun k hk => ?_, fun k hk i hi hki h14 => ?_, fun k hk y hy => ?_, fun k hk y hy i hi z hz hq => ?_, fun k hk h0 => ?_, fun k hk h0 => ?_, fun k hk h2 => ?_, fun k hk h14 => ?_, fun k hk => ?_, zs, z8, ?_, ?_⟩, ⟨a1.key, a1.s1, a1.s2, a1.z1, a1.z2, ?_⟩, fun y hy => ?_, hcp, ?_⟩
 ·by_cases h : k = j
  ·rw [h, hsj]; decide
  ·rw [hsk k h]; exact ok.st3 k hk
 ·rcases h14 with h1 | h1
  ·have k1 : k ≠ j := fun h => by rw [h, hsj] at h1; omega
   have i1 : i ≠ j := fun h => by rw [h, hsj] at hki; omega
   rw [hsk k k1] at hki h1
   rw [hsk i i1] at hki
   exact ok.one k hk i hi hki (.inl h1)
  ·rw [h4 k hk h1, h4 i hi (by rw [← hki]; exact h1)]
 ·rw [appD_img]
  rcases hmem k y hy with ⟨h1, h2⟩ | hy
  ·subst h1 h2
   rw [if_pos rfl]
   simp only [List.length_append]
   refine ⟨⟨a1.key, a1.s1, a1.s2, a1.z1, a1.z2, ?_⟩, ?_, ?_, a4⟩
   ·show (s.img k).bs.length + e.size ≤ 8192; omega
   ·show (s.img k).bs.length + e.size ≤ _; omega
   ·show (s.img k).bs.length < _; omega
  ·obtain ⟨b1, b2, b3, b4⟩ := ok.ent k hk y hy
   split
   ·next h =>
    subst h
    simp only [List.length_append]
    exact ⟨b1, by omega, by omega, b4⟩
   ·exact ⟨b1, b2, b3, b4⟩
 ·rcases hmem k y hy with ⟨h1, h2⟩ | hy
  ·rcases hmem i z hz with ⟨h3, h4⟩ | hz
   ·rw [h2, h4]; exact ⟨rfl, rfl, rfl⟩
   ·subst h2
    obtain ⟨c1, c2, c3⟩ := hcp i hi z hz hq.symm
    exact ⟨c1.symm, c2.symm, c3.symm⟩
  ·rcases hmem i z hz with ⟨h3, h4⟩ | hz
   ·subst h4
    exact hcp k hk y hy hq
   ·exact ok.cop k hk y hy i hi z hz hq
 ·have h1 : k ≠ j := fun h => by rw [h, hsj] at h0; omega
  rw [hsk k h1] at h0
  rw [appD_img, if_neg h1]
  obtain ⟨c1, c2⟩ := ok.free k hk h0
  refine ⟨?_, c2⟩
  show (if k = j then es k ++ [copyE s e j] else es k) = []
  rw [if_neg h1]
  exact c1
 ·unfold addE
  split
  ·simp
  ·next h =>
   rw [hsk k (fun e => h e)] at h0
   exact ok.use k hk h0
 ·have h1 : k ≠ j := fun h => by rw [h, hsj] at h2; omega
  rw [hsk k h1] at h2
  unfold unsOf
  rw [appD_img, if_neg h1]
  exact ok.du k hk h2
 ·rw [appD_img]
  by_cases h : k = j
  ·rw [if_pos h]
   simp only [List.length_append]
   omega
  ·rw [if_neg h]
   rw [hsk k h] at h14
   exact ok.room k hk h14
 ·rw [appD_img]
  split
  ·exact ok.sz j hj
  ·exact ok.sz k hk
 ·have := ok.o0
  show 0 ≤ s.ops + 1
  omega
 ·have := ok.o1
  show s.ops + 1 ≤ o + 1
  omega
 ·show (s.img j).bs.length + e.size ≤ 8192
  omega
 ·obtain ⟨b1, b2, b3, b4⟩ := ok.ent j hj y hy
  exact ⟨b2, b3⟩
 ·rw [ok.sz j hj]
  omega
end Go.M
namespace Go.M
open Go.Proofs Go.RowKit
set_option linter.unusedSimpArgs false
def CpG (col : Col) (L Bb C : Nat) (b : Nat) : Prop := EF col b ∨ b = L ∨ b = Bb ∨ b = C
def entC (e : Ent) : Array Value := #[.int .i64 ((e.seq : Nat) : Int), .string e.key, .bool e.del, .int .i64 ((e.slot : Nat) : Int), .int .i64 ((e.off : Nat) : Int), .int .i64 ((e.size : Nat) : Int)]
def CpP (WA : World) (col : Col) (PP D B X n r : Nat) (s1 : DevS) (st1 : Nat → Nat) (M : ByteArray → List Ent) (x : IdxS) (L Bb C j c : Nat) (e : Ent) (rs : List UInt8) (k : Nat) (W : World) : Prop :=
 (k = 0 → W = WA) ∧ (1 ≤ k → ∃ col1 M1 x1, Kept WA col col1 ∧ Upd (CpG col L Bb C) WA W ∧ W.cell? ⟨L, 0, none⟩ = some (.int .i64 ((j : Nat) : Int)) ∧ EIn W col1 PP D B X n (if k < 4 then s1 else appD s1 j rs) r st1 M1 x1 ∧
   (if k < 5 then M1 = M ∧ x1 = x else M1 = addM M (copyE s1 e j) ∧ x1.es = addE x.es (copyE s1 e j) ∧ IdxLe (c + 1) n M1 x1) ∧ Has W C 47 (entC (if k < 3 then e else copyE s1 e j)) ∧ (k < 2 → Has W Bb 77 #[.slice none 0 0]) ∧
   (2 ≤ k → k < 4 → ∃ ad cc, W.cell? ⟨Bb, 0, none⟩ = some (.slice (some ad) rs.length cc) ∧ BytesAt W (.slice (some ad) rs.length cc) rs ∧ (col1 ad.block).1 = 0 ∧ ad.block ≠ C ∧ ad.block < W.heap.size))
def recB (s1 : DevS) (e : Ent) : List UInt8 := ((s1.img e.slot).bs.drop e.off).take e.size
def CpQ (WA : World) (col : Col) (PP D B X n r : Nat) (S1 : DevS → Prop) (st1 : Nat → Nat) (M : ByteArray → List Ent) (x : IdxS) (L Bb C j c : Nat) (e : Ent) (k : Nat) (W : World) : Prop :=
 (k = 0 → W = WA) ∧ (1 ≤ k → ∃ s1, S1 s1 ∧ CpP WA col PP D B X n r s1 st1 M x L Bb C j c e (recB s1 e) k W)
theorem copy_steps {w WA : World} {col : Col} {PP D B X n r : Nat} {S1 : DevS → Prop} {st1 : Nat → Nat} {M : ByteArray → List Ent} {x : IdxS} {H F L Bb C SB j c : Nat} {e : Ent}
 (hc : ∀ b, w.heap.size ≤ b → (col b).1 = 0) (hg : 0 < w.heap.size ∧ 3 < w.heap.size ∧ 1 < w.heap.size) (hH : w.heap.size ≤ H) (hL : H + 3 < L) (hB : L < Bb) (hC : Bb < C) (hS : C < SB) (hSA : SB < WA.heap.size)
 (c0 : WA.cell? ⟨H, 0, none⟩ = some (.pointer (some ⟨D, 0, none⟩))) (c2 : WA.cell? ⟨H + 1 + 1, 0, none⟩ = some (.pointer (some ⟨X, 0, none⟩))) (cE : Has WA (H + 1 + 1 + 1) 47 (entC e))
 (s0 : WA.cell? ⟨SB, 0, none⟩ = some (.func (.func 146) #[] #[.pointer (some ⟨F, 0, none⟩), .pointer (some ⟨H, 0, none⟩), .pointer (some ⟨H + 1, 0, none⟩), .pointer (some ⟨H + 1 + 1, 0, none⟩), .pointer (some ⟨L, 0, none⟩)]))
 (s1' : WA.cell? ⟨SB, 1, none⟩ = some (.func (.func 148) #[] #[.pointer (some ⟨H, 0, none⟩), .pointer (some ⟨H + 1 + 1 + 1, 0, none⟩), .pointer (some ⟨Bb, 0, none⟩)]))
 (s2 : WA.cell? ⟨SB, 2, none⟩ = some (.func (.func 149) #[] #[.pointer (some ⟨L, 0, none⟩), .pointer (some ⟨C, 0, none⟩), .pointer (some ⟨H, 0, none⟩)]))
 (s3 : WA.cell? ⟨SB, 3, none⟩ = some (.func (.func 150) #[] #[.pointer (some ⟨H, 0, none⟩), .pointer (some ⟨L, 0, none⟩), .pointer (some ⟨Bb, 0, none⟩)]))
 (s4 : WA.cell? ⟨SB, 4, none⟩ = some (.func (.func 151) #[] #[.pointer (some ⟨H + 1 + 1, 0, none⟩), .pointer (some ⟨C, 0, none⟩)]))
 (h1 : Calls Tryz.prog 146 #[.pointer (some ⟨F, 0, none⟩), .pointer (some ⟨H, 0, none⟩), .pointer (some ⟨H + 1, 0, none⟩), .pointer (some ⟨H + 1 + 1, 0, none⟩), .pointer (some ⟨L, 0, none⟩)] WA fun en w' => en = .returned (.int .i64 0) ∧ CpQ WA col PP D B X n r S1 st1 M x L Bb C j c e 1 w')
 (hj : j < n) (hes : e.slot < n) (hz : 0 < e.size)
 (hSS : ∀ s1, S1 s1 → e.off + e.size ≤ (s1.img e.slot).bs.length ∧ (s1.img j).bs.length + e.size ≤ (s1.img j).sz ∧ s1.ops < 900000000 ∧ EntOk1 (copyE s1 e j) ∧ (∀ y ∈ x.es j, y.off + y.size ≤ (copyE s1 e j).off ∧ y.off < (copyE s1 e j).off) ∧ (∀ i, i < n → ∀ y ∈ x.es i, y.seq = (copyE s1 e j).seq → y.key = (copyE s1 e j).key ∧ y.del = (copyE s1 e j).del ∧ y.size = (copyE s1 e j).size))
 (hd : ∀ y ∈ x.es j, y.seq ≠ e.seq) (hle : IdxLe c n M x) (hcl : c < 100) :
 Calls Tryz.prog 145 #[.slice (some ⟨SB, 0, none⟩) 5 5] WA fun en w' => en = .returned (.int .i64 0) ∧ CpQ WA col PP D B X n r S1 st1 M x L Bb C j c e 5 w' := by
 have nG : ∀ b, w.heap.size ≤ b → b ≠ L → b ≠ Bb → b ≠ C → ¬ CpG col L Bb C b := fun b hb n1 n2 n3 h => by
  have := hc b hb
  rcases h with h | h | h | h
  ·unfold EF at h; omega
  ·exact n1 h
  ·exact n2 h
  ·exact n3 h
 have hrl : ∀ s1, S1 s1 → (recB s1 e).length = e.size := fun s1 h1 => by have := (hSS s1 h1).1; unfold recB; rw [List.length_take, List.length_drop]; omega
 have col0 : ∀ {col1 : Col}, Kept WA col col1 → ∀ b, w.heap.size ≤ b → b < WA.heap.size → (col1 b).1 = 0 := fun hK b h2 h3 => by rw [hK b h3, hc b h2]
 refine steps5 (a0 := #[.pointer (some ⟨F, 0, none⟩), .pointer (some ⟨H, 0, none⟩), .pointer (some ⟨H + 1, 0, none⟩), .pointer (some ⟨H + 1 + 1, 0, none⟩), .pointer (some ⟨L, 0, none⟩)]) (a1 := #[.pointer (some ⟨H, 0, none⟩), .pointer (some ⟨H + 1 + 1 + 1, 0, none⟩), .pointer (some ⟨Bb, 0, none⟩)]) (a2 := #[.pointer (some ⟨L, 0, none⟩), .pointer (some ⟨C, 0, none⟩), .pointer (some ⟨H, 0, none⟩)]) (a3 := #[.pointer (some ⟨H, 0, none⟩), .pointer (some ⟨L, 0, none⟩), .pointer (some ⟨Bb, 0, none⟩)]) (a4 := #[.pointer (some ⟨H + 1 + 1, 0, none⟩), .pointer (some ⟨C, 0, none⟩)]) (P := CpQ WA col PP D B X n r S1 st1 M x L Bb C j c e) (fun k W hk hP => ?_) ⟨fun _ => rfl, fun h => by omega⟩ ?_ ?_ ?_ ?_ ?_
 ·have U : Upd (CpG col L Bb C) WA W := by
   by_cases h : k = 0
   ·rw [hP.1 h]; exact Upd.refl _ _
   ·obtain ⟨_, _, hP⟩ := hP.2 (by omega)
    obtain ⟨_, _, _, _, U, _⟩ := hP.2 (by omega)
    exact U
  have nS := nG SB (by omega) (by omega) (by omega) (by omega)
  exact ⟨U.cellOf s0 nS, U.cellOf s1' nS, U.cellOf s2 nS, U.cellOf s3 nS, U.cellOf s4 nS⟩
 ·rintro W hP
  rw [hP.1 rfl]
  exact h1
 ·rintro W hP
  obtain ⟨s1, hS1, hP⟩ := hP.2 (by omega)
  obtain ⟨h_on, hfit, ho, hok, hoff, hcp⟩ := hSS s1 hS1
  have hrl := hrl s1 hS1
  obtain ⟨rs, hrs⟩ : ∃ rs, recB s1 e = rs := ⟨_, rfl⟩
  rw [hrs] at hP hrl
  obtain ⟨col1, M1, x1, hK, U, hLc, hE, hM, hCc, hBb, -⟩ := hP.2 (Nat.le_refl _)
  replace hE : EIn W col1 PP D B X n s1 r st1 M1 x1 := hE
  have nH := nG H hH (by omega) (by omega) (by omega)
  have cE' := U.has cE (nG _ (by omega) (by omega) (by omega) (by omega))
  refine (copy2 (rs := rs) (U.cellOf c0 nH) (cE'.cell 3) (cE'.cell 4) (cE'.cell 5) (hBb (by omega)) (by rw [← hrs]; exact hE.read hes h_on hz)).mono ?_
  rintro en w' ⟨rfl, a, m, cc, hB', hbt, U2, hfr⟩
  obtain ⟨ad, c', hv, hal⟩ := hbt.lt (by omega)
  injection hv with hv1 hv2 hv3
  subst hv1 hv2 hv3
  have sW := U.size
  have hBl := (hBb (by omega)).lt
  have hBc : (col1 Bb).1 = 0 := col0 hK Bb (by omega) (by omega)
  have hadW := hfr _ _ _ rfl
  refine ⟨rfl, fun h => by omega, fun _ => ⟨s1, hS1, fun h => by omega, fun _ => by rw [hrs]; exact ⟨col1, M1, x1, hK, U.trans (U2.mono fun b _ hb => .inr (.inr (.inl hb))), U2.cellOf hLc (by omega), hE.box U2 (fun b hb => by rw [hb]; exact hBc) ⟨by omega, by omega, by omega⟩, hM, U2.has hCc (by omega), fun h => by omega, fun _ _ => ⟨ad, cc, hB'.cell 0, hbt, hE.new _ hadW, by omega, hal⟩⟩⟩⟩
 ·rintro W hP
  obtain ⟨s1, hS1, hP⟩ := hP.2 (by omega)
  obtain ⟨h_on, hfit, ho, hok, hoff, hcp⟩ := hSS s1 hS1
  have hrl := hrl s1 hS1
  obtain ⟨rs, hrs⟩ : ∃ rs, recB s1 e = rs := ⟨_, rfl⟩
  rw [hrs] at hP hrl
  obtain ⟨col1, M1, x1, hK, U, hLc, hE, hM, hCc, -, hBy⟩ := hP.2 (by omega)
  obtain ⟨ad, c', hBc, hbt, had, hadC, hadl⟩ := hBy (by omega) (by omega)
  replace hE : EIn W col1 PP D B X n s1 r st1 M1 x1 := hE
  have nH := nG H hH (by omega) (by omega) (by omega)
  have sW := U.size
  have hCcol : (col1 C).1 = 0 := col0 hK C (by omega) (by omega)
  have hbox : ∀ W', Upd (fun b => b = C) W W' → EIn W' col1 PP D B X n s1 r st1 M1 x1 := fun W' U' => hE.box U' (fun b hb => by rw [hb]; exact hCcol) ⟨by omega, by omega, by omega⟩
  refine (copy3 (U.cellOf c0 nH) hLc hCc (by omega) (by omega) (fun W' U' => (hbox W' U').len hj)).mono ?_
  rintro en w' ⟨rfl, hC', U2⟩
  refine ⟨rfl, fun h => by omega, fun _ => ⟨s1, hS1, fun h => by omega, fun _ => by rw [hrs]; exact ⟨col1, M1, x1, hK, U.trans (U2.mono fun b _ hb => .inr (.inr (.inr hb))), U2.cellOf hLc (by omega), hbox _ U2, hM, hC', fun h => by omega, fun _ _ => ⟨ad, c', U2.cellOf hBc (by omega), hbt.upd U2 (fun ad' m' c2 e2 hb => hadC (by injection e2 with e2 _ _; injection e2 with e2; rw [e2]; exact hb)), had, hadC, Nat.lt_of_lt_of_le hadl U2.size⟩⟩⟩⟩
 ·rintro W hP
  obtain ⟨s1, hS1, hP⟩ := hP.2 (by omega)
  obtain ⟨h_on, hfit, ho, hok, hoff, hcp⟩ := hSS s1 hS1
  have hrl := hrl s1 hS1
  obtain ⟨rs, hrs⟩ : ∃ rs, recB s1 e = rs := ⟨_, rfl⟩
  rw [hrs] at hP hrl
  obtain ⟨col1, M1, x1, hK, U, hLc, hE, hM, hCc, -, hBy⟩ := hP.2 (by omega)
  obtain ⟨ad, c', hBc, hbt, had, hadC, hadl⟩ := hBy (by omega) (by omega)
  replace hE : EIn W col1 PP D B X n s1 r st1 M1 x1 := hE
  have nH := nG H hH (by omega) (by omega) (by omega)
  have sW := U.size
  refine (copy4 (U.cellOf c0 nH) hLc hBc ?_)
  refine (hE.append hj hbt (by omega) (by omega) (by omega) (fun ad' m c2 e2 => by injection e2 with e2 _ _; injection e2 with e2; rw [← e2, had]; decide)).mono ?_
  rintro en w' ⟨rfl, col2, hE2, U2, hK2, -⟩
  have n1 : ∀ b, w.heap.size ≤ b → b < WA.heap.size → ¬ (col1 b).1 = 1 := fun b h2 h3 h => by rw [col0 hK b h2 h3] at h; cases h
  refine ⟨rfl, fun h => by omega, fun _ => ⟨s1, hS1, fun h => by omega, fun _ => by rw [hrs]; exact ⟨col2, M1, x1, fun b hb => by rw [hK2 b (Nat.lt_of_lt_of_le hb sW), hK b hb], U.after U2 (fun b hb hf => .inl (by unfold EF; rw [hK b hb] at hf; omega)), U2.cellOf hLc (n1 L (by omega) (by omega)), hE2, hM, U2.has hCc (n1 C (by omega) (by omega)), fun h => by omega, fun _ h => by omega⟩⟩⟩
 ·rintro W hP
  obtain ⟨s1, hS1, hP⟩ := hP.2 (by omega)
  obtain ⟨h_on, hfit, ho, hok, hoff, hcp⟩ := hSS s1 hS1
  have hrl := hrl s1 hS1
  obtain ⟨rs, hrs⟩ : ∃ rs, recB s1 e = rs := ⟨_, rfl⟩
  rw [hrs] at hP hrl
  obtain ⟨col1, M1, x1, hK, U, hLc, hE, hM, hCc, -, -⟩ := hP.2 (by omega)
  obtain ⟨rfl, rfl⟩ : M1 = M ∧ x1 = x := hM
  replace hE : EIn W col1 PP D B X n (appD s1 j rs) r st1 M1 x1 := hE
  have sW := U.size
  refine (copy5 (e := copyE s1 e j) (U.cellOf c2 (nG _ (by omega) (by omega) (by omega) (by omega))) hCc ?_)
  refine (hE.add (c := c) hj hok hoff hd hcp hle hcl).mono ?_
  rintro en w' ⟨rfl, col2, x2, hE2, hx2, hle2, U2, hK2, -⟩
  have n1 : ∀ b, w.heap.size ≤ b → b < WA.heap.size → ¬ (col1 b).1 = 3 := fun b h2 h3 h => by rw [col0 hK b h2 h3] at h; cases h
  refine ⟨rfl, fun h => by omega, fun _ => ⟨s1, hS1, fun h => by omega, fun _ => by rw [hrs]; exact ⟨col2, _, x2, fun b hb => by rw [hK2 b (Nat.lt_of_lt_of_le hb sW), hK b hb], U.after U2 (fun b hb hf => .inl (by unfold EF; rw [hK b hb] at hf; omega)), U2.cellOf hLc (n1 L (by omega) (by omega)), hE2, ⟨rfl, hx2, hle2⟩, U2.has hCc (n1 C (by omega) (by omega)), fun h => by omega, fun _ h => by omega⟩⟩⟩
end Go.M
namespace Go.M
open Go.Proofs Go.RowKit
set_option linter.unusedSimpArgs false
theorem has_new_n {W : World} {t : TypeId} {c : Array Value} {n : Nat} (h : W.heap.size = n) : Has (W.alloc (.cells c t)) n t c := h ▸ Has.new W t c
theorem name_tmps {c : Code} {F : Fence} {n : Nat} {P : Program} {Q : Exit → Act → World → Prop} {a : Act} {w : World} (h : ∀ T, T = a.tmps → c.wpIn F n P Q a w) : c.wpIn F n P Q a w := h _ rfl
theorem POk.mono {n size zm : Nat} {s : DevS} {st : Nat → Nat} {es : Nat → List Ent} {o o' : Int} (h : POk n size zm s st es o) (ho : o ≤ o') : POk n size zm s st es o' :=
 ⟨h.st3, h.one, h.ent, h.cop, h.free, h.use, h.du, h.room, h.sz, h.zs, h.z8, h.o0, by have := h.o1; omega⟩
theorem IdxLe.mono {c c' n : Nat} {M : ByteArray → List Ent} {x : IdxS} (h : IdxLe c n M x) (hc : c ≤ c') : IdxLe c' n M x := by
 obtain ⟨h1, h2, h3⟩ := h
 exact ⟨by omega, fun k => by have := h2 k; omega, fun i hi => by have := h3 i hi; omega⟩
section
variable {w WA : World} {col : Col} {PP D B X n r c H F L Bb C j : Nat} {s : DevS} {st : Nat → Nat} {M : ByteArray → List Ent} {x : IdxS} {e : Ent}
theorem step1_fit (hE : EIn WA col PP D B X n s r st M x) (hF : WA.cell? ⟨F, 0, none⟩ = some (.bool true)) (hL : WA.cell? ⟨L, 0, none⟩ = some (.int .i64 ((j : Nat) : Int))) (hC : Has WA C 47 (entC e)) (hB : Has WA Bb 77 #[.slice none 0 0]) :
 Calls Tryz.prog 146 #[.pointer (some ⟨F, 0, none⟩), .pointer (some ⟨H, 0, none⟩), .pointer (some ⟨H + 1, 0, none⟩), .pointer (some ⟨H + 1 + 1, 0, none⟩), .pointer (some ⟨L, 0, none⟩)] WA fun en w' => en = .returned (.int .i64 0) ∧ CpQ WA col PP D B X n r (fun s1 => s1 = s) st M x L Bb C j c e 1 w' := by
 refine (copy1_fit hF).mono ?_
 rintro en w' ⟨rfl, U⟩
 exact ⟨rfl, fun h => by omega, fun _ => ⟨s, rfl, fun h => by omega, fun _ => ⟨col, M, x, Kept.refl _ _, U.mono (fun _ _ h => h.elim), Old.cellOf' U hL, hE.old U, ⟨rfl, rfl⟩, Old.has U hC, fun _ => Old.has U hB, fun h => by omega⟩⟩⟩
theorem step1_new {S1 : DevS → Prop} {stA : Nat → Nat} {z : Int} {v0 : Value} {t : TypeId} (hc : ∀ b, w.heap.size ≤ b → (col b).1 = 0) (hg : 0 < w.heap.size ∧ 3 < w.heap.size ∧ 1 < w.heap.size) (hH : w.heap.size ≤ H) (hHL : H + 3 < L) (hLB : L < Bb) (hBC : Bb < C) (hCA : C < WA.heap.size)
 (hF : WA.cell? ⟨F, 0, none⟩ = some (.bool false)) (c0 : WA.cell? ⟨H, 0, none⟩ = some (.pointer (some ⟨D, 0, none⟩))) (c1 : WA.cell? ⟨H + 1, 0, none⟩ = some (.pointer (some ⟨B, 0, none⟩))) (c2 : WA.cell? ⟨H + 1 + 1, 0, none⟩ = some (.pointer (some ⟨X, 0, none⟩)))
 (hL : Has WA L t #[v0]) (hC : Has WA C 47 (entC e)) (hB : Has WA Bb 77 #[.slice none 0 0])
 (l4 : lowS stA n 4 = none) (l0 : lowS stA n 0 = some j)
 (HS : Calls Tryz.prog 70 #[.pointer (some ⟨D, 0, none⟩), .pointer (some ⟨B, 0, none⟩), .pointer (some ⟨X, 0, none⟩)] WA fun en w' => en = .returned (.tuple #[.int .i64 z, .int .i64 0]) ∧ ∃ s1 col1, S1 s1 ∧ EIn w' col1 PP D B X n s1 r stA M x ∧ Upd (EF col) WA w' ∧ Kept WA col col1) :
 Calls Tryz.prog 146 #[.pointer (some ⟨F, 0, none⟩), .pointer (some ⟨H, 0, none⟩), .pointer (some ⟨H + 1, 0, none⟩), .pointer (some ⟨H + 1 + 1, 0, none⟩), .pointer (some ⟨L, 0, none⟩)] WA fun en w' => en = .returned (.int .i64 0) ∧ CpQ WA col PP D B X n r S1 (setSt stA j 4) M x L Bb C j c e 1 w' := by
 have nE : ∀ b, w.heap.size ≤ b → b < WA.heap.size → ¬ (EF col b ∨ WA.heap.size ≤ b) := fun b hb hb2 h => by
  have := hc b hb
  rcases h with h | h
  ·unfold EF at h; omega
  ·omega
 refine (copy1_new (j := j) (z := z) (G := fun b => EF col b ∨ WA.heap.size ≤ b) (Q := fun w2 => ∃ s1 col1, S1 s1 ∧ EIn w2 col1 PP D B X n s1 r (setSt stA j 4) M x ∧ Kept WA col col1) hF c0 c1 c2 hL ⟨nE _ (by omega) (by omega), nE _ (by omega) (by omega)⟩ (HS.mono ?_)).mono ?_
 ·rintro en w' ⟨rfl, s1, col1, h1, h2, h3, h4⟩
  refine ⟨rfl, h3.mono (fun b _ h => .inl h), (h2.takeOut l4 l0).mono ?_⟩
  rintro en w2 ⟨rfl, h5, h6⟩
  refine ⟨rfl, h6.mono (fun b _ hb => ?_), s1, col1, h1, h5, h4⟩
  rcases Nat.lt_or_ge b WA.heap.size with hl | hl
  ·left
   unfold EF
   rw [← h4 b hl, hb]
   omega
  ·exact .inr hl
 ·rintro en w' ⟨rfl, w2, ⟨s1, col1, h1, h2, h3⟩, h4, rfl⟩
  have U1 : Upd (EF col) WA w2 := h4.mono (fun b hb h => h.resolve_right (by omega))
  have U2 : Upd (fun b => b = L) w2 (w2.setCell ⟨L, 0, none⟩ (.int .i64 ((j : Nat) : Int))) := (Upd.refl _ w2).setCell _ _ (.inl rfl)
  have sz := U1.size
  have hcL : (col1 L).1 = 0 := by rw [h3 L (by omega), hc L (by omega)]
  have nE1 : ∀ b, w.heap.size ≤ b → ¬ EF col b := fun b hb h => by have := hc b hb; unfold EF at h; omega
  have hL2 := U1.has hL (nE1 L (by omega))
  refine ⟨rfl, fun h => by omega, fun _ => ⟨s1, h1, fun h => by omega, fun _ => ⟨col1, M, x, h3, (U1.mono (fun b _ h => .inl h)).trans (U2.mono (fun b _ h => .inr (.inl h))), ?_, h2.box U2 (fun b hb => by rw [hb]; exact hcL) ⟨by omega, by omega, by omega⟩, ⟨rfl, rfl⟩, U2.has (U1.has hC (nE1 C (by omega))) (by omega), fun _ => U2.has (U1.has hB (nE1 Bb (by omega))) (by omega), fun h => by omega⟩⟩⟩
  have := (hL2.set 0 (.int .i64 ((j : Nat) : Int))).cell 0
  simpa using this
end
structure CpPlan (n size zm : Nat) (x : IdxS) (o : Int) (e : Ent) (j : Nat) (st1 : Nat → Nat) (S1 : DevS → Prop) : Prop where
 hj : j < n
 ss : ∀ s1, S1 s1 → e.off + e.size ≤ (s1.img e.slot).bs.length ∧ (s1.img j).bs.length + e.size ≤ (s1.img j).sz ∧ s1.ops < 900000000 ∧ EntOk1 (copyE s1 e j) ∧ (∀ y ∈ x.es j, y.off + y.size ≤ (copyE s1 e j).off ∧ y.off < (copyE s1 e j).off) ∧ (∀ i, i < n → ∀ y ∈ x.es i, y.seq = (copyE s1 e j).seq → y.key = (copyE s1 e j).key ∧ y.del = (copyE s1 e j).del ∧ y.size = (copyE s1 e j).size)
 hd : ∀ y ∈ x.es j, y.seq ≠ e.seq
 fin : ∀ s1, S1 s1 → POk n size zm (appD s1 j (recB s1 e)) st1 (addE x.es (copyE s1 e j)) (o + 3)
theorem CpPlan.of {n size zm j : Nat} {x : IdxS} {o : Int} {e : Ent} {stA st1 : Nat → Nat} {S1 : DevS → Prop} (hes : e.slot < n) (hee : e ∈ x.es e.slot) (hj : j < n) (ho : o ≤ 800000000) (hd : ∀ y ∈ x.es j, y.seq ≠ e.seq)
 (hS : ∀ s1, S1 s1 → POk n size zm s1 stA x.es (o + 2) ∧ ((stA j = 4 ∧ st1 = stA ∧ (s1.img j).bs.length + e.size + 16 ≤ size) ∨ (stA j = 0 ∧ st1 = setSt stA j 4 ∧ ∀ i, i < n → stA i ≠ 4))) : CpPlan n size zm x o e j st1 S1 := by
 refine ⟨hj, fun s1 h1 => ?_, hd, fun s1 h1 => ?_⟩
 ·obtain ⟨ok, hst⟩ := hS s1 h1
  have hl : (recB s1 e).length = e.size := by
   have := (ok.ent _ hes e hee).2.1
   unfold recB
   rw [List.length_take, List.length_drop]; omega
  obtain ⟨-, a2, a3, a4, a5⟩ := ok.copied hes hee hj hst hl
  exact ⟨(ok.ent _ hes e hee).2.1, by omega, by have := ok.o1; omega, a2, a3, a4⟩
 ·obtain ⟨ok, hst⟩ := hS s1 h1
  have hl : (recB s1 e).length = e.size := by
   have := (ok.ent _ hes e hee).2.1
   unfold recB
   rw [List.length_take, List.length_drop]; omega
  exact (ok.copied hes hee hj hst hl).1.mono (by omega)
theorem lowS_no {st : Nat → Nat} {n k : Nat} (h : ∀ i, i < n → st i ≠ k) : lowS st n k = none := by
 unfold lowS
 rw [List.find?_eq_none]
 intro i hi
 simpa using h i (List.mem_range.1 hi)
theorem lowS_ex {st : Nat → Nat} {n k i : Nat} (hi : i < n) (h : st i = k) : ∃ j, lowS st n k = some j :=
 lowS_of (List.length_pos_of_mem (List.mem_filter.2 ⟨List.mem_range.2 hi, by simp [h]⟩))
section
variable {n size zm j : Nat} {s : DevS} {st : Nat → Nat} {x : IdxS} {o : Int} {e : Ent}
theorem plan_fit (ok : POk n size zm s st x.es o) (ho : o ≤ 800000000) (hes : e.slot < n) (hee : e ∈ x.es e.slot) (hj : j < n) (h4 : st j = 4) (hf : (s.img j).bs.length + e.size + 16 ≤ (s.img j).sz) (hd : ∀ y ∈ x.es j, y.seq ≠ e.seq) : CpPlan n size zm x o e j st (fun s1 => s1 = s) :=
 CpPlan.of (stA := st) hes hee hj ho hd (fun s1 h1 => by rw [show s1 = s from h1]; exact ⟨ok.mono (by omega), .inl ⟨h4, rfl, by rw [← ok.sz j hj]; exact hf⟩⟩)
theorem plan_new (ok : POk n size zm s st x.es o) (ho : o ≤ 800000000) (hes : e.slot < n) (hee : e ∈ x.es e.slot) (l4 : lowS st n 4 = none) (l0 : lowS st n 0 = some j) : CpPlan n size zm x o e j (setSt st j 4) (fun s1 => s1 = s) := by
 obtain ⟨h1, h2⟩ := lowS_some l0
 refine CpPlan.of (stA := st) hes hee h1 ho (fun y hy => by rw [(ok.free j h1 h2).1] at hy; cases hy) (fun s1 h => by rw [show s1 = s from h]; exact ⟨ok.mono (by omega), .inr ⟨h2, rfl, fun i hi => by simpa using lowS_none l4 i hi⟩⟩)
theorem plan_close (ok : POk n size zm s st x.es o) (ho : o ≤ 800000000) (hes : e.slot < n) (hee : e ∈ x.es e.slot) {i : Nat} (l4 : lowS st n 4 = some i) (hf : 0 < cntS st n 0) : ∃ j, lowS (setSt st i 2) n 4 = none ∧ lowS (setSt st i 2) n 0 = some j ∧ CpPlan n size zm x o e j (setSt (setSt st i 2) j 4) (fun s1 => ∃ fb : List UInt8, fb.length = 16 ∧ s1 = synD (appD s i fb) i) := by
 obtain ⟨h1, h2⟩ := lowS_some l4
 obtain ⟨j0, hj0⟩ := lowS_of hf
 obtain ⟨h3, h4⟩ := lowS_some hj0
 have hne : j0 ≠ i := fun e => by rw [e, h2] at h4; cases h4
 have hno : ∀ k, k < n → setSt st i 2 k ≠ 4 := fun k hk e => by
  unfold setSt at e
  split at e
  ·cases e
  ·rename_i hki
   exact hki (ok.one k hk i h1 (by rw [e, h2]) (.inr e))
 obtain ⟨j, hj⟩ := lowS_ex (st := setSt st i 2) (k := 0) h3 (by unfold setSt; rw [if_neg hne]; exact h4)
 obtain ⟨h5, h6⟩ := lowS_some hj
 have hji : j ≠ i := fun e => by rw [e] at h6; simp [setSt] at h6
 have h7 : st j = 0 := by unfold setSt at h6; rwa [if_neg hji] at h6
 refine ⟨j, lowS_no hno, hj, CpPlan.of (stA := setSt st i 2) hes hee h5 ho (fun y hy => by rw [(ok.free j h5 h7).1] at hy; cases hy) (fun s1 h => ?_)⟩
 obtain ⟨fb, hl, rfl⟩ := h
 exact ⟨ok.closed h1 h2 hl, .inr ⟨h6, rfl, hno⟩⟩
end
end Go.M
