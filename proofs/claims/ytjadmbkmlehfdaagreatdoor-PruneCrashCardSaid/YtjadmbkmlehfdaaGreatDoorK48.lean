/- Walks 48. -/
import Derived.Test.YtjadmbkmlehfdaaGreatDoorProg
import Derived.Test.YtjadmbkmlehfdaaGreatDoorK37
import Derived.Test.YtjadmbkmlehfdaaGreatDoorK47
import Derived.Test.YtjadmbkmlehfdaaGreatDoorK22
import Derived.Test.YtjadmbkmlehfdaaGreatDoorK39
import Derived.Test.YtjadmbkmlehfdaaGreatDoorK43
import Derived.Test.YtjadmbkmlehfdaaGreatDoorK44
import Derived.Test.YtjadmbkmlehfdaaGreatDoorK30
set_option linter.unusedVariables false
set_option linter.unusedSimpArgs false
set_option maxRecDepth 100000
namespace Go.M
open Go.Proofs Go.RowKit
set_option linter.unusedSimpArgs false
structure EAr (w : World) (col : Col) (PP D B X n : Nat) (s : DevS) (r : Nat) (st : Nat → Nat) (M : ByteArray → List Ent) (x : IdxS) (a kx : Nat) (dn : Bool) : Prop where
 rest : EIr w col PP D B X n r st M x
 dev : ArmD w col D s a kx dn
 sn : s.n = n
 up : s.down = false
def EF5 (col : Col) (b : Nat) : Prop := EF col b ∨ (col b).1 = 5
theorem AF.ef {col : Col} {b : Nat} (h : AF col b) : EF5 col b := by
 rcases h with h | h
 ·exact .inl ⟨by omega, by omega⟩
 ·exact .inr h
variable {w : World} {col : Col} {PP D B X n r : Nat} {s : DevS} {st : Nat → Nat} {M : ByteArray → List Ent} {x : IdxS} {a kx : Nat} {dn : Bool}
theorem EAr.old {w' : World} (h : EAr w col PP D B X n s r st M x a kx dn) (U : Old w w') : EAr w' col PP D B X n s r st M x a kx dn :=
 ⟨h.rest.old U, h.dev.upd U (fun _ f => f.elim) (Kept.refl _ _), h.sn, h.up⟩
theorem EAr.dsl (h : EAr w col PP D B X n s r st M x a kx dn) : DSl w (.pointer (some ⟨D, 0, none⟩)) n := by
 have := h.dev.dsl h.up
 rwa [h.sn] at this
theorem EAr.rstate (h : EAr w col PP D B X n s r st M x a kx dn) {i : Nat} (hi : i < n) :
 Calls Tryz.prog 57 #[.pointer (some ⟨D, 0, none⟩), .pointer (some ⟨B, 0, none⟩), .pointer (some ⟨X, 0, none⟩), .int .i64 ((i : Nat) : Int)] w fun e w' => e = .returned (.tuple #[.int .i64 ((st i : Nat) : Int), .int .i64 0]) ∧ Old w w' :=
 r_state_ok h.dsl h.rest.tab.tsl h.rest.idx.xsl (by have := h.rest.n9; omega) (by have := h.rest.n4; omega) (fun W U => (h.rest.old U).tab.state hi)
theorem EAr.dev' {w' : World} {s' : DevS} {a' : Nat} (h : EAr w col PP D B X n s r st M x a kx dn) (U : Upd (AF col) w w') (hd : ArmD w' col D s' a' kx dn) (hn : s'.n = n) (hu : s'.down = false) : EAr w' col PP D B X n s' r st M x a' kx dn :=
 ⟨h.rest.upd U (fun b hb => hb), hd, hn, hu⟩
theorem EAr.idx' {w' : World} {col' : Col} {M' : ByteArray → List Ent} {x' : IdxS} (h : EAr w col PP D B X n s r st M x a kx dn) (U : Upd (fun b => (col b).1 = 3) w w') (hk : Kept w col col') (hi : IdxC w' col' 3 X n M' x') (hn : ∀ b, w'.heap.size ≤ b → (col' b).1 = 0) : EAr w' col' PP D B X n s r st M' x' a kx dn :=
 ⟨⟨h.rest.pp.upd U (fun b hb => by rw [hb]; decide) hk, h.rest.tab.other U (fun b hb => by rw [hb]; decide) hk, hi, h.rest.gl.upd U (fun b hb => by rw [hb]; decide) hk, h.rest.n4, h.rest.n9, hn⟩, h.dev.upd U (fun b hb => by rw [hb]; decide) hk, h.sn, h.up⟩
theorem EAr.tab' {w' : World} {r' : Nat} {st' : Nat → Nat} (h : EAr w col PP D B X n s r st M x a kx dn) (U : Upd (fun b => (col b).1 = 2) w w') (ht : TabG w' col 2 B n r' st') : EAr w' col PP D B X n s r' st' M x a kx dn :=
 ⟨⟨h.rest.pp.upd U (fun b hb => by rw [hb]; decide) (Kept.refl _ _), ht, h.rest.idx.other U (fun b hb => by rw [hb]; decide) (Kept.refl _ _), h.rest.gl.upd U (fun b hb => by rw [hb]; decide) (Kept.refl _ _), h.rest.n4, h.rest.n9, fun b hb => h.rest.new b (Nat.le_trans U.size hb)⟩, h.dev.upd U (fun b hb => by rw [hb]; decide) (Kept.refl _ _), h.sn, h.up⟩
def SrcA (n : Nat) (s sx : DevS) : Prop := sx.n = s.n ∧ ∀ k, k < n → (sx.img k).bs = (s.img k).bs ∧ (s.img k).dur ≤ (sx.img k).dur
def SrcB (n i : Nat) (s sx : DevS) : Prop := sx.n = s.n ∧ (sx.img i).bs = [] ∧ ∀ k, k < n → k ≠ i → (sx.img k).bs = (s.img k).bs ∧ (sx.img k).dur = (s.img k).bs.length
def CrF (w : World) (col : Col) (D : Nat) (sx : DevS) (w' : World) : Prop := Upd (EF5 col) w w' ∧ ∃ s' K S cap T M V, Crashed sx s' ∧ DevT w' col 1 D s' K S cap T M V (.pointer none)
theorem CrD.f {w0 w1 : World} {sx : DevS} (h : CrD w col D sx w1) (U : Upd (EF5 col) w0 w) : CrF w0 col D sx w1 := ⟨U.trans (h.1.mono fun b _ hb => hb.ef), h.2⟩
theorem CrF.old {w1 w2 : World} {sx : DevS} (h : CrF w col D sx w1) (U : Old w1 w2) : CrF w col D sx w2 := by
 obtain ⟨h1, s', K, S, cap, T, M, V, h2, h3⟩ := h
 exact ⟨h1.trans (U.mono fun _ _ f => f.elim), s', K, S, cap, T, M, V, h2, h3.other U (fun _ f => f.elim) (Kept.refl _ _)⟩
theorem EAr.erase (h : EAr w col PP D B X n s r st M x a kx dn) {i : Nat} (hi : i < n) (hr : redM M x.es i = true) (h2 : st i = 2) (ok : EOk n s st x 800) (ha : a ≤ 1000000) (ha1 : 1 ≤ a) (hx : kx ≤ 8192) :
 Calls Tryz.prog 14 #[.pointer (some ⟨D, 0, none⟩), .pointer (some ⟨B, 0, none⟩), .pointer (some ⟨X, 0, none⟩), .int .i64 ((i : Nat) : Int)] w fun e w' => ∃ rv : Int, e = .returned (.int .i64 rv) ∧
  ((rv = 0 ∧ cntU s n + 1 < a ∧ Upd (EF5 col) w w' ∧ ∃ col' s' x', EAr w' col' PP D B X n s' r (setSt st i 0) (leftOf M (x.es i)) x' (a - (cntU s n + 1)) kx dn ∧ ErD n i s s' ∧ x'.es = dropE x.es i ∧ Kept w col col') ∨
   (rv = 13 ∧ a ≤ cntU s n + 1 ∧ ∃ sx, (SrcA n s sx ∨ SrcB n i s sx) ∧ CrF w col D sx w')) := by
 have hn := h.sn
 have o0 := ok.o0
 have o1 := ok.o1
 have hcu := cntU_le s n
 have h9 := h.rest.n9
 have hdur : ∀ k, k < n → (s.img k).dur ≤ (s.img k).bs.length := fun k hk => (h.dev.uns h.up (by omega)).1
 obtain ⟨s2, q1, q2, q3, q4, -⟩ := syns_all s n hdur
 have hs2 : s2.n = n ∧ s2.down = false := by
  obtain ⟨h1, h2, -⟩ := syns_n ((List.range n).filter (unsOf s)) s
  rw [q1] at h1 h2
  exact ⟨h1.trans hn, h2.trans h.up⟩
 have ef : ∀ {W W' : World} {q : Nat}, 1 ≤ q → q ≤ 3 → Upd (fun b => (col b).1 = q) W W' → Upd (EF5 col) W W' := fun h1 h3 U => U.mono fun b _ hb => by
  unfold EF5 EF
  rw [hb]
  exact .inl ⟨h1, h3⟩
 refine (r_erase_any (F := EF5 col)
  (P0 := fun W => EAr W col PP D B X n s r st M x a kx dn ∧ Upd (EF5 col) w W)
  (P1 := fun W => cntU s n < a ∧ EAr W col PP D B X n s2 r st M x (a - cntU s n) kx dn ∧ Upd (EF5 col) w W)
  (P2 := fun W => cntU s n + 1 < a ∧ EAr W col PP D B X n (s2.put i { s2.img i with bs := [], dur := 0 }) r st M x (a - (cntU s n + 1)) kx dn ∧ Upd (EF5 col) w W)
  (P3 := fun W => cntU s n + 1 < a ∧ ∃ col' x', EAr W col' PP D B X n (s2.put i { s2.img i with bs := [], dur := 0 }) r st (leftOf M (x.es i)) x' (a - (cntU s n + 1)) kx dn ∧ x'.es = dropE x.es i ∧ Kept w col col' ∧ ∀ b, w.heap.size ≤ b → ¬ (col' b).1 = 2)
  (P4 := fun W => cntU s n + 1 < a ∧ ∃ col' x', EAr W col' PP D B X n (s2.put i { s2.img i with bs := [], dur := 0 }) r (setSt st i 0) (leftOf M (x.es i)) x' (a - (cntU s n + 1)) kx dn ∧ x'.es = dropE x.es i ∧ Kept w col col')
  (PX := fun W => a ≤ cntU s n + 1 ∧ ∃ sx, (SrcA n s sx ∨ SrcB n i s sx) ∧ CrF w col D sx W)
  (fun b hb => ?hF) (fun W W' hp U => ⟨hp.1.old U, hp.2.trans (U.mono fun _ _ f => f.elim)⟩) (fun W W' hp U => ⟨hp.1, hp.2.1.old U, hp.2.2.trans (U.mono fun _ _ f => f.elim)⟩) (fun W W' hp U => by obtain ⟨h1, sx, h2, h3⟩ := hp; exact ⟨h1, sx, h2, h3.old U⟩) ⟨h, Upd.refl _ _⟩ (fun W hp => ?hst) (fun W hp => ?hre) (fun W hp => ?h1) (fun W hp => ?h2) (fun W hp => ?h3) (fun W hp => ?h4)).mono ?hend
 case hF =>
  refine Nat.lt_of_not_le fun hl => ?_
  have := h.rest.new b hl
  unfold EF5 EF at hb
  omega
 case hst =>
  have := hp.1.rstate hi
  rwa [h2] at this
 case hre =>
  have := hp.1.rest.idx.red hi
  rwa [hr] at this
 case h1 =>
  obtain ⟨hp, hs⟩ := hp
  refine (r_sync_arm hp.dev hp.up (by rw [hn]; exact hp.rest.tab.tsl) hp.rest.new (by omega) ha ha1 hx).mono ?_
  rw [hn]
  rintro e w' (⟨rfl, hl, hd', U⟩ | ⟨rfl, hl, pre, hpre, hcr⟩)
  ·rw [q1] at hd'
   exact ⟨_, rfl, .inl ⟨rfl, U.mono (fun b _ hb => hb.ef), hl, hp.dev' U hd' hs2.1 hs2.2, hs.trans (U.mono fun b _ hb => hb.ef)⟩⟩
  ·refine ⟨_, rfl, .inr ⟨rfl, Nat.le_succ_of_le hl, _, .inl ?_, hcr.f hs⟩⟩
   obtain ⟨h1, h2, h3, h4, h5⟩ := syns_n pre s
   refine ⟨h1, fun k hk => ?_⟩
   show ((s.syns pre).img k).bs = _ ∧ _ ≤ ((s.syns pre).img k).dur
   by_cases hm : k ∈ pre
   ·rw [h5 k hm]; exact ⟨rfl, hdur k hk⟩
   ·rw [h4 k hm]; exact ⟨rfl, Nat.le_refl _⟩
 case h2 =>
  obtain ⟨hl, hp, hs⟩ := hp
  obtain ⟨K, S, cap, T, Mi, V, PL, kb, kc, hd, hpl⟩ := hp.dev
  by_cases h2a : 2 ≤ a - cntU s n
  ·refine (dev_erase_go hd hpl hs2.2 i (by rw [hs2.1]; omega) (by omega) (by omega) h2a).mono ?_
   rintro e w' ⟨rfl, ⟨V', hd'⟩, hp', U⟩
   rw [show a - cntU s n - 1 = a - (cntU s n + 1) by omega] at hp'
   exact ⟨_, rfl, .inl ⟨rfl, U.mono (fun b _ hb => hb.ef), by omega, hp.dev' U ⟨_, _, _, _, _, _, _, _, _, hd', hp'⟩ hs2.1 hs2.2, hs.trans (U.mono fun b _ hb => hb.ef)⟩⟩
  ·rw [show a - cntU s n = 1 by omega] at hpl
   cases dn with
   | false =>
    refine (dev_erase_end0 hd hpl hs2.2 i (by rw [hs2.1]; omega) (by omega) hx hp.rest.new).mono ?_
    rintro e w' ⟨rfl, hcr⟩
    exact ⟨_, rfl, .inr ⟨rfl, by omega, { s2 with ops := s2.ops + 1 }, .inl ⟨hs2.1.trans hn.symm, fun k hk => ⟨(q4 k hk).2, by show _ ≤ (s2.img k).dur; rw [(q4 k hk).1, (q4 k hk).2]; exact hdur k hk⟩⟩, hcr.f hs⟩⟩
   | true =>
    refine (dev_erase_end1 hd hpl hs2.2 i (by rw [hs2.1]; omega) (by omega) hx hp.rest.new).mono ?_
    rintro e w' ⟨rfl, hcr⟩
    refine ⟨_, rfl, .inr ⟨rfl, by omega, s2.put i { s2.img i with bs := [], dur := 0 }, .inr ⟨hs2.1.trans hn.symm, by simp [DevS.put], fun k hk hki => ?_⟩, hcr.f hs⟩⟩
    simp only [DevS.put, if_neg hki]
    exact ⟨(q4 k hk).2, by rw [(q4 k hk).1, (q4 k hk).2]⟩
 case h3 =>
  obtain ⟨hl, hp, hs⟩ := hp
  refine (hp.rest.idx.drop hi (ok.ne i hi h2) hp.rest.new (by decide)).mono ?_
  rintro e w' ⟨hk, U, col', x', hi', hx, hkc, hn', hq⟩
  refine ⟨hk, ef (by omega) (by omega) U, hl, col', x', hp.idx' U hkc hi' hn', hx.1, fun b hb => hkc b (Nat.lt_of_lt_of_le hb hs.size), fun b hb e => ?_⟩
  rcases Nat.lt_or_ge b W.heap.size with hl | hl
  ·rw [hkc b hl, h.rest.new b hb] at e; cases e
  ·rcases hq b hl with h5 | h5 <;> omega
 case h4 =>
  obtain ⟨hl, col', x', hp, hx, hkc, hq⟩ := hp
  refine (hp.rest.tab.drop hp.rest.gl.dp hi h2).mono ?_
  rintro e w' ⟨rfl, ht, U⟩
  refine ⟨rfl, U.mono fun b _ hb => ?_, hl, col', x', hp.tab' U ht, hx, hkc⟩
  have hl : b < w.heap.size := Nat.lt_of_not_le fun hl => hq b hl hb
  unfold EF5 EF
  rw [← hkc b hl, hb]
  omega
 case hend =>
  rintro e w' ⟨rv, rfl, ⟨rfl, ⟨hl, col', x', hE, hx, hk⟩, hU⟩ | ⟨rfl, hl, sx, hsx, hcr⟩⟩
  ·refine ⟨_, rfl, .inl ⟨rfl, hl, hU, col', _, x', hE, ⟨?_, fun k hk => ?_, fun k hk => ?_⟩, hx, hk⟩⟩
   ·simp only [DevS.put]; rw [q2]
   ·obtain ⟨a1, a2⟩ := q4 k hk
    by_cases e : k = i
    ·simp [DevS.put, e]
    ·simp [DevS.put, e, a1]
   ·obtain ⟨a1, a2⟩ := q4 k hk
    by_cases e : k = i
    ·simp [DevS.put, e]
    ·simp [DevS.put, e, a2]
  ·exact ⟨_, rfl, .inr ⟨rfl, hl, sx, hsx, hcr⟩⟩
end Go.M
namespace Go.M
open Go.Proofs Go.RowKit
set_option linter.unusedSimpArgs false
theorem dev_copyT {w : World} {col : Col} {D : Nat} {s : DevS} {K S cap T PL kb kc a x : Nat} {dn : Bool} {M : Nat → Nat} {V : Nat → Value} (h : DevT w col 1 D s K S cap T M V (.pointer (some ⟨PL, 0, none⟩))) (p : PlA w col PL kb kc a x dn) :
 Calls Tryz.prog 43 #[.pointer (some ⟨D, 0, none⟩)] w fun e w' => ∃ C, e = .returned (.pointer (some ⟨C, 0, none⟩)) ∧ Old w w' := by
 obtain ⟨td, fd⟩ := h.fd
 obtain ⟨tk, fk⟩ := h.fk
 obtain ⟨tt, ft⟩ := h.ft
 have d0 : w.cell? ⟨D, 0, none⟩ = some (.pointer (some ⟨K, 0, none⟩)) := fd.cell 0
 have d1 : w.cell? ⟨D, 1, none⟩ = some (.pointer (some ⟨T, 0, none⟩)) := fd.cell 1
 have d2 : w.cell? ⟨D, 2, none⟩ = some (.int .i64 ((s.n : Nat) : Int)) := fd.cell 2
 have d3 : w.cell? ⟨D, 3, none⟩ = some (.int .i64 s.ops) := fd.cell 3
 have d4 : w.cell? ⟨D, 4, none⟩ = some (.bool s.down) := fd.cell 4
 have HD := Lib.hid (fun (W : World) (U : Old w W) => disk_copy (w := W) (K := K) (S := S) (cap := cap) (n := s.n) (img := s.img) (M := M) (V := V) (Old.cellOf' U (fk.cell 0)) (fun i hi => Old.cellOf' U (h.fs i hi)) (fun i hi => by
  obtain ⟨⟨t, hM⟩, own, h3, h4, h5, h6⟩ := h.fm i hi
  exact ⟨⟨t, Old.has U hM⟩, U.own own (fun _ _ x => x), h3, h4, h5, h6⟩) h.hi)
 have HT := Lib.hid (fun (W : World) (U : Old w W) => tm_copy1 (w := W) (T := T) (Old.cellOf' U (ft.cell 0)) (Old.cellOf' U (ft.cell 1)) (U.has p.pl) (show One W kb x from Old.cellOf' U p.kp))
 have hn : 0 < s.n := by have := h.lo; omega
 clear fd fk ft h p
 go_enter Tryz.func43, Tryz.ntmps43
 go_wp2_with go_in
 go_region_held3 (fun x => x.cell? ⟨D, 0, none⟩ = some (.pointer (some ⟨K, 0, none⟩)) ∧ x.cell? ⟨D, 1, none⟩ = some (.pointer (some ⟨T, 0, none⟩)) ∧ x.cell? ⟨D, 2, none⟩ = some (.int .i64 ((s.n : Nat) : Int)) ∧ x.cell? ⟨D, 3, none⟩ = some (.int .i64 s.ops) ∧ x.cell? ⟨D, 4, none⟩ = some (.bool s.down))
  (first | go_keep | (exact ⟨Old.cellOf' U1.out d0, Old.cellOf' U1.out d1, Old.cellOf' U1.out d2, Old.cellOf' U1.out d3, Old.cellOf' U1.out d4⟩) | (exact ⟨Old.cellOf' U2.out d0, Old.cellOf' U2.out d1, Old.cellOf' U2.out d2, Old.cellOf' U2.out d3, Old.cellOf' U2.out d4⟩))
  (first | (go_at_call 111; refine (HD.out _ ?_).mono ?_; (exact (Upd.refl _ w).drew); rintro e w1 ⟨rfl, M', V', v', hC⟩; have HC := Lib.hid hC; have U1 := Lib.hid (show Old w w1 from Upd.trans ((Upd.refl _ w).drew) hC.old); clear hC HD) | (go_at_call 112; refine (HT.out _ U1.out).mono ?_; rintro e w2 ⟨tb, rfl, hO2⟩; have U2 := Lib.hid (Upd.trans U1.out hO2); clear hO2 HT))
 go_wp2
 go_ret
 exact ⟨w2.heap.size, rfl, U2.out.alloc _⟩
def SrcD (n : Nat) (s : DevS) (E : List Nat) (sx : DevS) : Prop := sx.n = s.n ∧ ∀ k, k < n → (k ∈ E → (sx.img k).bs = []) ∧ (k ∉ E → (sx.img k).bs = (s.img k).bs ∧ (s.img k).dur ≤ (sx.img k).dur ∧ (E ≠ [] → (s.img k).bs.length ≤ (sx.img k).dur))
theorem SrcD.a {n : Nat} {s s' sx : DevS} {E : List Nat} (h : SrcD n s E s') (h2 : SrcA n s' sx) : SrcD n s E sx := by
 refine ⟨h2.1.trans h.1, fun k hk => ?_⟩
 obtain ⟨a1, a2⟩ := h.2 k hk
 obtain ⟨b1, b2⟩ := h2.2 k hk
 refine ⟨fun hm => by rw [b1, a1 hm], fun hm => ?_⟩
 obtain ⟨c1, c2, c3⟩ := a2 hm
 exact ⟨b1.trans c1, Nat.le_trans c2 b2, fun hE => Nat.le_trans (c3 hE) b2⟩
theorem SrcD.b {n i : Nat} {s s' sx : DevS} {E : List Nat} (h : SrcD n s E s') (h2 : SrcB n i s' sx) (hd : ∀ k, k < n → (s.img k).dur ≤ (s.img k).bs.length) : SrcD n s (E ++ [i]) sx := by
 refine ⟨h2.1.trans h.1, fun k hk => ?_⟩
 obtain ⟨a1, a2⟩ := h.2 k hk
 refine ⟨fun hm => ?_, fun hm => ?_⟩
 ·by_cases e : k = i
  ·rw [e]; exact h2.2.1
  ·rw [(h2.2.2 k hk e).1]
   refine a1 ?_
   simpa [e] using hm
 ·simp only [List.mem_append, List.mem_singleton, not_or] at hm
  obtain ⟨c1, c2, c3⟩ := a2 hm.1
  obtain ⟨b1, b2⟩ := h2.2.2 k hk hm.2
  have := hd k hk
  rw [c1] at b2
  exact ⟨b1.trans c1, by omega, fun _ => by omega⟩
variable {w : World} {col : Col} {PP D B X n r : Nat} {s : DevS} {st : Nat → Nat} {M : ByteArray → List Ent} {x : IdxS} {a kx : Nat} {dn : Bool}
theorem EAr.dcopy (h : EAr w col PP D B X n s r st M x a kx dn) :
 Calls Tryz.prog 43 #[.pointer (some ⟨D, 0, none⟩)] w fun e w' => ∃ C, e = .returned (.pointer (some ⟨C, 0, none⟩)) ∧ Old w w' := by
 obtain ⟨K, S, cap, T, Mi, V, PL, kb, kc, hd, hp⟩ := h.dev
 exact dev_copyT hd hp
def CrG (w : World) (col : Col) (D : Nat) (sx : DevS) (w' : World) : Prop := Upd (EF5 col) w w' ∧ ∃ col2 s' K S cap T M V, Kept w col col2 ∧ Crashed sx s' ∧ DevT w' col2 1 D s' K S cap T M V (.pointer none)
def totA (c l k : Nat) : Nat := if k = 0 then c + l else l - k
structure RuA (w : World) (col : Col) (PP D B X n r : Nat) (s : DevS) (st : Nat → Nat) (M : ByteArray → List Ent) (x : IdxS) (kx : Nat) (dn : Bool) (L : List Nat) (k : Nat) (w' : World) : Prop where
 e : ∃ col' s' st' M' x' a', EAr w' col' PP D B X n s' r st' M' x' a' kx dn ∧ (M', x'.es) = (L.take k).foldl dropX (M, x.es) ∧ (∀ i, st' i = if i ∈ L.take k then 0 else st i) ∧ SrcD n s (L.take k) s' ∧ EOk n s' st' x' (700 + 10 * (k : Int)) ∧ Kept w col col' ∧ 1 ≤ a' ∧ a' ≤ totA (cntU s n) L.length k ∧ (k = 0 → cntU s' n = cntU s n) ∧ (k ≠ 0 → cntU s' n = 0)
 u : Upd (EF5 col) w w'
theorem RuA.next {w1 : World} {L : List Nat} {k y : Nat} (h : RuA w col PP D B X n r s st M x kx dn L k w1) (hy : L[k]? = some y) (hn : ∀ b, w.heap.size ≤ b → (col b).1 = 0) (hl9 : L.length ≤ 9) (hyn : y < n) (h2 : st y = 2) (hL : y ∉ L.take k) (hr : redM ((L.take k).foldl dropX (M, x.es)).1 ((L.take k).foldl dropX (M, x.es)).2 y = true) (hx : kx ≤ 8192) (hd : ∀ k, k < n → (s.img k).dur ≤ (s.img k).bs.length) :
 Calls Tryz.prog 14 #[.pointer (some ⟨D, 0, none⟩), .pointer (some ⟨B, 0, none⟩), .pointer (some ⟨X, 0, none⟩), .int .i64 ((y : Nat) : Int)] w1 fun e w' => ∃ rv : Int, e = .returned (.int .i64 rv) ∧
  ((rv = 0 ∧ RuA w col PP D B X n r s st M x kx dn L (k + 1) w') ∨ (rv = 13 ∧ ∃ j sx, j ≤ L.length ∧ SrcD n s (L.take j) sx ∧ CrG w col D sx w')) := by
 obtain ⟨⟨col', s', st', M', x', a', hE, hX, hst, hsr, ok, hk, ha1, ha, hc0, hc1⟩, hu⟩ := h
 have hkl : k < L.length := (List.getElem?_eq_some_iff.1 hy).1
 have hX1 : M' = ((L.take k).foldl dropX (M, x.es)).1 := congrArg Prod.fst hX
 have hX2 : x'.es = ((L.take k).foldl dropX (M, x.es)).2 := congrArg Prod.snd hX
 have hcu := cntU_le s n
 have h9 := hE.rest.n9
 have htk : L.take (k + 1) = L.take k ++ [y] := by rw [List.take_add_one, hy]; rfl
 have htot : a' ≤ 1000000 := by unfold totA at ha; split at ha <;> omega
 have fe : ∀ {W W' : World}, Upd (EF5 col') W W' → w1.heap.size ≤ W.heap.size → Upd (EF5 col) w W → Upd (EF5 col) w W' := fun U _ V => V.after U (fun b hb hf => by unfold EF5 EF at hf ⊢; rwa [hk b hb] at hf)
 refine (hE.erase hyn (by rw [hX1, hX2]; exact hr) (by rw [hst, if_neg hL]; exact h2) ⟨ok.ne, ok.du, ok.o0, by have := ok.o1; omega⟩ htot ha1 hx).mono ?_
 rintro e w' ⟨rv, rfl, ⟨rfl, hlt, U, col2, s2, x2, hE2, hD, hx2, hk2⟩ | ⟨rfl, hle, sx, hsx, hcr⟩⟩
 ·have hz2 : cntU s2 n = 0 := by
   unfold cntU
   rw [List.length_eq_zero_iff, List.filter_eq_nil_iff]
   intro i hi
   have := hD.dur i (List.mem_range.1 hi)
   simp [unsOf, this]
  refine ⟨_, rfl, .inl ⟨rfl, ⟨col2, s2, _, _, x2, _, hE2, ?_, fun i => ?_, ?_, ⟨fun i hi hs2 => ?_, fun i hi _ => ?_, ?_, ?_⟩, fun b hb => by rw [hk2 b (Nat.lt_of_lt_of_le hb hu.size), hk b hb], by omega, ?_, fun h => absurd h (by omega), fun _ => hz2⟩, fe U (Nat.le_refl _) hu⟩⟩
  ·rw [htk, List.foldl_append]
   show _ = dropX ((L.take k).foldl dropX (M, x.es)) y
   rw [← hX]
   show (leftOf M' (x'.es y), x2.es) = (leftOf M' (x'.es y), dropE x'.es y)
   rw [hx2]
  ·rw [htk]
   unfold setSt
   by_cases e : i = y
   ·subst e; simp
   ·rw [if_neg e, hst i]
    simp [e]
  ·have hn2 : s2.n = s'.n := hE2.sn.trans hE.sn.symm
   have hsb : SrcB n y s' s2 := ⟨hn2, by rw [hD.img y hyn, if_pos rfl], fun i hi hiy => by rw [hD.dur i hi, hD.img i hi, if_neg hiy]; exact ⟨rfl, rfl⟩⟩
   rw [htk]
   exact hsr.b hsb hd
  ·unfold setSt at hs2
   by_cases e : i = y
   ·rw [if_pos e] at hs2; cases hs2
   ·rw [if_neg e] at hs2
    rw [hx2]
    unfold dropE
    rw [if_neg e]
    exact ok.ne i hi hs2
  ·unfold unsOf
   rw [hD.dur i hi]
   simp
  ·rw [hD.ops]
   have := ok.o0
   omega
  ·rw [hD.ops]
   have := ok.o1
   have := cntU_le s' n
   omega
  ·unfold totA at ha ⊢
   rw [if_neg (by omega)]
   by_cases hk0 : k = 0
   ·rw [if_pos hk0] at ha
    have := hc0 hk0
    omega
   ·rw [if_neg hk0] at ha
    have := hc1 hk0
    omega
 ·refine ⟨_, rfl, .inr ⟨rfl, ?_⟩⟩
  obtain ⟨hc1, s3, K, S, cap, T, Mi, V, hc2, hc3⟩ := hcr
  have hg : CrG w col D sx w' := ⟨fe hc1 (Nat.le_refl _) hu, col', s3, K, S, cap, T, Mi, V, hk, hc2, hc3⟩
  rcases hsx with hsx | hsx
  ·exact ⟨k, sx, by omega, hsr.a hsx, hg⟩
  ·exact ⟨k + 1, sx, by omega, by rw [htk]; exact hsr.b hsx hd, hg⟩
theorem EAr.prun (h : EAr w col PP D B X n s r st M x a kx dn) (ok : EOk n s st x 700) (ha1 : 1 ≤ a) (ha : a ≤ totA (cntU s n) (ordO n st M x).length 0) (hL0 : ordO n st M x ≠ []) (hx : kx ≤ 8192) :
 Calls Tryz.prog 25 #[.pointer (some ⟨D, 0, none⟩), .pointer (some ⟨B, 0, none⟩), .pointer (some ⟨X, 0, none⟩)] w fun e w' => e = .returned (.tuple #[.int .i64 0, .int .i64 13]) ∧ ∃ j sx, j ≤ (ordO n st M x).length ∧ SrcD n s ((ordO n st M x).take j) sx ∧ CrG w col D sx w' := by
 have h9 := h.rest.n9
 have hnew := h.rest.new
 have hdur : ∀ k, k < n → (s.img k).dur ≤ (s.img k).bs.length := fun k hk => (h.dev.uns h.up (by rw [h.sn]; exact hk)).1
 obtain ⟨hnd, hmem⟩ := ordO_len n st M x
 have hLn : (ordO n st M x).length ≤ 9 := by
  have := List.Nodup.length_le_of_subset hnd (fun i hi => List.mem_range.2 (hmem i hi).1)
  rw [List.length_range] at this
  omega
 have HAT : Hid (∀ k y, (ordO n st M x)[k]? = some y → redM (((ordO n st M x).take k).foldl dropX (M, x.es)).1 (((ordO n st M x).take k).foldl dropX (M, x.es)).2 y = true) := Lib.hid (fun k y h => ordL_at 10 (stL st n 2) (M, x.es) k y h)
 have HDC := Lib.hid h.dcopy
 have HO := Lib.hid (fun (W : World) (U : Old w W) => (h.rest.old U).porder ok.ne)
 have HDS := Lib.hid (fun (W : World) (U : Old w W) => d_slots ((h.old U).dsl) (by omega))
 have HXS := Lib.hid (fun (W : World) (U : Old w W) => x_slots ((h.old U).rest.idx.xsl) (by omega))
 have HDD := Lib.hid (fun (W : World) (U : Old w W) => d_down ((h.old U).dsl) (by omega) (by have := h.rest.n4; omega))
 have HR0 : Hid (∀ W, Old w W → RuA W col PP D B X n r s st M x kx dn (ordO n st M x) 0 W) := Lib.hid (fun W U => ⟨⟨col, s, st, M, x, a, h.old U, rfl, fun i => by simp, ⟨rfl, fun k hk => ⟨fun hm => by simp at hm, fun _ => ⟨rfl, Nat.le_refl _, fun hE => absurd rfl hE⟩⟩⟩, ⟨ok.ne, ok.du, ok.o0, by have := ok.o1; simp; omega⟩, Kept.refl _ _, ha1, ha, fun _ => rfl, fun h => absurd rfl h⟩, Upd.refl _ _⟩)
 have HMEM := Lib.hid (And.intro hnd hmem)
 have HDU := Lib.hid hdur
 clear h ok hnd hmem hdur
 generalize ordO n st M x = L at *
 go_enter Tryz.func25, Tryz.ntmps25
 go_wp2_with (first | (go_at_call 43; refine HDC.out.mono ?_; rintro e w1 ⟨C, rfl, hU⟩; have H1 := Lib.hid hU; clear hU) | (go_at_call 24; refine (HO.out _ H1.out).mono ?_; rintro e w2 ⟨v, rfl, h2, h3, h4⟩; have H2 := Lib.hid (And.intro h2 (And.intro (Upd.trans H1.out h3) h4)); have hs1 := H1.out.size; obtain ⟨va, vc, rfl⟩ := own_slice h2; clear h2 h3 h4) | (go_at_call 76; refine (HDS.out _ H2.out.2.1).mono ?_; rintro e w4 ⟨rfl, rfl⟩) | (go_at_call 77; refine (HXS.out _ H2.out.2.1).mono ?_; rintro e w4 ⟨rfl, rfl⟩) | (go_at_call 16; refine (HDD.out _ H2.out.2.1).mono ?_; rintro e w5 ⟨rfl, hU⟩; have H5 := Lib.hid hU; clear hU))
 go_loopw [37] (fun i wr => ∃ k : Nat, k ≤ L.length ∧ i = .int .i64 k ∧ RuA w5 col PP D B X n r s st M x kx dn L k wr) (fun i _ => L.length - (intOf i).toNat)
 case atStart => exact ⟨0, Nat.zero_le _, rfl, HR0.out _ (Upd.trans H2.out.2.1 H5.out)⟩
 case round =>
  obtain ⟨k, hk, rfl, hS⟩ := hrel
  have hkl : k < L.length := by
   refine Nat.lt_of_le_of_ne hk fun e => ?_
   obtain ⟨col', s', st', M', x', a', -, -, -, -, -, -, b1, b2, -, -⟩ := hS.e
   unfold totA at b2
   split at b2
   ·rename_i h0
    exact hL0 (List.eq_nil_of_length_eq_zero (by omega))
   ·omega
  obtain ⟨y, hy⟩ : ∃ y, L[k]? = some y := ⟨L[k], List.getElem?_eq_getElem hkl⟩
  obtain ⟨hnd, hmem⟩ := HMEM.out
  obtain ⟨hyn, hy2⟩ := hmem y (List.mem_of_getElem? hy)
  obtain ⟨g, vc2, hv⟩ := own_block H2.out.1 (by omega)
  injection hv with hv1 hv2 hv3
  subst hv1 hv3
  have hg := H2.out.2.2 g rfl
  have ck : wr.cell? ⟨g, k, none⟩ = some (.int .i64 ((y : Nat) : Int)) := by
   have := (H2.out.1).cells (g := g) rfl k (.int .i64 ((y : Nat) : Int)) (by unfold intsV; rw [List.getElem?_map, hy]; rfl)
   rw [show (⟨g, 0, none⟩ : Addr).add k = ⟨g, k, none⟩ from by unfold Addr.add; split <;> simp_all] at this
   exact hS.u.cellOf (Old.cellOf' H5.out this) (fun e => by have := hnew g (by omega); unfold EF5 EF at e; omega)
  have hsz : w.heap.size ≤ w5.heap.size := (Upd.trans H2.out.2.1 H5.out).size
  have hnx := hS.next hy (fun b hb => hnew b (by omega)) hLn hyn hy2 (fun hm => ?hnot) (HAT.out k y hy) hx HDU.out
  case hnot =>
   obtain ⟨j, hj, hjy⟩ := List.getElem_of_mem hm
   rw [List.getElem_take] at hjy
   rw [List.length_take] at hj
   have hk2 : L[k]'hkl = y := by have := List.getElem?_eq_getElem hkl; rw [hy] at this; injection this with this; exact this.symm
   have := (List.getElem_inj hnd).1 (hjy.trans hk2.symm)
   omega
  have HN := Lib.hid hnx
  clear hnx hS hnd hmem hy
  go_wp2_with (first | (go_at_call 14; refine HN.out.mono ?_; rintro e w6 ⟨rv, rfl, hS6⟩; have HS6 := Lib.hid hS6; clear hS6; refine Hid.out ?_))
  rcases HS6.out with ⟨rfl, h6⟩ | ⟨rfl, h6⟩
  ·have H6 := Lib.hid h6
   clear h6 HS6
   refine Lib.hid ?_
   go_wp2
   go_roundw
   case rel => exact ⟨k + 1, by omega, by go_num, H6.out⟩
   case measure => simp [intOf]; omega
  ·have H6 := Lib.hid h6
   clear h6 HS6
   refine Lib.hid ?_
   go_wp2
   go_ret2
   obtain ⟨j, sx, h1, h2, h3, h4⟩ := H6.out
   have U := Upd.trans H2.out.2.1 H5.out
   obtain ⟨col2, s', K, S, cap, T, Mi, V, q1, q2, q3⟩ := h4
   exact ⟨rfl, j, sx, h1, h2, (U.mono fun _ _ f => f.elim).trans h3, col2, s', K, S, cap, T, Mi, V, fun b hb => q1 b (Nat.lt_of_lt_of_le hb U.size), q2, q3⟩
end Go.M
namespace Go.M
open Go.Proofs Go.RowKit
set_option linter.unusedSimpArgs false
theorem d_arm1 {w : World} {col : Col} {D : Nat} {s : DevS} {K S cap T : Nat} {M : Nat → Nat} {V : Nat → Value} (h : DevAt w col 1 D s K S cap T M V) {kb kc x a : Nat} {dn : Bool} (c : One w kb x) (hx : x ≤ 8192) (ha : a ≤ 1000000) (ha1 : 1 ≤ a) :
 Calls Tryz.prog 13 #[.pointer (some ⟨D, 0, none⟩), .agg #[.int .i64 ((a : Nat) : Int), .bool dn, .slice (some ⟨kb, 0, none⟩) 1 kc]] w fun e w' => e = .returned (.int .i64 0) ∧ Upd (fun b => b = T) w w' ∧ ∃ tT, TArm w T tT a x dn w' := by
 obtain ⟨⟨tD, d⟩, ⟨tK, k⟩, ⟨tT, t⟩, hs, hm, lo, hi2, cD, cK, cS, cT, cM, cV, -, -⟩ := h
 have d1 : w.cell? ⟨D, 1, none⟩ = some (.pointer (some ⟨T, 0, none⟩)) := d.cell 1
 have d2 : w.cell? ⟨D, 2, none⟩ = some (.int .i64 ((s.n : Nat) : Int)) := d.cell 2
 have p0 : 0 < s.n := by omega
 have hTD : T ≠ D := col_ne cT cD (by simp)
 have hDl := d.lt
 have hTl := t.lt
 have g0 : ((a : Int) == 0) = false := by rw [beq_eq_false_iff_ne]; omega
 have g1 : ¬ (a = 0) := by omega
 have HTA := Lib.hid (fun (w' : World) (U : Old w w') => tarm1 (a := a) (kc := kc) (dn := dn) (U.has t) (show One w' kb x from Old.cellOf' U c) hx ha ha1)
 clear k t hs hm cM cV c d
 go_enter Tryz.func13, Tryz.ntmps13
 go_wp2
 obtain ⟨W, hW⟩ : ∃ W, w.alloc (.cells #[.int .i64 ((a : Nat) : Int), .bool dn, .slice (some ⟨kb, 0, none⟩) 1 kc] 50) = W := ⟨_, rfl⟩
 have hO : Old w W := by rw [← hW]; exact (Upd.refl _ _).alloc _
 have hB : Has W w.heap.size 50 #[.int .i64 ((a : Nat) : Int), .bool dn, .slice (some ⟨kb, 0, none⟩) 1 kc] := by rw [← hW]; exact Has.new w _ _
 have z : W.heap.size = w.heap.size + 1 := by rw [← hW]; simp
 have y0 : W.cell? ⟨w.heap.size, 0, none⟩ = some (.int .i64 ((a : Nat) : Int)) := hB.cell 0
 have y1 : W.cell? ⟨w.heap.size, 1, none⟩ = some (.bool dn) := hB.cell 1
 have y2 : W.cell? ⟨w.heap.size, 2, none⟩ = some (.slice (some ⟨kb, 0, none⟩) 1 kc) := hB.cell 2
 have e1 := Old.cellOf' hO d1
 rw [hW]
 clear hW d1 d2
 go_region_held3 (fun x' => x'.cell? ⟨D, 1, none⟩ = some (.pointer (some ⟨T, 0, none⟩)) ∧ x'.cell? ⟨w.heap.size, 0, none⟩ = some (.int .i64 ((a : Nat) : Int)) ∧ x'.cell? ⟨w.heap.size, 1, none⟩ = some (.bool dn) ∧ x'.cell? ⟨w.heap.size, 2, none⟩ = some (.slice (some ⟨kb, 0, none⟩) 1 kc))
  (first | go_keep | (exact ⟨E1, E2, E3, E4⟩))
  (first | (go_at_call 55; refine (HTA.out _ ?_).mono ?_; (exact hO.drew); rintro e w1 ⟨rfl, hU, hT1⟩; have HT1 := Lib.hid hT1; clear hT1; have b8 := hU.has hB.drew (by omega); have E2 := b8.cell 0; have E3 := b8.cell 1; have E4 := b8.cell 2; have E1 := hU.cellOf e1 (Ne.symm hTD); clear b8))
 have hOT := ((hO.mono (G := fun b => b = T) (fun b _ h => h.elim)).drew).trans hU
 have HOT := Lib.hid hOT
 clear HTA hU hOT e1 hB
 go_wp2
 go_ret
 obtain ⟨PL, g, gc, t1, t2, t3, t4, t5, t6, t7⟩ := HT1.out
 have z1 : W.drew.heap.size = w.heap.size + 1 := z
 exact ⟨rfl, HOT.out, tT, PL, g, gc, t1, t2, t3, t4, by omega, by omega, t7⟩
theorem DevAt.arm {w w' : World} {col col' : Col} {D : Nat} {s : DevS} {K S cap T : Nat} {M : Nat → Nat} {V : Nat → Value} (h : DevAt w col 1 D s K S cap T M V) (U : Upd (fun b => b = T) w w') {tT : TypeId} {tv : Value} (ht : Has w' T tT #[.bool true, tv]) (hk : Kept w col col') : DevT w' col' 1 D s K S cap T M V tv := by
 obtain ⟨⟨td, fd⟩, ⟨tk, fk⟩, ⟨tt, ft⟩, fs, fm, lo, hi, cD, cK, cS, cT, cM, cV, o0, o1⟩ := h
 have nF : ∀ b k, col b = (1, k) → k ≠ 3 → ¬ b = T := fun b k hb h3 e => by rw [e, cT] at hb; simp at hb; omega
 refine ⟨⟨td, U.has fd (nF _ _ cD (by omega))⟩, ⟨tk, U.has fk (nF _ _ cK (by omega))⟩, ⟨tT, ht⟩, fun i hi => U.cellOf (fs i hi) (nF _ _ cS (by omega)), fun i hi => ?_, lo, hi, by rw [hk _ fd.lt, cD], by rw [hk _ fk.lt, cK], by rw [hk _ (block_lt_of_cell (fs 0 (by omega))), cS], by rw [hk _ ft.lt, cT], fun i hi => ?_, fun i hi b hb => ?_, o0, o1⟩
 ·obtain ⟨⟨t, m⟩, own, f1, f2, p1, p2⟩ := fm i hi
  exact ⟨⟨t, U.has m (nF _ _ (cM i hi) (by omega))⟩, Upd.own U own (fun b hb => nF _ _ (cV i hi b hb) (by omega)), f1, f2, p1, p2⟩
 ·obtain ⟨⟨t, m⟩, own, f1, f2, p1, p2⟩ := fm i hi
  rw [hk _ m.lt, cM i hi]
 ·obtain ⟨⟨t, m⟩, own, f1, f2, p1, p2⟩ := fm i hi
  rw [hk _ (own_lt' own hb), cV i hi b hb]
variable {w : World} {col : Col} {PP D B X n r : Nat} {s : DevS} {st : Nat → Nat} {M : ByteArray → List Ent} {x : IdxS}
theorem EIn.arm (h : EIn w col PP D B X n s r st M x) {kb kc kx a : Nat} {dn : Bool} (c : One w kb kx) (hx : kx ≤ 8192) (ha : a ≤ 1000000) (ha1 : 1 ≤ a) :
 Calls Tryz.prog 13 #[.pointer (some ⟨D, 0, none⟩), .agg #[.int .i64 ((a : Nat) : Int), .bool dn, .slice (some ⟨kb, 0, none⟩) 1 kc]] w fun e w' => e = .returned (.int .i64 0) ∧ Upd (fun b => (col b).1 = 1) w w' ∧ ∃ col', EAr w' col' PP D B X n s r st M x a kx dn ∧ Kept w col col' := by
 obtain ⟨K, S, cap, T, Mi, V, hd⟩ := h.dev
 refine (d_arm1 hd c hx ha ha1).mono ?_
 rintro e w' ⟨rfl, U, tT, PL, g, gc, t1, t2, t3, t4, t5, t6, t7⟩
 have hk : Kept w col (fun b => if b = PL then (5, 0) else if b = g then (5, 1) else col b) := fun b hb => by simp only; rw [if_neg (by omega), if_neg (by omega)]
 have hF : ∀ b, b = T → (col b).1 = 1 := fun b hb => by rw [hb, hd.cT]
 have lg := World.block_lt_of_cell? w' _ t3
 simp only at lg
 have lP := t2.lt
 refine ⟨rfl, U.mono (fun b _ hb => hF b hb), fun b => if b = PL then (5, 0) else if b = g then (5, 1) else col b, ⟨⟨h.pp.upd U (fun b hb => by rw [hF b hb]; decide) hk, h.tab.other U (fun b hb => by rw [hF b hb]; decide) hk, h.idx.other U (fun b hb => by rw [hF b hb]; decide) hk, h.gl.upd U (fun b hb => by rw [hF b hb]; decide) hk, h.n4, h.n9, fun b hb => ?_⟩, ⟨K, S, cap, T, Mi, V, PL, g, gc, hd.arm U t1 hk, t2, t3, by simp, by simp [Ne.symm t7], t7⟩, h.sn, h.up⟩, hk⟩
 show (if b = PL then ((5 : Nat), (0 : Nat)) else if b = g then (5, 1) else col b).1 = 0
 rw [if_neg (by omega), if_neg (by omega)]
 exact h.new b (Nat.le_trans U.size hb)
theorem restart {w : World} {col : Col} {D : Nat} {s : DevS} {K S cap T : Nat} {M : Nat → Nat} {V : Nat → Value} (h : DevT w col 1 D s K S cap T M V (.pointer none)) :
 Calls Tryz.prog 35 #[.pointer (some ⟨D, 0, none⟩)] w fun e w' => e = .returned (.int .i64 0) ∧ Upd (fun b => b = D) w w' ∧ DevAt w' col 1 D { s with down := false } K S cap T M V := by
 have hall := h
 obtain ⟨⟨tD, d⟩, ⟨tK, k⟩, ⟨tT, t⟩, hs, hm, lo, hi2, cD, cK, cS, cT, cM, cV, o0, o1⟩ := h
 have d2 : w.cell? ⟨D, 2, none⟩ = some (.int .i64 ((s.n : Nat) : Int)) := d.cell 2
 have d4 := d.cell 4
 have f4 := d.frozen 4
 have p0 : 0 < s.n := by omega
 have hDl := d.lt
 have HD := Lib.hid (show DevAt (w.setCell ⟨D, 4, none⟩ (.bool false)) col 1 D { s with down := false } K S cap T M V from by
  have U : Upd (fun b => b = D) w (w.setCell ⟨D, 4, none⟩ (.bool false)) := (Upd.refl _ w).setCell _ _ (.inl rfl)
  have nF : ∀ b k, col b = (1, k) → k ≠ 0 → ¬ b = D := fun b k hb h3 e => by rw [e, cD] at hb; simp at hb; omega
  refine ⟨⟨tD, by simpa using d.set 4 (.bool false)⟩, ⟨tK, U.has k (nF _ _ cK (by omega))⟩, ⟨tT, U.has t (nF _ _ cT (by omega))⟩, fun i hi => U.cellOf (hs i hi) (nF _ _ cS (by omega)), fun i hi => ?_, lo, hi2, cD, cK, cS, cT, cM, cV, o0, o1⟩
  obtain ⟨⟨t, m⟩, own, f1, f2, p1, p2⟩ := hm i hi
  exact ⟨⟨t, U.has m (nF _ _ (cM i hi) (by omega))⟩, Upd.own U own (fun b hb => nF _ _ (cV i hi b hb) (by omega)), f1, f2, p1, p2⟩)
 clear k t hs hm cM cV d hall
 go_enter Tryz.func35, Tryz.ntmps35
 go_wp2_with go_in
 go_ret
 exact ⟨rfl, (Upd.refl _ w).setCell _ _ (.inl rfl), HD.out⟩
end Go.M
namespace Go.M
open Go.Proofs Go.RowKit
set_option linter.unusedSimpArgs false
theorem push_all : ∀ (bs : List UInt8) (r : ByteArray), (bs.map fun b => ((b.toNat : Nat) : Int)).foldl (fun r n => r.push (UInt8.ofNat n.toNat)) r = ⟨r.data ++ bs.toArray⟩
 | [], r => by simp
 | b :: bs, r => by
  simp only [List.map_cons, List.foldl_cons]
  rw [push_all bs]
  simp [ByteArray.push]
theorem conv_at {w : World} {a : Option Addr} {n c : Nat} {bs : List UInt8} (h : BytesAt w (.slice a n c) bs) : (convert 77 9 (.slice a n c)).run Tryz.prog w = .ok (.string ⟨bs.toArray⟩) w := by
 rw [run_convert_bytes_string _ _ _ 5 _ _ _ Tryz.underlying77 Tryz.underlying5 Tryz.underlying9]
 rcases h with ⟨h, rfl⟩ | ⟨ad, c', h, hc⟩
 ·cases h
  rfl
 ·cases h
  have hl := run_loadCells_list (P := Tryz.prog) w ad (bs.map bcell) hc
  rw [List.length_map] at hl
  have e : bs.map bcell = (bs.map fun b => ((b.toNat : Nat) : Int)).map (Value.int .u8) := by simp [bcell, Function.comp_def]
  rw [e] at hl
  rw [run_bytesToString _ _ _ _ _ hl, push_all]
  simp
end Go.M
namespace Go.M
open Go.Proofs Go.RowKit Go.Maps
set_option linter.unusedSimpArgs false
theorem crash_left {n : Nat} {s sx s' : DevS} {E : List Nat} (h : SrcD n s E sx) (hc : Crashed sx s') (hn : s.n = n) (i : Nat) (hi : i < n) :
 (i ∈ E → (s'.img i).bs = []) ∧ (i ∉ E → ∃ k, (s.img i).dur ≤ k ∧ k ≤ (s.img i).bs.length ∧ (s'.img i).bs = (s.img i).bs.take k ∧ (E ≠ [] → k = (s.img i).bs.length)) := by
 obtain ⟨h1, h2⟩ := h
 obtain ⟨a, b⟩ := h2 i hi
 obtain ⟨k, d, q1, q2, q3, q4⟩ := hc.img i (by rw [h1, hn]; omega)
 rw [q4]
 refine ⟨fun hm => by show (sx.img i).bs.take k = []; rw [a hm]; simp, fun hm => ?_⟩
 obtain ⟨b1, b2, b3⟩ := b hm
 rw [b1] at q3
 refine ⟨k, by omega, q3, by show (sx.img i).bs.take k = _; rw [b1], fun hE => ?_⟩
 have := b3 hE
 omega
def CrQ (W : World) (PP n : Nat) (bq : Nat → List UInt8) : Prop := ∀ V, Old W V → ∀ i, i < n → Calls Tryz.prog 33 #[.pointer (some ⟨PP, 0, none⟩), .int .i64 ((i : Nat) : Int)] V fun e w' => (∃ a m c, e = .returned (.slice a m c) ∧ BytesAt w' (.slice a m c) (bq i)) ∧ Old V w'
def LeftB (n : Nat) (s : DevS) (L : List Nat) (j : Nat) (bq : Nat → List UInt8) : Prop := ∀ i, i < n → (i ∈ L.take j → bq i = []) ∧ (i ∉ L.take j → ∃ k, (s.img i).dur ≤ k ∧ k ≤ (s.img i).bs.length ∧ bq i = (s.img i).bs.take k ∧ (0 < j → k = (s.img i).bs.length))
theorem crash_restart {w5 w6 : World} {col : Col} {PP D B X n r : Nat} {s sx : DevS} {st : Nat → Nat} {M : ByteArray → List Ent} {x : IdxS} {a kx : Nat} {dn : Bool} {L : List Nat} {j : Nat} (h : EAr w5 col PP D B X n s r st M x a kx dn) (hP : PP ≠ 0) (hg : CrG w5 col D sx w6) (hs : SrcD n s (L.take j) sx) (hj : j ≤ L.length) :
 Calls Tryz.prog 35 #[.pointer (some ⟨D, 0, none⟩)] w6 fun e w7 => e = .returned (.int .i64 0) ∧ Upd (fun b => b = D) w6 w7 ∧ ∃ bq, CrQ w7 PP n bq ∧ LeftB n s L j bq := by
 obtain ⟨U, col4, s', K, S, cap, T, Mi, V, hk, hc, hd⟩ := hg
 obtain ⟨c0, c7, -, -, cP⟩ := h.rest.pp.resolve_left hP
 have lP : PP < w5.heap.size := World.block_lt_of_cell? w5 _ c7
 have z7 : w6.cell? ⟨PP, 7, none⟩ = some (.pointer (some ⟨D, 0, none⟩)) := U.cellOf c7 (fun hf => by unfold EF5 EF at hf; omega)
 refine (restart hd).mono ?_
 rintro e w7 ⟨rfl, U7, hd7⟩
 have hPD : ¬ PP = D := fun e => by
  have h1 := hd.cD
  rw [← e, hk _ lP] at h1
  rw [h1] at cP
  exact absurd cP (by decide)
 have y7 := U7.cellOf z7 hPD
 refine ⟨rfl, U7, fun i => (s'.img i).bs, fun V' UV i hi => ?_, fun i hi => ?_⟩
 ·exact pbytes (s := { s' with down := false }) (hd7.other UV (fun _ x => x.elim) (Kept.refl _ _)) rfl (Old.cellOf' UV y7) (by show i < s'.n + 2; rw [hc.n, hs.1, h.sn]; omega)
 ·obtain ⟨a1, a2⟩ := crash_left hs hc h.sn i hi
  refine ⟨a1, fun hm => ?_⟩
  obtain ⟨k, q1, q2, q3, q4⟩ := a2 hm
  exact ⟨k, q1, q2, q3, fun hj0 => q4 (fun e => by have := congrArg List.length e; rw [List.length_take, List.length_nil] at this; omega)⟩
theorem crg_cells {w5 w6 : World} {col : Col} {PP D B X n r : Nat} {s sx : DevS} {st : Nat → Nat} {M : ByteArray → List Ent} {x : IdxS} {a kx : Nat} {dn : Bool} (h : EAr w5 col PP D B X n s r st M x a kx dn) (hP : PP ≠ 0) (hg : CrG w5 col D sx w6) : w6.cell? ⟨PP, 7, none⟩ = some (.pointer (some ⟨D, 0, none⟩)) ∧ w6.cell? ⟨PP, 8, none⟩ = some (.pointer (some ⟨B, 0, none⟩)) ∧ w6.cell? ⟨PP, 9, none⟩ = some (.pointer (some ⟨X, 0, none⟩)) := by
 obtain ⟨c0, c7, c8, c9, cP⟩ := h.rest.pp.resolve_left hP
 have hf : ¬ EF5 col PP := fun hf => by unfold EF5 EF at hf; omega
 exact ⟨hg.1.cellOf c7 hf, hg.1.cellOf c8 hf, hg.1.cellOf c9 hf⟩
theorem one_cell (w : World) (t : TypeId) (x : Nat) : One (w.alloc (.cells #[.int .i64 ((x : Nat) : Int)] t)) w.heap.size x := by
 have h : Has (w.alloc (.cells #[.int .i64 ((x : Nat) : Int)] t)) w.heap.size t #[.int .i64 ((x : Nat) : Int)] := Has.new w _ _
 exact h.cell 0
theorem round_old {wr wc wk w5 w6 w7 : World} {col2 col3 : Col} {D : Nat} (h1 : Old wr wc) (hnw : ∀ b, (col2 b).1 ≠ 0 → wr.heap.size ≤ b) (h2 : Old wc wk) (h3 : Upd (fun b => (col2 b).1 = 1) wk w5) (hk : Kept wk col2 col3) (h4 : Upd (EF5 col3) w5 w6) (h5 : Upd (fun b => b = D) w6 w7) (hD : (col3 D).1 = 1) : Old wr w7 := by
 have h12 := h1.trans h2
 have hkw : ∀ b, b < wr.heap.size → (col3 b).1 = 0 := fun b hb => by
  rw [hk b (Nat.lt_of_lt_of_le hb h12.size)]
  refine Nat.eq_zero_of_not_pos fun h => ?_
  have := hnw b (by omega)
  omega
 have h13 := h12.after h3 (fun b hb hf => by have := hnw b (by omega); omega)
 have h14 := h13.after h4 (fun b hb hf => by have := hkw b hb; unfold EF5 EF at hf; omega)
 exact h14.after h5 (fun b hb hf => by have := hkw b hb; rw [hf, hD] at this; cases this)
theorem EAr.cD {w : World} {col : Col} {PP D B X n r : Nat} {s : DevS} {st : Nat → Nat} {M : ByteArray → List Ent} {x : IdxS} {a kx : Nat} {dn : Bool} (h : EAr w col PP D B X n s r st M x a kx dn) : (col D).1 = 1 := by
 obtain ⟨K, S, cap, T, Mi, V, PL, kb, kc, hd, hp⟩ := h.dev
 rw [hd.cD]
theorem LeftB.gone {n : Nat} {s : DevS} {L : List Nat} {j i y : Nat} {bq : Nat → List UInt8} (h : LeftB n s L j bq) (hi : i < j) (hy : L[i]? = some y) (hyn : y < n) : (bq y).length = 0 := by
 rw [(h y hyn).1 (List.mem_of_getElem? (i := i) (by rw [List.getElem?_take, if_pos hi, hy]))]
 rfl
theorem not_take {L : List Nat} {j y : Nat} (hn : L.Nodup) (hy : L[j]? = some y) : y ∉ L.take j := fun hm => by
 obtain ⟨q, hq, hqy⟩ := List.getElem_of_mem hm
 rw [List.getElem_take] at hqy
 rw [List.length_take] at hq
 have hj := (List.getElem?_eq_some_iff.1 hy).1
 have h2 : L[j] = y := (List.getElem?_eq_some_iff.1 hy).2
 have := (List.getElem_inj hn).1 (hqy.trans h2.symm)
 omega
theorem LeftB.stay {n : Nat} {s : DevS} {L : List Nat} {j y : Nat} {bq : Nat → List UInt8} (h : LeftB n s L j bq) (hn : L.Nodup) (hy : L[j]? = some y) (hyn : y < n) (hd : unsOf s y = false) (h0 : 0 < (s.img y).bs.length) : 0 < (bq y).length := by
 obtain ⟨k, q1, q2, q3, -⟩ := (h y hyn).2 (not_take hn hy)
 have hd' : ¬ (s.img y).dur < (s.img y).bs.length := by unfold unsOf at hd; simpa using hd
 rw [q3, List.length_take]
 omega
theorem LeftB.str {n : Nat} {s : DevS} {L : List Nat} {j i : Nat} {bq : Nat → List UInt8} (h : LeftB n s L j bq) (hi : i < n) (hm : i ∉ L.take j) : ∃ old now : ByteArray, (⟨(s.img i).bs.toArray⟩ : ByteArray) = old ∧ (⟨(bq i).toArray⟩ : ByteArray) = now ∧ old.size = (s.img i).bs.length ∧ now.size ≤ old.size ∧ (s.img i).dur ≤ now.size ∧ old.extract 0 now.size = now ∧ (0 < j → now = old) := by
 obtain ⟨k, q1, q2, q3, q4⟩ := (h i hi).2 hm
 have e1 : (⟨(s.img i).bs.toArray⟩ : ByteArray).size = (s.img i).bs.length := by simp [ByteArray.size]
 have e2 : (⟨(bq i).toArray⟩ : ByteArray).size = k := by rw [q3]; simp [ByteArray.size]; omega
 refine ⟨_, _, rfl, rfl, e1, by rw [e1, e2]; exact q2, by rw [e2]; exact q1, ?_, fun hj => ?_⟩
 ·rw [e2, q3]
  ext1
  simp
 ·rw [q3, q4 hj, List.take_length]
theorem bytes_len {w : World} {a : Option Addr} {n c : Nat} {bs : List UInt8} (h : BytesAt w (.slice a n c) bs) : n = bs.length := by
 rcases h with ⟨h, rfl⟩ | ⟨ad, c', h, -⟩
 ·cases h; rfl
 ·cases h; rfl
abbrev OwnN (V : World) (b n : Nat) (D : DataW Unit) : Prop := V.ownsMap Tryz.prog 3 (plainElem Tryz.prog 3) b n D
def posN (L : List Nat) (k i : Nat) : Nat := if i ∈ L.take k then L.idxOf i + 1 else 0
theorem posN_next {L : List Nat} {k y : Nat} (hy : L[k]? = some y) (hn : L.Nodup) (i : Nat) : posN L (k + 1) i = if i = y then k + 1 else posN L k i := by
 have hk := (List.getElem?_eq_some_iff.1 hy).1
 have he : L[k] = y := (List.getElem?_eq_some_iff.1 hy).2
 unfold posN
 rw [List.take_add_one, hy]
 by_cases e : i = y
 ·subst e
  rw [if_pos (by simp), if_pos rfl, ← he, List.Nodup.idxOf_getElem hn]
 ·simp [e]
theorem posN_le {L : List Nat} {j i : Nat} (hj : j ≤ L.length) (hn : L.Nodup) : (0 < posN L L.length i ∧ posN L L.length i ≤ j) ↔ i ∈ L.take j := by
 unfold posN
 rw [List.take_length]
 constructor
 ·rintro ⟨h1, h2⟩
  split at h1
  ·rename_i hm
   rw [if_pos hm] at h2
   have hl := List.idxOf_lt_length_of_mem hm
   rw [List.mem_iff_getElem]
   refine ⟨L.idxOf i, by rw [List.length_take]; omega, ?_⟩
   rw [List.getElem_take]
   exact List.getElem_idxOf hl
  ·omega
 ·intro hm
  have hm2 := List.mem_of_mem_take hm
  rw [if_pos hm2]
  refine ⟨by omega, ?_⟩
  obtain ⟨q, hq, he⟩ := List.getElem_of_mem hm
  rw [List.getElem_take] at he
  rw [List.length_take] at hq
  have hq2 : q < L.length := by omega
  have : L.idxOf i = q := by rw [← he]; exact List.Nodup.idxOf_getElem hn q hq2
  omega
def MapN (D : DataW Unit) (f : Nat → Nat) : Prop := ∀ i : Nat, D.atKey (iLit i) (.lit (iLit 0)) = .lit (iLit (f i))
theorem MapN.empty {L : List Nat} : MapN (.map []) (posN L 0) := fun i => by
 unfold posN
 simp
 rfl
theorem MapN.put {D : DataW Unit} {L : List Nat} {k y : Nat} (h : MapN D (posN L k)) (hm : IsMap D) (hy : L[k]? = some y) (hn : L.Nodup) : MapN (D.put (iLit y) (.lit (iLit (k + 1)))) (posN L (k + 1)) := fun j => by
 rw [posN_next hy hn]
 by_cases e : j = y
 ·subst e
  rw [atKey_put_same hm (show WideAt.IsKeyLit (iLit j) from trivial), if_pos rfl]
 ·rw [atKey_put_other (fun e2 => e (by simp only [Lit.int.injEq, true_and] at e2; omega)), h j, if_neg e]
theorem OwnN.upd {F : Nat → Prop} {V V' : World} {b n : Nat} {D : DataW Unit} (h : OwnN V b n D) (U : Upd F V V') (hF : ¬ F b) : OwnN V' b n D := by
 have hl := World.ownsMap.lt h
 obtain ⟨es, clock, hb, r⟩ := h
 exact ⟨es, clock, (U.keep b hl hF).trans hb, r⟩
theorem zeroI (w : World) : (zeroValue 3).run Tryz.prog w = .ok (.int .i64 0) w := by kernel_rfl
theorem pos_made (w : World) (L : List Nat) : OwnN (w.alloc (.map #[] 0)) w.heap.size 0 (.map []) ∧ MapN (.map []) (posN L 0) :=
 ⟨World.ownsMap_made (H := Unit) w Tryz.prog 3 (plainElem Tryz.prog 3), MapN.empty⟩
theorem look_pos {V : World} {b n i : Nat} {D : DataW Unit} {f : Nat → Nat} (h : OwnN V b n D) (hM : MapN D f) (hi : i ≤ 1000) : (Instr.lookup 82 (.map (some b)) (.int .i64 ((i : Nat) : Int)) false).run Tryz.prog V = .ok (.int .i64 ((f i : Nat) : Int)) V := by
 obtain ⟨v, ps, hrun, hv⟩ := World.ownsMap.lookup h (int_keyed Tryz.underlying3) Tryz.underlying82 (zeroI V) (plainElem_int Tryz.underlying3 (wf_nat (Nat.zero_le _))) (keyOf_int_mk Tryz.underlying3 (wf_nat hi))
 obtain ⟨c, rfl, hz, -⟩ := plainElem_int_inv Tryz.underlying3 hv
 have h1 : D.atKey (iLit i) (.lit (iLit 0)) = .lit (.int .i64 c) := congrArg Prod.fst hz
 rw [hM i] at h1
 injection h1 with h1
 injection h1 with _ h1
 rw [hrun, ← h1]
theorem put_pos {V : World} {b n k y : Nat} {D : DataW Unit} {L : List Nat} (h : OwnN V b n D) (hM : MapN D (posN L k)) (hy : L[k]? = some y) (hn : L.Nodup) (hk : k ≤ 100) (hyn : y ≤ 1000) (hn2 : n ≤ k) :
 ∃ V', (Instr.mapUpdate 82 (.map (some b)) (.int .i64 ((y : Nat) : Int)) (.int .i64 (1 + (k : Int)))).run Tryz.prog V = .ok () V' ∧ (∃ n' D', n' ≤ k + 1 ∧ OwnN V' b n' D' ∧ MapN D' (posN L (k + 1))) ∧ Upd (fun c => c = b) V V' := by
 have hm : IsMap D := World.ownsMap.isMap h
 rw [show (1 : Int) + (k : Int) = ((k + 1 : Nat) : Int) by omega]
 obtain ⟨V', hrun, hown, hgr⟩ := World.ownsMap.update (w := V) h (int_keyed Tryz.underlying3) Tryz.underlying82 (by unfold maxLen; omega) (keyOf_int_mk Tryz.underlying3 (wf_nat hyn)) (plainElem_int Tryz.underlying3 (wf_nat (by omega : k + 1 ≤ 1000)))
 exact ⟨V', hrun, ⟨n + 1, _, by omega, hown, hM.put hm hy hn⟩, (Upd.refl _ V).grown hgr (fun c e => .inl (Option.some.inj e).symm)⟩
end Go.M
