/- Walks 19. -/
import Derived.Test.YtjadmbkmlehfdaaGreatDoorProg
import Derived.Test.YtjadmbkmlehfdaaGreatDoorK18
set_option linter.unusedVariables false
set_option linter.unusedSimpArgs false
set_option maxRecDepth 100000
namespace Go.M
open Go.Proofs Go.RowKit Go.Shelf
set_option maxHeartbeats 1500000 in
theorem do_rec {w : World} {col : Col} {PP D B X : Nat} {k : Cf} {next used : Nat} {act : Bool} {lens : Nat → Nat} {ops kind key size : Nat} (h : PIn w col PP D B X k next used used act lens ops) (ho : ops < 800000) (hk : kind < 256) (hy : key < 256) (hs : size < 256) (h6 : ((kind : Int) % 8 == 6) = false) (hn : next ≤ 99) :
 Calls Tryz.prog 40 #[.pointer (some ⟨PP, 0, none⟩), .agg #[.int .u8 ((kind : Nat) : Int), .int .u8 ((key : Nat) : Int), .int .u8 ((size : Nat) : Int)]] w (DoPost w PP D B X k next ops col) := by
 have hq := h.lts
 have HT0 := Lib.hid (fun (W : World) (U : Old w W) => h.old U (trim_kept w col) hq.1 hq.2)
 have HON : ∃ sv : Nat, (act = true → sv = used - 1 ∧ 0 < used) ∧ Hid (∀ W : World, Old w W → Calls Tryz.prog 10 #[.pointer (some ⟨B, 0, none⟩), .int .i64 1] W fun e w' => e = .returned (.tuple #[.int .i64 ((sv : Nat) : Int), .bool act]) ∧ W = w') := by
  cases act with
  | true => exact ⟨used - 1, fun _ => ⟨rfl, (h.actv rfl).1⟩, Lib.hid (fun W U => (HT0.out W U).tab.only (HT0.out W U).db (h.actv rfl).1)⟩
  | false => exact ⟨0, fun x => (nomatch x), Lib.hid (fun W U => (HT0.out W U).tab.idle)⟩
 obtain ⟨sv, hsv, HON⟩ := HON
 have HSV := Lib.hid hsv
 clear hsv
 have HREC := Lib.hid (fun (W : World) => mrec (w := W) (seq := next) (slots := ((k.n : Nat) : Int)) (sz := ((k.size : Nat) : Int)) (reserve := ((k.reserve : Nat) : Int)) (work := k.c3) (kk := k.c4) (policy := k.c6) hk hy hs h.vv)
 obtain ⟨tP, fP⟩ := h.p
 have p0 : w.cell? ⟨PP, 0, none⟩ = some (.int .i64 ((k.n : Nat) : Int)) := fP.cell 0
 have p1 : w.cell? ⟨PP, 1, none⟩ = some (.int .i64 ((k.size : Nat) : Int)) := fP.cell 1
 have p2 : w.cell? ⟨PP, 2, none⟩ = some (.int .i64 ((k.reserve : Nat) : Int)) := fP.cell 2
 have p3 : w.cell? ⟨PP, 3, none⟩ = some (.int .i64 k.c3) := fP.cell 3
 have p4 : w.cell? ⟨PP, 4, none⟩ = some (.int .i64 k.c4) := fP.cell 4
 have p5 : w.cell? ⟨PP, 5, none⟩ = some (.int .i64 ((k.value : Nat) : Int)) := fP.cell 5
 have p6 : w.cell? ⟨PP, 6, none⟩ = some (.int .i64 k.c6) := fP.cell 6
 have p8 : w.cell? ⟨PP, 8, none⟩ = some (.pointer (some ⟨B, 0, none⟩)) := fP.cell 8
 have p10 : w.cell? ⟨PP, 10, none⟩ = some (.int .i64 ((next : Nat) : Int)) := fP.cell 10
 have HP7 := Lib.hid (show w.cell? ⟨PP, 7, none⟩ = some (.pointer (some ⟨D, 0, none⟩)) from fP.cell 7)
 have HPC := Lib.hid fP
 have hPl := fP.lt
 have HH := Lib.hid h
 clear h fP
 go_enter Tryz.func40, Tryz.ntmps40
 have O1 : Old w (w.alloc (.cells #[.int .u8 ((kind : Nat) : Int), .int .u8 ((key : Nat) : Int), .int .u8 ((size : Nat) : Int)] 92)) := (Upd.refl _ w).alloc _
 have HO1 := HON.out _ O1
 have HO := Lib.hid O1
 clear O1
 go_wp2_with (first | (go_at_call 10; refine HO1.mono ?_; rintro e w1 ⟨rfl, rfl⟩))
 have hm := Has.new w 92 #[.int .u8 ((kind : Nat) : Int), .int .u8 ((key : Nat) : Int), .int .u8 ((size : Nat) : Int)]
 generalize hW : World.alloc w _ = W at HO hm ⊢
 clear hW HO1
 have m0 : W.cell? ⟨w.heap.size, 0, none⟩ = some (.int .u8 ((kind : Nat) : Int)) := hm.cell 0
 have m1 : W.cell? ⟨w.heap.size, 1, none⟩ = some (.int .u8 ((key : Nat) : Int)) := hm.cell 1
 have m2 : W.cell? ⟨w.heap.size, 2, none⟩ = some (.int .u8 ((size : Nat) : Int)) := hm.cell 2
 have r0 := Old.cellOf' HO.out p0
 have r1 := Old.cellOf' HO.out p1
 have r2 := Old.cellOf' HO.out p2
 have r3 := Old.cellOf' HO.out p3
 have r4 := Old.cellOf' HO.out p4
 have r5 := Old.cellOf' HO.out p5
 have r6 := Old.cellOf' HO.out p6
 have r10 := Old.cellOf' HO.out p10
 have hlW := hm.lt
 have hPW : PP < W.heap.size := World.block_lt_of_cell? W _ r10
 have HMM := Lib.hid hm
 clear hm p0 p1 p2 p3 p4 p5 p6 p8 p10
 have P0 : ∀ x : World, Old W x → x.cell? ⟨w.heap.size, 0, none⟩ = some (.int .u8 ((kind : Nat) : Int)) ∧ x.cell? ⟨w.heap.size, 1, none⟩ = some (.int .u8 ((key : Nat) : Int)) ∧ x.cell? ⟨w.heap.size, 2, none⟩ = some (.int .u8 ((size : Nat) : Int)) ∧ x.cell? ⟨PP, 0, none⟩ = some (.int .i64 ((k.n : Nat) : Int)) ∧ x.cell? ⟨PP, 1, none⟩ = some (.int .i64 ((k.size : Nat) : Int)) ∧ x.cell? ⟨PP, 2, none⟩ = some (.int .i64 ((k.reserve : Nat) : Int)) ∧ x.cell? ⟨PP, 3, none⟩ = some (.int .i64 k.c3) ∧ x.cell? ⟨PP, 4, none⟩ = some (.int .i64 k.c4) ∧ x.cell? ⟨PP, 5, none⟩ = some (.int .i64 ((k.value : Nat) : Int)) ∧ x.cell? ⟨PP, 6, none⟩ = some (.int .i64 k.c6) ∧ x.cell? ⟨PP, 10, none⟩ = some (.int .i64 ((next : Nat) : Int)) := fun x U => ⟨Old.cellOf' U m0, Old.cellOf' U m1, Old.cellOf' U m2, Old.cellOf' U r0, Old.cellOf' U r1, Old.cellOf' U r2, Old.cellOf' U r3, Old.cellOf' U r4, Old.cellOf' U r5, Old.cellOf' U r6, Old.cellOf' U r10⟩
 have PA := P0 _ (((Upd.refl (fun _ => False) W).alloc (.cells #[.int .i64 0, .int .i64 0, .string ⟨#[]⟩, .string ⟨#[]⟩] 170)).drew)
 have PB := P0 _ ((Upd.refl (fun _ => False) W).drew)
 go_region_held3 (fun x => x.cell? ⟨w.heap.size, 0, none⟩ = some (.int .u8 ((kind : Nat) : Int)) ∧ x.cell? ⟨w.heap.size, 1, none⟩ = some (.int .u8 ((key : Nat) : Int)) ∧ x.cell? ⟨w.heap.size, 2, none⟩ = some (.int .u8 ((size : Nat) : Int)) ∧ x.cell? ⟨PP, 0, none⟩ = some (.int .i64 ((k.n : Nat) : Int)) ∧ x.cell? ⟨PP, 1, none⟩ = some (.int .i64 ((k.size : Nat) : Int)) ∧ x.cell? ⟨PP, 2, none⟩ = some (.int .i64 ((k.reserve : Nat) : Int)) ∧ x.cell? ⟨PP, 3, none⟩ = some (.int .i64 k.c3) ∧ x.cell? ⟨PP, 4, none⟩ = some (.int .i64 k.c4) ∧ x.cell? ⟨PP, 5, none⟩ = some (.int .i64 ((k.value : Nat) : Int)) ∧ x.cell? ⟨PP, 6, none⟩ = some (.int .i64 k.c6) ∧ x.cell? ⟨PP, 10, none⟩ = some (.int .i64 ((next : Nat) : Int)))
  (first | (with_reducible exact P2) | (with_reducible exact PA) | (with_reducible exact PB) | (exact P0 _ ((((HKD.out.2.2.setCell ⟨W.heap.size, 0, none⟩ (.int .i64 ((kd : Nat) : Int)) (.inr (Nat.le_refl _))).setCell ⟨W.heap.size, 1, none⟩ (.int .i64 ((next : Nat) : Int)) (.inr (Nat.le_refl _))).setCell ⟨W.heap.size, 2, none⟩ (.string (mkeyS (key % 6))) (.inr (Nat.le_refl _))).setCell ⟨W.heap.size, 3, none⟩ (.string val) (.inr (Nat.le_refl _)))) | (exact P0 _ (HKD.out.2.2.alloc _)) | go_keep)
  (first | (go_at_call 102; (with_reducible refine (HREC.out W.drew).mono ?_); rintro e w2 ⟨kd, val, rfl, hv1, hkd, hU2⟩; have HKD := Lib.hid (And.intro hv1 (And.intro hkd ((Upd.refl (fun _ => False) W).drew.trans hU2))); have P2 := P0 _ HKD.out.2.2; clear hv1 hkd hU2) | (go_at_call 102; (with_reducible refine (HREC.out ((W.alloc (.cells #[.int .i64 0, .int .i64 0, .string ⟨#[]⟩, .string ⟨#[]⟩] 170)).drew)).mono ?_); rintro e w2 ⟨kd, val, rfl, hv1, hkd, hU2⟩; have Z := Old.has hU2 ((Has.new W 170 #[.int .i64 0, .int .i64 0, .string ⟨#[]⟩, .string ⟨#[]⟩]).drew); have y0 := Z.frozen 0; have y1 := Z.frozen 1; have y2 := Z.frozen 2; have y3 := Z.frozen 3; have y4 : w2.cell? ⟨W.heap.size, 0, none⟩ = some (.int .i64 0) := Z.cell 0; have y5 : w2.cell? ⟨W.heap.size, 1, none⟩ = some (.int .i64 0) := Z.cell 1; have y6 : w2.cell? ⟨W.heap.size, 2, none⟩ = some (.string ⟨#[]⟩) := Z.cell 2; have y7 : w2.cell? ⟨W.heap.size, 3, none⟩ = some (.string ⟨#[]⟩) := Z.cell 3; have HZ := Lib.hid Z; have HKD := Lib.hid (And.intro hv1 (And.intro hkd (((Upd.refl (fun _ => False) W).alloc (.cells #[.int .i64 0, .int .i64 0, .string ⟨#[]⟩, .string ⟨#[]⟩] 170)).drew.trans hU2))); have P2 := P0 _ HKD.out.2.2; clear hv1 hkd hU2 Z))
 all_goals
  rename_i hHeld
  clear hHeld
  first
   | (obtain ⟨w3, hw3⟩ : ∃ w3, w2.alloc (.cells #[.int .i64 ((kd : Nat) : Int), .int .i64 ((next : Nat) : Int), .string (mkeyS (key % 6)), .string val] 170) = w3 := ⟨_, rfl⟩
      obtain ⟨R, hR⟩ : ∃ R, w2.heap.size = R := ⟨_, rfl⟩
      have H3 : Old W w3 := by rw [← hw3]; exact HKD.out.2.2.alloc _
      have H4 : Has w3 R 170 #[.int .i64 ((kd : Nat) : Int), .int .i64 ((next : Nat) : Int), .string (mkeyS (key % 6)), .string val] := by rw [← hw3, ← hR]; exact Has.new _ _ _
      have H5 : W.heap.size ≤ R := by rw [← hR]; exact HKD.out.2.2.size
      rw [hw3, hR]
      clear hw3 hR)
   | (obtain ⟨w3, hw3⟩ : ∃ w3, ((((w2.setCell ⟨W.heap.size, 0, none⟩ (.int .i64 ((kd : Nat) : Int))).setCell ⟨W.heap.size, 1, none⟩ (.int .i64 ((next : Nat) : Int))).setCell ⟨W.heap.size, 2, none⟩ (.string (mkeyS (key % 6)))).setCell ⟨W.heap.size, 3, none⟩ (.string val)) = w3 := ⟨_, rfl⟩
      obtain ⟨R, hR⟩ : ∃ R, W.heap.size = R := ⟨_, rfl⟩
      have H3 : Old W w3 := by
       rw [← hw3]
       exact (((HKD.out.2.2.setCell ⟨W.heap.size, 0, none⟩ _ (.inr (Nat.le_refl _))).setCell ⟨W.heap.size, 1, none⟩ _ (.inr (Nat.le_refl _))).setCell ⟨W.heap.size, 2, none⟩ _ (.inr (Nat.le_refl _))).setCell ⟨W.heap.size, 3, none⟩ _ (.inr (Nat.le_refl _))
      have H4 : Has w3 R 170 #[.int .i64 ((kd : Nat) : Int), .int .i64 ((next : Nat) : Int), .string (mkeyS (key % 6)), .string val] := by
       rw [← hw3, ← hR]
       have := (((HZ.out.set 0 (.int .i64 ((kd : Nat) : Int))).set 1 (.int .i64 ((next : Nat) : Int))).set 2 (.string (mkeyS (key % 6)))).set 3 (.string val)
       simpa using this
      have H5 : W.heap.size ≤ R := by omega
      rw [hw3, hR]
      clear hw3 y0 y1 y2 y3 y4 y5 y6 y7 HZ hR)
  have O3 := HO.out.trans H3
  have hlR : w.heap.size ≤ R := by omega
  have hv512 := HH.out.vv
  have hENC := Lib.hid (rec_enc (W := w3) (k := k) (next := next) (kd := kd) (val := val) (mkeyS_ok (key % 6)) (by have := HKD.out.1; omega) HKD.out.2.1 HH.out.nx hn)
  have H6 := Lib.hid (And.intro O3 H4)
  have f0 : w3.cell? ⟨R, 0, none⟩ = some (.int .i64 ((kd : Nat) : Int)) := H4.cell 0
  have f1 : w3.cell? ⟨R, 1, none⟩ = some (.int .i64 ((next : Nat) : Int)) := H4.cell 1
  have f2 : w3.cell? ⟨R, 2, none⟩ = some (.string (mkeyS (key % 6))) := H4.cell 2
  have f3 : w3.cell? ⟨R, 3, none⟩ = some (.string val) := H4.cell 3
  cases act with
  | true =>
   obtain ⟨rfl, -⟩ := HSV.out rfl
   have hu := (HH.out.actv rfl).1
   have hun := HH.out.un
   have p7 : w.cell? ⟨PP, 7, none⟩ = some (.pointer (some ⟨D, 0, none⟩)) := HP7.out
   have HRO := Lib.hid (fun (W' : World) (U : Old w W') => (HT0.out W' U).dev.room (i := used - 1) (by omega))
   clear O3 H3 H4 P0 PA PB P2 m0 m1 m2 r0 r1 r2 r3 r4 r5 r6 r10 HREC
   go_wp2_with (first | (go_at_call 103; refine hENC.out.mono ?_; rintro e4 w4 ⟨v, bs, rfl, hb, hl, hU4, hfr⟩; obtain ⟨ad, cc, rfl, hadl⟩ := bytes_some hb (by omega); have O4 := H6.out.1.trans hU4; have s7 : w4.cell? ⟨PP, 7, none⟩ = some (.pointer (some ⟨D, 0, none⟩)) := Old.cellOf' O4 p7; have hfrl : w.heap.size ≤ ad.block := (by have := hfr ad _ _ rfl; have := H6.out.1.size; omega); have H7 := Lib.hid (And.intro O4 (And.intro hb (And.intro hl (Old.has hU4 H6.out.2)))); clear O4 hb hU4 hfr f0 f1 f2 f3 hl) | (go_at_call 104; refine (HRO.out w4 H7.out.1).mono ?_; rintro e5 w5 ⟨rfl, hU5⟩; have H8 := Lib.hid hU5; clear hU5 HRO; refine Hid.out ?_))
   all_goals
    have O5 := H7.out.1.trans H8.out
    have hl := H7.out.2.2.1
    have hCP : trim w col PP = (4, 0) := by rw [trim_kept w col PP hPl, HH.out.cP]
    by_cases hfit : lens (used - 1) + bs.length + 16 ≤ k.size
    ·have TS : TailSt w5 (trim w col) PP D B X k next used used lens ops (.slice (some ad) bs.length cc) bs R kd (mkeyS (key % 6)) val :=
      ⟨HT0.out w5 O5, ⟨H7.out.2.1.old H8.out, fun a n c e => (by injection e with e1 _ _; injection e1 with e1; subst e1; exact ⟨by rw [trim_new hfrl], Nat.lt_of_lt_of_le hadl H8.out.size⟩)⟩, ⟨Old.has H8.out H7.out.2.2.2, by rw [trim_new hlR]⟩, ⟨mkeyS_ok _, mkeyS_size _ (by omega), HKD.out.1, HKD.out.2.1, hl, HH.out.nx, hn⟩, by omega, Nat.le_refl _, hfit⟩
     have HCP := Lib.hid hCP
     have hf1 : (bs.length : Int) ≤ (k.size : Int) - (lens (used - 1) : Int) - 16 := by omega
     have hfl := HH.out.fits (used - 1) (by omega)
     have hz2 := HH.out.z2
     have hw1 : IntKind.i64.wrap ((k.size : Int) - (lens (used - 1) : Int) - 16) = (k.size : Int) - (lens (used - 1) : Int) - 16 := IntWalk.i64_in _ (by omega)
     have HTS5 := Lib.hid TS
     clear TS hl
     refine Lib.hid ?_
     go_wp2
     go_big_quiet (fail)
     have O5q : Old w (w5.drewN nq) := O5.drewN nq
     have HTS := Lib.hid (HTS5.out.old ((Upd.refl (fun _ => False) w5).drewN nq))
     generalize w5.drewN nq = wt at O5q HTS ⊢
     have HPP := Lib.hid (Old.has O5q HPC.out)
     have HCN := Lib.hid (fun (b : Nat) (h : wt.heap.size ≤ b) => (trim_new (col := col) (Nat.le_trans O5q.size h) : trim w col b = (0, 0)))
     have HL := Lib.hid (tail_len HTS.out)
     have HE := Lib.hid (tail_entry HTS.out)
     have HA := Lib.hid (fun (W3 : World) (U : Upd (fun b => b = PP) wt W3) => tail_app HTS.out (by omega) U)
     have HADD := Lib.hid (fun (W3 W4 : World) (col4 : Col) (U : Upd (fun b => b = PP) wt W3) (U4 : Upd (fun b => ((trim w col) b).1 = 1) W3 W4) (k4 : Kept W3 (trim w col) col4) => tail_add HTS.out U U4 k4)
     have s7 : wt.cell? ⟨PP, 7, none⟩ = some (.pointer (some ⟨D, 0, none⟩)) := HPP.out.cell 7
     simp only [tEnt, Ent.val, Nat.add_sub_cancel] at HL HE HA HADD
     go_wp2_with (first | (go_at_call 12; refine HL.out.mono ?_; rintro e9 w9 ⟨rfl, hU9⟩; have g9 := (HTS.out.r.upd hU9 (fun b h => h.elim) (Kept.refl _ _)).1; have g0 : w9.cell? ⟨R, 0, none⟩ = some (.int .i64 ((kd : Nat) : Int)) := g9.cell 0; have g1 : w9.cell? ⟨R, 1, none⟩ = some (.int .i64 ((next : Nat) : Int)) := g9.cell 1; have g2 : w9.cell? ⟨R, 2, none⟩ = some (.string (mkeyS (key % 6))) := g9.cell 2; have g3 : w9.cell? ⟨R, 3, none⟩ = some (.string val) := g9.cell 3; have HU9 := Lib.hid hU9; clear hU9 g9 HL) | (go_at_call 106; refine (HE.out _).mono ?_; rintro e10 w10 ⟨rfl, hU10⟩; have O10 := HU9.out.trans hU10; have z10 : w10.cell? ⟨PP, 10, none⟩ = some (.int .i64 ((next : Nat) : Int)) := (Old.has O10 HPP.out).cell 10; have z11 := (Old.has O10 HPP.out).frozen 10; have hpl10 : PP < w10.heap.size := (Old.has O10 HPP.out).lt; have HO10 := Lib.hid O10; clear hU10 O10 HE g0 g1 g2 g3))
     have H11 := Lib.hid (tail_w3 (PP := PP) HO10.out (.int .i64 ((next : Int) + 1)) (.cells #[.int .i64 ((next : Nat) : Int), .string (mkeyS (key % 6)), .bool (((kd : Nat) : Int) == 2), .int .i64 ((used - 1 : Nat) : Int), .int .i64 ((lens (used - 1) : Nat) : Int), .int .i64 (16 + ((mkeyS (key % 6)).size : Int) + (val.size : Int))] 47))
     have HP11 := Lib.hid (tail_p3 HPP.out HO10.out (.int .i64 ((next : Int) + 1)) (.cells #[.int .i64 ((next : Nat) : Int), .string (mkeyS (key % 6)), .bool (((kd : Nat) : Int) == 2), .int .i64 ((used - 1 : Nat) : Int), .int .i64 ((lens (used - 1) : Nat) : Int), .int .i64 (16 + ((mkeyS (key % 6)).size : Int) + (val.size : Int))] 47))
     have hb11 := tail_box w10 PP (.int .i64 ((next : Int) + 1)) 47 #[.int .i64 ((next : Nat) : Int), .string (mkeyS (key % 6)), .bool (((kd : Nat) : Int) == 2), .int .i64 ((used - 1 : Nat) : Int), .int .i64 ((lens (used - 1) : Nat) : Int), .int .i64 (16 + ((mkeyS (key % 6)).size : Int) + (val.size : Int))]
     have PC : ((w10.setCell ⟨PP, 10, none⟩ (.int .i64 ((next : Int) + 1))).alloc (.cells #[.int .i64 ((next : Nat) : Int), .string (mkeyS (key % 6)), .bool (((kd : Nat) : Int) == 2), .int .i64 ((used - 1 : Nat) : Int), .int .i64 ((lens (used - 1) : Nat) : Int), .int .i64 (16 + ((mkeyS (key % 6)).size : Int) + (val.size : Int))] 47)).cell? ⟨PP, 7, none⟩ = some (.pointer (some ⟨D, 0, none⟩)) ∧ ((w10.setCell ⟨PP, 10, none⟩ (.int .i64 ((next : Int) + 1))).alloc (.cells #[.int .i64 ((next : Nat) : Int), .string (mkeyS (key % 6)), .bool (((kd : Nat) : Int) == 2), .int .i64 ((used - 1 : Nat) : Int), .int .i64 ((lens (used - 1) : Nat) : Int), .int .i64 (16 + ((mkeyS (key % 6)).size : Int) + (val.size : Int))] 47)).cell? ⟨PP, 9, none⟩ = some (.pointer (some ⟨X, 0, none⟩)) ∧ ((w10.setCell ⟨PP, 10, none⟩ (.int .i64 ((next : Int) + 1))).alloc (.cells #[.int .i64 ((next : Nat) : Int), .string (mkeyS (key % 6)), .bool (((kd : Nat) : Int) == 2), .int .i64 ((used - 1 : Nat) : Int), .int .i64 ((lens (used - 1) : Nat) : Int), .int .i64 (16 + ((mkeyS (key % 6)).size : Int) + (val.size : Int))] 47)).cell? ⟨w10.heap.size, 0, none⟩ = some (.int .i64 ((next : Nat) : Int)) ∧ ((w10.setCell ⟨PP, 10, none⟩ (.int .i64 ((next : Int) + 1))).alloc (.cells #[.int .i64 ((next : Nat) : Int), .string (mkeyS (key % 6)), .bool (((kd : Nat) : Int) == 2), .int .i64 ((used - 1 : Nat) : Int), .int .i64 ((lens (used - 1) : Nat) : Int), .int .i64 (16 + ((mkeyS (key % 6)).size : Int) + (val.size : Int))] 47)).cell? ⟨w10.heap.size, 1, none⟩ = some (.string (mkeyS (key % 6))) ∧ ((w10.setCell ⟨PP, 10, none⟩ (.int .i64 ((next : Int) + 1))).alloc (.cells #[.int .i64 ((next : Nat) : Int), .string (mkeyS (key % 6)), .bool (((kd : Nat) : Int) == 2), .int .i64 ((used - 1 : Nat) : Int), .int .i64 ((lens (used - 1) : Nat) : Int), .int .i64 (16 + ((mkeyS (key % 6)).size : Int) + (val.size : Int))] 47)).cell? ⟨w10.heap.size, 2, none⟩ = some (.bool (((kd : Nat) : Int) == 2)) ∧ ((w10.setCell ⟨PP, 10, none⟩ (.int .i64 ((next : Int) + 1))).alloc (.cells #[.int .i64 ((next : Nat) : Int), .string (mkeyS (key % 6)), .bool (((kd : Nat) : Int) == 2), .int .i64 ((used - 1 : Nat) : Int), .int .i64 ((lens (used - 1) : Nat) : Int), .int .i64 (16 + ((mkeyS (key % 6)).size : Int) + (val.size : Int))] 47)).cell? ⟨w10.heap.size, 3, none⟩ = some (.int .i64 ((used - 1 : Nat) : Int)) ∧ ((w10.setCell ⟨PP, 10, none⟩ (.int .i64 ((next : Int) + 1))).alloc (.cells #[.int .i64 ((next : Nat) : Int), .string (mkeyS (key % 6)), .bool (((kd : Nat) : Int) == 2), .int .i64 ((used - 1 : Nat) : Int), .int .i64 ((lens (used - 1) : Nat) : Int), .int .i64 (16 + ((mkeyS (key % 6)).size : Int) + (val.size : Int))] 47)).cell? ⟨w10.heap.size, 4, none⟩ = some (.int .i64 ((lens (used - 1) : Nat) : Int)) ∧ ((w10.setCell ⟨PP, 10, none⟩ (.int .i64 ((next : Int) + 1))).alloc (.cells #[.int .i64 ((next : Nat) : Int), .string (mkeyS (key % 6)), .bool (((kd : Nat) : Int) == 2), .int .i64 ((used - 1 : Nat) : Int), .int .i64 ((lens (used - 1) : Nat) : Int), .int .i64 (16 + ((mkeyS (key % 6)).size : Int) + (val.size : Int))] 47)).cell? ⟨w10.heap.size, 5, none⟩ = some (.int .i64 (16 + ((mkeyS (key % 6)).size : Int) + (val.size : Int))) := ⟨HP11.out.cell 7, HP11.out.cell 9, hb11.cell 0, hb11.cell 1, hb11.cell 2, hb11.cell 3, hb11.cell 4, hb11.cell 5⟩
     have hsz11 : w10.heap.size < ((w10.setCell ⟨PP, 10, none⟩ (.int .i64 ((next : Int) + 1))).alloc (.cells #[.int .i64 ((next : Nat) : Int), .string (mkeyS (key % 6)), .bool (((kd : Nat) : Int) == 2), .int .i64 ((used - 1 : Nat) : Int), .int .i64 ((lens (used - 1) : Nat) : Int), .int .i64 (16 + ((mkeyS (key % 6)).size : Int) + (val.size : Int))] 47)).heap.size := hb11.lt
     clear hb11
     generalize (w10.setCell ⟨PP, 10, none⟩ (.int .i64 ((next : Int) + 1))).alloc (.cells #[.int .i64 ((next : Nat) : Int), .string (mkeyS (key % 6)), .bool (((kd : Nat) : Int) == 2), .int .i64 ((used - 1 : Nat) : Int), .int .i64 ((lens (used - 1) : Nat) : Int), .int .i64 (16 + ((mkeyS (key % 6)).size : Int) + (val.size : Int))] 47) = w11 at H11 HP11 PC hsz11 ⊢
     have hpl11 : PP < w11.heap.size := HP11.out.lt
     obtain ⟨y7, y9, x0, x1, x2, x3, x4, x5⟩ := PC
     have PC : w11.cell? ⟨PP, 7, none⟩ = some (.pointer (some ⟨D, 0, none⟩)) ∧ w11.cell? ⟨PP, 9, none⟩ = some (.pointer (some ⟨X, 0, none⟩)) ∧ w11.cell? ⟨w10.heap.size, 0, none⟩ = some (.int .i64 ((next : Nat) : Int)) ∧ w11.cell? ⟨w10.heap.size, 1, none⟩ = some (.string (mkeyS (key % 6))) ∧ w11.cell? ⟨w10.heap.size, 2, none⟩ = some (.bool (((kd : Nat) : Int) == 2)) ∧ w11.cell? ⟨w10.heap.size, 3, none⟩ = some (.int .i64 ((used - 1 : Nat) : Int)) ∧ w11.cell? ⟨w10.heap.size, 4, none⟩ = some (.int .i64 ((lens (used - 1) : Nat) : Int)) ∧ w11.cell? ⟨w10.heap.size, 5, none⟩ = some (.int .i64 (16 + ((mkeyS (key % 6)).size : Int) + (val.size : Int))) := ⟨y7, y9, x0, x1, x2, x3, x4, x5⟩
     go_region_held3 (fun x => x.cell? ⟨PP, 7, none⟩ = some (.pointer (some ⟨D, 0, none⟩)) ∧ x.cell? ⟨PP, 9, none⟩ = some (.pointer (some ⟨X, 0, none⟩)) ∧ x.cell? ⟨w10.heap.size, 0, none⟩ = some (.int .i64 ((next : Nat) : Int)) ∧ x.cell? ⟨w10.heap.size, 1, none⟩ = some (.string (mkeyS (key % 6))) ∧ x.cell? ⟨w10.heap.size, 2, none⟩ = some (.bool (((kd : Nat) : Int) == 2)) ∧ x.cell? ⟨w10.heap.size, 3, none⟩ = some (.int .i64 ((used - 1 : Nat) : Int)) ∧ x.cell? ⟨w10.heap.size, 4, none⟩ = some (.int .i64 ((lens (used - 1) : Nat) : Int)) ∧ x.cell? ⟨w10.heap.size, 5, none⟩ = some (.int .i64 (16 + ((mkeyS (key % 6)).size : Int) + (val.size : Int)))) (first | (with_reducible exact P13) | (with_reducible exact P12) | go_keep) (first | (go_at_call 107; refine (HA.out _ ?_).mono ?_; (exact H11.out.drew); rintro e12 w12 ⟨rfl, col12, hd12, hU12, hk12⟩; have P12 := tail_s PC hU12 (by rw [HCP.out]; decide) (by rw [HCN.out _ HO10.out.size]; decide); have HAD := Lib.hid (HADD.out _ w12 col12 H11.out.drew hU12 hk12); have HX12 := Lib.hid (And.intro hd12 (And.intro hU12 hk12)); clear hd12 hU12 hk12 HADD HA) | (go_at_call 64; refine HAD.out.mono ?_; rintro e13 w13 ⟨rfl, col13, hi13, hU13, hk13⟩; have P13 := tail_s' P12 hU13 (by rw [HX12.out.2.2 PP hpl11, HCP.out]; decide) (by rw [HX12.out.2.2 w10.heap.size hsz11, HCN.out _ HO10.out.size]; decide); have HX13 := Lib.hid (And.intro hi13 (And.intro hU13 hk13)); clear hi13 hU13 hk13 HAD))
     all_goals
      go_wp2
      go_ret
      obtain ⟨t1, t2, t3⟩ := tail_end HTS.out H11.out.drew ⟨_, by exact HP11.out.drew⟩ HX12.out.1 HX12.out.2.1 HX12.out.2.2 HX13.out.1 HX13.out.2.1 HX13.out.2.2
      have sO := O5q.size
      exact ⟨rfl, col13, used, true, _, next + 1, ops + 1, t1, Nat.le_refl _, by omega, fun b hb => by rw [t2 b (by omega), trim_kept w col b hb], (Upd.mono O5q (fun _ _ x => x.elim)).after t3 (fun b hb h => by rw [trim_kept w col b hb] at h; exact h)⟩
    ·have hf1 : ¬ ((bs.length : Int) ≤ (k.size : Int) - (lens (used - 1) : Int) - 16) := by omega
     have hfl := HH.out.fits (used - 1) (by omega)
     have hz2 := HH.out.z2
     have hw1 : IntKind.i64.wrap ((k.size : Int) - (lens (used - 1) : Int) - 16) = (k.size : Int) - (lens (used - 1) : Int) - 16 := IntWalk.i64_in _ (by omega)
     have s2 : w5.cell? ⟨PP, 2, none⟩ = some (.int .i64 ((k.reserve : Nat) : Int)) := (Old.has O5 HPC.out).cell 2
     have s8 : w5.cell? ⟨PP, 8, none⟩ = some (.pointer (some ⟨B, 0, none⟩)) := (Old.has O5 HPC.out).cell 8
     by_cases hfree : k.n - used ≤ k.reserve
     ·have HO5 := Lib.hid O5
      clear O5 hl
      refine Lib.hid ?_
      go_wp2
      have hd1 : decide (((k.n - used : Nat) : Int) ≤ (k.reserve : Int)) = true := by rw [decide_eq_true_iff]; omega
      have hd2 : decide (k.n - used ≤ k.reserve) = true := by rw [decide_eq_true_iff]; exact hfree
      go_big_quiet ((go_at_call 27; exact Calls.quiet_of_same ((HT0.out _ (HO5.out.drewN _)).tab.free')))
      clear hd1 hd2
      have O5q : Old w (w5.drewN nq) := HO5.out.drewN nq
      generalize w5.drewN nq = wq at O5q ⊢
      have hq14 : ∀ n, Old w (wq.drewN n) := fun n => O5q.drewN n
      have s2 : wq.cell? ⟨PP, 2, none⟩ = some (.int .i64 ((k.reserve : Nat) : Int)) := (Old.has O5q HPC.out).cell 2
      have s8 : wq.cell? ⟨PP, 8, none⟩ = some (.pointer (some ⟨B, 0, none⟩)) := (Old.has O5q HPC.out).cell 8
      go_wp2
      have hd1 : decide (((k.n - used : Nat) : Int) ≤ (k.reserve : Int)) = true := by rw [decide_eq_true_iff]; omega
      have hd2 : decide (k.n - used ≤ k.reserve) = true := by rw [decide_eq_true_iff]; exact hfree
      go_big_quiet ((go_at_call 27; exact Calls.quiet_of_same ((HT0.out _ (hq14 _)).tab.free')))
      go_wp2
      go_ret
      exact ⟨rfl, trim w col, used, true, lens, next, ops, HT0.out _ (hq14 _), by omega, by omega, trim_kept w col, Upd.mono (hq14 _) (fun _ _ x => x.elim)⟩
     ·have hd1 : decide (((k.n - used : Nat) : Int) ≤ (k.reserve : Int)) = false := by rw [decide_eq_false_iff_not]; omega
      have hd2 : decide (k.n - used ≤ k.reserve) = false := by rw [decide_eq_false_iff_not]; exact hfree
      have HD1 := Lib.hid hd1
      have HD2 := Lib.hid hd2
      clear hd1 hd2
      have RO : RecOk k next kd (mkeyS (key % 6)) val bs := ⟨mkeyS_ok _, mkeyS_size _ (by omega), HKD.out.1, HKD.out.2.1, hl, HH.out.nx, hn⟩
      have HRO2 := Lib.hid RO
      have HBV := Lib.hid (show BV w5 (trim w col) (.slice (some ad) bs.length cc) bs from ⟨H7.out.2.1.old H8.out, fun a n c e => (by injection e with e1 _ _; injection e1 with e1; subst e1; exact ⟨by rw [trim_new hfrl], Nat.lt_of_lt_of_le hadl H8.out.size⟩)⟩)
      have HRV := Lib.hid (show RV w5 (trim w col) R kd next (mkeyS (key % 6)) val from ⟨Old.has H8.out H7.out.2.2.2, by rw [trim_new hlR]⟩)
      have HFR := Lib.hid (fun (W' : World) (U : Old w W') => (HT0.out W' U).tab.free')
      have HCLO := Lib.hid (fun (W' : World) (U : Old w W') => pclose (HT0.out W' U) (by omega))
      have HO5 := Lib.hid O5
      clear O5 hl RO
      refine Lib.hid ?_
      go_wp2
      have hd1 := HD1.out
      have hd2 := HD2.out
      go_region_held3 (fun x => x.cell? ⟨PP, 8, none⟩ = some (.pointer (some ⟨B, 0, none⟩)) ∧ x.cell? ⟨PP, 2, none⟩ = some (.int .i64 ((k.reserve : Nat) : Int)))
       (first | (with_reducible exact P6) | go_keep)
       (first | (go_at_call 27; refine (HFR.out _ ?_).mono ?_; (exact HO5.out.drew); rintro e6 w6 ⟨rfl, rfl⟩) | (go_at_call 101; refine (HCLO.out _ ?_).mono ?_; (exact HO5.out.drew); rintro e6 w6 ⟨rfl, col6, lens6, hP6, hU6, hK6⟩; have P6 := p_cells hP6; have HX6 := Lib.hid (And.intro hP6 (And.intro hU6 hK6)); clear hP6 hU6 hK6))
      rename_i hHeld
      clear hHeld
      have hP6 := HX6.out.1
      have hun6 : used < k.n := by omega
      have HTK := Lib.hid (hP6.tab.take hP6.db hun6 (by omega))
      have z8 : w6.cell? ⟨PP, 8, none⟩ = some (.pointer (some ⟨B, 0, none⟩)) := P6.1
      clear hP6 P6 hd1 hd2
      go_wp2_with (first | (go_at_call 105; refine HTK.out.mono ?_; rintro e7 w7 ⟨rfl, ht7, hU7⟩; have HX7 := Lib.hid (And.intro ht7 hU7); clear ht7 hU7 HTK; refine Hid.out ?_))
      have hc56 : ∀ b, (trim w col b).1 = 0 → ¬ (1 ≤ (trim w col b).1 ∧ (trim w col b).1 ≤ 3) := fun b h h2 => by omega
      have HTS := Lib.hid (tail_take HX6.out.1 hun6 HX7.out.1 HX7.out.2 ((HBV.out.upd ((Upd.refl (fun _ => False) w5).drew) (fun b h => h.elim) (Kept.refl _ _)).upd HX6.out.2.1 (fun b h => by omega) HX6.out.2.2) ((HRV.out.upd ((Upd.refl (fun _ => False) w5).drew) (fun b h => h.elim) (Kept.refl _ _)).upd HX6.out.2.1 (fun b h => by omega) HX6.out.2.2) HRO2.out)
      obtain ⟨tP7, hP7⟩ := HTS.out.p.p
      have HPP := Lib.hid hP7
      clear hP7
      have hsz7 := HX7.out.2.size
      have hsz6 := HX6.out.2.1.size
      have hCP7 : trim w7 col6 PP = (4, 0) := by rw [trim_kept w7 col6 PP HPP.out.lt, HX6.out.1.cP]
      have HCP := Lib.hid hCP7
      have HCN := Lib.hid (fun (b : Nat) (h : w7.heap.size ≤ b) => (trim_new (col := col6) h : trim w7 col6 b = (0, 0)))
      refine Lib.hid ?_
      have HL := Lib.hid (tail_len HTS.out)
      have HE := Lib.hid (tail_entry HTS.out)
      have HA := Lib.hid (fun (W3 : World) (U : Upd (fun b => b = PP) w7 W3) => tail_app HTS.out (by omega) U)
      have HADD := Lib.hid (fun (W3 W4 : World) (col4 : Col) (U : Upd (fun b => b = PP) w7 W3) (U4 : Upd (fun b => ((trim w7 col6) b).1 = 1) W3 W4) (k4 : Kept W3 (trim w7 col6) col4) => tail_add HTS.out U U4 k4)
      have s7 : w7.cell? ⟨PP, 7, none⟩ = some (.pointer (some ⟨D, 0, none⟩)) := HPP.out.cell 7
      simp only [tEnt, Ent.val, Nat.add_sub_cancel] at HL HE HA HADD
      go_wp2_with (first | (go_at_call 12; refine HL.out.mono ?_; rintro e9 w9 ⟨rfl, hU9⟩; have g9 := (HTS.out.r.upd hU9 (fun b h => h.elim) (Kept.refl _ _)).1; have g0 : w9.cell? ⟨R, 0, none⟩ = some (.int .i64 ((kd : Nat) : Int)) := g9.cell 0; have g1 : w9.cell? ⟨R, 1, none⟩ = some (.int .i64 ((next : Nat) : Int)) := g9.cell 1; have g2 : w9.cell? ⟨R, 2, none⟩ = some (.string (mkeyS (key % 6))) := g9.cell 2; have g3 : w9.cell? ⟨R, 3, none⟩ = some (.string val) := g9.cell 3; have HU9 := Lib.hid hU9; clear hU9 g9 HL) | (go_at_call 106; refine (HE.out _).mono ?_; rintro e10 w10 ⟨rfl, hU10⟩; have O10 := HU9.out.trans hU10; have z10 : w10.cell? ⟨PP, 10, none⟩ = some (.int .i64 ((next : Nat) : Int)) := (Old.has O10 HPP.out).cell 10; have z11 := (Old.has O10 HPP.out).frozen 10; have hpl10 : PP < w10.heap.size := (Old.has O10 HPP.out).lt; have HO10 := Lib.hid O10; clear hU10 O10 HE g0 g1 g2 g3))
      have H11 := Lib.hid (tail_w3 (PP := PP) HO10.out (.int .i64 ((next : Int) + 1)) (.cells #[.int .i64 ((next : Nat) : Int), .string (mkeyS (key % 6)), .bool (((kd : Nat) : Int) == 2), .int .i64 ((used : Nat) : Int), .int .i64 ((lens6 (used) : Nat) : Int), .int .i64 (16 + ((mkeyS (key % 6)).size : Int) + (val.size : Int))] 47))
      have HP11 := Lib.hid (tail_p3 HPP.out HO10.out (.int .i64 ((next : Int) + 1)) (.cells #[.int .i64 ((next : Nat) : Int), .string (mkeyS (key % 6)), .bool (((kd : Nat) : Int) == 2), .int .i64 ((used : Nat) : Int), .int .i64 ((lens6 (used) : Nat) : Int), .int .i64 (16 + ((mkeyS (key % 6)).size : Int) + (val.size : Int))] 47))
      have hb11 := tail_box w10 PP (.int .i64 ((next : Int) + 1)) 47 #[.int .i64 ((next : Nat) : Int), .string (mkeyS (key % 6)), .bool (((kd : Nat) : Int) == 2), .int .i64 ((used : Nat) : Int), .int .i64 ((lens6 (used) : Nat) : Int), .int .i64 (16 + ((mkeyS (key % 6)).size : Int) + (val.size : Int))]
      have PC : ((w10.setCell ⟨PP, 10, none⟩ (.int .i64 ((next : Int) + 1))).alloc (.cells #[.int .i64 ((next : Nat) : Int), .string (mkeyS (key % 6)), .bool (((kd : Nat) : Int) == 2), .int .i64 ((used : Nat) : Int), .int .i64 ((lens6 (used) : Nat) : Int), .int .i64 (16 + ((mkeyS (key % 6)).size : Int) + (val.size : Int))] 47)).cell? ⟨PP, 7, none⟩ = some (.pointer (some ⟨D, 0, none⟩)) ∧ ((w10.setCell ⟨PP, 10, none⟩ (.int .i64 ((next : Int) + 1))).alloc (.cells #[.int .i64 ((next : Nat) : Int), .string (mkeyS (key % 6)), .bool (((kd : Nat) : Int) == 2), .int .i64 ((used : Nat) : Int), .int .i64 ((lens6 (used) : Nat) : Int), .int .i64 (16 + ((mkeyS (key % 6)).size : Int) + (val.size : Int))] 47)).cell? ⟨PP, 9, none⟩ = some (.pointer (some ⟨X, 0, none⟩)) ∧ ((w10.setCell ⟨PP, 10, none⟩ (.int .i64 ((next : Int) + 1))).alloc (.cells #[.int .i64 ((next : Nat) : Int), .string (mkeyS (key % 6)), .bool (((kd : Nat) : Int) == 2), .int .i64 ((used : Nat) : Int), .int .i64 ((lens6 (used) : Nat) : Int), .int .i64 (16 + ((mkeyS (key % 6)).size : Int) + (val.size : Int))] 47)).cell? ⟨w10.heap.size, 0, none⟩ = some (.int .i64 ((next : Nat) : Int)) ∧ ((w10.setCell ⟨PP, 10, none⟩ (.int .i64 ((next : Int) + 1))).alloc (.cells #[.int .i64 ((next : Nat) : Int), .string (mkeyS (key % 6)), .bool (((kd : Nat) : Int) == 2), .int .i64 ((used : Nat) : Int), .int .i64 ((lens6 (used) : Nat) : Int), .int .i64 (16 + ((mkeyS (key % 6)).size : Int) + (val.size : Int))] 47)).cell? ⟨w10.heap.size, 1, none⟩ = some (.string (mkeyS (key % 6))) ∧ ((w10.setCell ⟨PP, 10, none⟩ (.int .i64 ((next : Int) + 1))).alloc (.cells #[.int .i64 ((next : Nat) : Int), .string (mkeyS (key % 6)), .bool (((kd : Nat) : Int) == 2), .int .i64 ((used : Nat) : Int), .int .i64 ((lens6 (used) : Nat) : Int), .int .i64 (16 + ((mkeyS (key % 6)).size : Int) + (val.size : Int))] 47)).cell? ⟨w10.heap.size, 2, none⟩ = some (.bool (((kd : Nat) : Int) == 2)) ∧ ((w10.setCell ⟨PP, 10, none⟩ (.int .i64 ((next : Int) + 1))).alloc (.cells #[.int .i64 ((next : Nat) : Int), .string (mkeyS (key % 6)), .bool (((kd : Nat) : Int) == 2), .int .i64 ((used : Nat) : Int), .int .i64 ((lens6 (used) : Nat) : Int), .int .i64 (16 + ((mkeyS (key % 6)).size : Int) + (val.size : Int))] 47)).cell? ⟨w10.heap.size, 3, none⟩ = some (.int .i64 ((used : Nat) : Int)) ∧ ((w10.setCell ⟨PP, 10, none⟩ (.int .i64 ((next : Int) + 1))).alloc (.cells #[.int .i64 ((next : Nat) : Int), .string (mkeyS (key % 6)), .bool (((kd : Nat) : Int) == 2), .int .i64 ((used : Nat) : Int), .int .i64 ((lens6 (used) : Nat) : Int), .int .i64 (16 + ((mkeyS (key % 6)).size : Int) + (val.size : Int))] 47)).cell? ⟨w10.heap.size, 4, none⟩ = some (.int .i64 ((lens6 (used) : Nat) : Int)) ∧ ((w10.setCell ⟨PP, 10, none⟩ (.int .i64 ((next : Int) + 1))).alloc (.cells #[.int .i64 ((next : Nat) : Int), .string (mkeyS (key % 6)), .bool (((kd : Nat) : Int) == 2), .int .i64 ((used : Nat) : Int), .int .i64 ((lens6 (used) : Nat) : Int), .int .i64 (16 + ((mkeyS (key % 6)).size : Int) + (val.size : Int))] 47)).cell? ⟨w10.heap.size, 5, none⟩ = some (.int .i64 (16 + ((mkeyS (key % 6)).size : Int) + (val.size : Int))) := ⟨HP11.out.cell 7, HP11.out.cell 9, hb11.cell 0, hb11.cell 1, hb11.cell 2, hb11.cell 3, hb11.cell 4, hb11.cell 5⟩
      have hsz11 : w10.heap.size < ((w10.setCell ⟨PP, 10, none⟩ (.int .i64 ((next : Int) + 1))).alloc (.cells #[.int .i64 ((next : Nat) : Int), .string (mkeyS (key % 6)), .bool (((kd : Nat) : Int) == 2), .int .i64 ((used : Nat) : Int), .int .i64 ((lens6 (used) : Nat) : Int), .int .i64 (16 + ((mkeyS (key % 6)).size : Int) + (val.size : Int))] 47)).heap.size := hb11.lt
      clear hb11
      generalize (w10.setCell ⟨PP, 10, none⟩ (.int .i64 ((next : Int) + 1))).alloc (.cells #[.int .i64 ((next : Nat) : Int), .string (mkeyS (key % 6)), .bool (((kd : Nat) : Int) == 2), .int .i64 ((used : Nat) : Int), .int .i64 ((lens6 (used) : Nat) : Int), .int .i64 (16 + ((mkeyS (key % 6)).size : Int) + (val.size : Int))] 47) = w11 at H11 HP11 PC hsz11 ⊢
      have hpl11 : PP < w11.heap.size := HP11.out.lt
      obtain ⟨y7, y9, x0, x1, x2, x3, x4, x5⟩ := PC
      have PC : w11.cell? ⟨PP, 7, none⟩ = some (.pointer (some ⟨D, 0, none⟩)) ∧ w11.cell? ⟨PP, 9, none⟩ = some (.pointer (some ⟨X, 0, none⟩)) ∧ w11.cell? ⟨w10.heap.size, 0, none⟩ = some (.int .i64 ((next : Nat) : Int)) ∧ w11.cell? ⟨w10.heap.size, 1, none⟩ = some (.string (mkeyS (key % 6))) ∧ w11.cell? ⟨w10.heap.size, 2, none⟩ = some (.bool (((kd : Nat) : Int) == 2)) ∧ w11.cell? ⟨w10.heap.size, 3, none⟩ = some (.int .i64 ((used : Nat) : Int)) ∧ w11.cell? ⟨w10.heap.size, 4, none⟩ = some (.int .i64 ((lens6 (used) : Nat) : Int)) ∧ w11.cell? ⟨w10.heap.size, 5, none⟩ = some (.int .i64 (16 + ((mkeyS (key % 6)).size : Int) + (val.size : Int))) := ⟨y7, y9, x0, x1, x2, x3, x4, x5⟩
      go_region_held3 (fun x => x.cell? ⟨PP, 7, none⟩ = some (.pointer (some ⟨D, 0, none⟩)) ∧ x.cell? ⟨PP, 9, none⟩ = some (.pointer (some ⟨X, 0, none⟩)) ∧ x.cell? ⟨w10.heap.size, 0, none⟩ = some (.int .i64 ((next : Nat) : Int)) ∧ x.cell? ⟨w10.heap.size, 1, none⟩ = some (.string (mkeyS (key % 6))) ∧ x.cell? ⟨w10.heap.size, 2, none⟩ = some (.bool (((kd : Nat) : Int) == 2)) ∧ x.cell? ⟨w10.heap.size, 3, none⟩ = some (.int .i64 ((used : Nat) : Int)) ∧ x.cell? ⟨w10.heap.size, 4, none⟩ = some (.int .i64 ((lens6 (used) : Nat) : Int)) ∧ x.cell? ⟨w10.heap.size, 5, none⟩ = some (.int .i64 (16 + ((mkeyS (key % 6)).size : Int) + (val.size : Int)))) (first | (with_reducible exact P13) | (with_reducible exact P12) | go_keep) (first | (go_at_call 107; refine (HA.out _ ?_).mono ?_; (exact H11.out.drew); rintro e12 w12 ⟨rfl, col12, hd12, hU12, hk12⟩; have P12 := tail_s PC hU12 (by rw [HCP.out]; decide) (by rw [HCN.out _ HO10.out.size]; decide); have HAD := Lib.hid (HADD.out _ w12 col12 H11.out.drew hU12 hk12); have HX12 := Lib.hid (And.intro hd12 (And.intro hU12 hk12)); clear hd12 hU12 hk12 HADD HA) | (go_at_call 64; refine HAD.out.mono ?_; rintro e13 w13 ⟨rfl, col13, hi13, hU13, hk13⟩; have P13 := tail_s' P12 hU13 (by rw [HX12.out.2.2 PP hpl11, HCP.out]; decide) (by rw [HX12.out.2.2 w10.heap.size hsz11, HCN.out _ HO10.out.size]; decide); have HX13 := Lib.hid (And.intro hi13 (And.intro hU13 hk13)); clear hi13 hU13 hk13 HAD))
      all_goals
       go_wp2
       go_ret
       obtain ⟨t1, t2, t3⟩ := tail_end HTS.out H11.out.drew ⟨_, by exact HP11.out.drew⟩ HX12.out.1 HX12.out.2.1 HX12.out.2.2 HX13.out.1 HX13.out.2.1 HX13.out.2.2
       have hc6 : ∀ b, b < w.heap.size → col6 b = col b := fun b hb => by rw [HX6.out.2.2 b (by show b < w5.heap.size; have := HO5.out.size; omega), trim_kept w col b hb]
       have s5 := HO5.out.size
       have s56 : w5.heap.size ≤ w6.heap.size := hsz6
       have hc7 : ∀ b, b < w.heap.size → trim w7 col6 b = col b := fun b hb => by rw [trim_kept w7 col6 b (by omega), hc6 b hb]
       exact ⟨rfl, col13, used + 1, true, _, next + 1, ops + 2 + 1, t1, Nat.le_refl _, by omega, fun b hb => by rw [t2 b (by omega), hc7 b hb], ((((Upd.mono HO5.out (fun _ _ x => x.elim)).drew.after HX6.out.2.1 (fun b hb h => by rw [trim_kept w col b hb] at h; exact h.1)).after HX7.out.2 (fun b hb h => by rw [hc6 b hb] at h; omega)).after t3 (fun b hb h => by rw [hc7 b hb] at h; exact h))⟩
  | false =>
   clear O3 H3 H4 P0 PA PB P2 m0 m1 m2 r0 r1 r2 r3 r4 r5 r6 r10 HREC
   by_cases hfree : k.n - used ≤ k.reserve
   ·have HTA := Lib.hid (fun (W : World) (U : Old w W) => (HT0.out W U).tab.busy hfree)
    go_wp2_with (first | (go_at_call 103; refine hENC.out.mono ?_; rintro e4 w4 ⟨v, bs, rfl, hb, hl, hU4, hfr⟩; obtain ⟨ad, cc, rfl, hadl⟩ := bytes_some hb (by omega); have O4 := H6.out.1.trans hU4; have s8 : w4.cell? ⟨PP, 8, none⟩ = some (.pointer (some ⟨B, 0, none⟩)) := (Old.has O4 HPC.out).cell 8; have hfrl : w.heap.size ≤ ad.block := (by have := hfr ad _ _ rfl; have := H6.out.1.size; omega); have HT4 := HTA.out w4 O4; have H7 := Lib.hid (And.intro O4 (And.intro hb (And.intro hl (Old.has hU4 H6.out.2)))); clear O4 hb hU4 hfr f0 f1 f2 f3 hl) | (go_at_call 105; refine HT4.mono ?_; rintro e7 w7 ⟨rfl, hU7⟩; have O7 := Lib.hid (H7.out.1.trans hU7); clear hU7 HT4))
    go_ret
    exact ⟨rfl, trim w col, used, false, lens, next, ops, HT0.out _ O7.out, by omega, by omega, trim_kept w col, Upd.mono O7.out (fun _ _ x => x.elim)⟩
   ·have hfree : k.reserve < k.n - used := by omega
    have hun := HH.out.un
    have HTA := Lib.hid (fun (W : World) (U : Old w W) => (HT0.out W U).tab.take (HT0.out W U).db (by omega) hfree)
    go_wp2_with (first | (go_at_call 103; refine hENC.out.mono ?_; rintro e4 w4 ⟨v, bs, rfl, hb, hl, hU4, hfr⟩; obtain ⟨ad, cc, rfl, hadl⟩ := bytes_some hb (by omega); have O4 := H6.out.1.trans hU4; have s8 : w4.cell? ⟨PP, 8, none⟩ = some (.pointer (some ⟨B, 0, none⟩)) := (Old.has O4 HPC.out).cell 8; have hfrl : w.heap.size ≤ ad.block := (by have := hfr ad _ _ rfl; have := H6.out.1.size; omega); have HT4 := HTA.out w4 O4; have H7 := Lib.hid (And.intro O4 (And.intro hb (And.intro hl (Old.has hU4 H6.out.2)))); clear O4 hb hU4 hfr f0 f1 f2 f3 hl) | (go_at_call 105; refine HT4.mono ?_; rintro e7 w7 ⟨rfl, ht7, hU7⟩; have HX7 := Lib.hid (And.intro ht7 hU7); clear ht7 hU7 HT4; refine Hid.out ?_))
    have RO : RecOk k next kd (mkeyS (key % 6)) val bs := ⟨mkeyS_ok _, mkeyS_size _ (by omega), HKD.out.1, HKD.out.2.1, H7.out.2.2.1, HH.out.nx, hn⟩
    have hBV : BV w4 (trim w col) (.slice (some ad) bs.length cc) bs := ⟨H7.out.2.1, fun a n c e => (by injection e with e1 _ _; injection e1 with e1; subst e1; exact ⟨by rw [trim_new hfrl], hadl⟩)⟩
    have hRV : RV w4 (trim w col) R kd next (mkeyS (key % 6)) val := ⟨H7.out.2.2.2, by rw [trim_new hlR]⟩
    have HTS := Lib.hid (tail_take (HT0.out w4 H7.out.1) (by omega) HX7.out.1 HX7.out.2 hBV hRV RO)
    obtain ⟨tP7, hP7⟩ := HTS.out.p.p
    have HPP := Lib.hid hP7
    clear hP7 RO hBV hRV
    have hsz7 := HX7.out.2.size
    have hsz4 := H7.out.1.size
    have hCP7 : trim w7 (trim w col) PP = (4, 0) := by rw [trim_kept w7 (trim w col) PP HPP.out.lt, trim_kept w col PP hPl, HH.out.cP]
    have HCP := Lib.hid hCP7
    have HCN := Lib.hid (fun (b : Nat) (h : w7.heap.size ≤ b) => (trim_new (col := trim w col) h : trim w7 (trim w col) b = (0, 0)))
    refine Lib.hid ?_
    have HL := Lib.hid (tail_len HTS.out)
    have HE := Lib.hid (tail_entry HTS.out)
    have HA := Lib.hid (fun (W3 : World) (U : Upd (fun b => b = PP) w7 W3) => tail_app HTS.out (by omega) U)
    have HADD := Lib.hid (fun (W3 W4 : World) (col4 : Col) (U : Upd (fun b => b = PP) w7 W3) (U4 : Upd (fun b => ((trim w7 (trim w col)) b).1 = 1) W3 W4) (k4 : Kept W3 (trim w7 (trim w col)) col4) => tail_add HTS.out U U4 k4)
    have s7 : w7.cell? ⟨PP, 7, none⟩ = some (.pointer (some ⟨D, 0, none⟩)) := HPP.out.cell 7
    simp only [tEnt, Ent.val, Nat.add_sub_cancel] at HL HE HA HADD
    go_wp2_with (first | (go_at_call 12; refine HL.out.mono ?_; rintro e9 w9 ⟨rfl, hU9⟩; have g9 := (HTS.out.r.upd hU9 (fun b h => h.elim) (Kept.refl _ _)).1; have g0 : w9.cell? ⟨R, 0, none⟩ = some (.int .i64 ((kd : Nat) : Int)) := g9.cell 0; have g1 : w9.cell? ⟨R, 1, none⟩ = some (.int .i64 ((next : Nat) : Int)) := g9.cell 1; have g2 : w9.cell? ⟨R, 2, none⟩ = some (.string (mkeyS (key % 6))) := g9.cell 2; have g3 : w9.cell? ⟨R, 3, none⟩ = some (.string val) := g9.cell 3; have HU9 := Lib.hid hU9; clear hU9 g9 HL) | (go_at_call 106; refine (HE.out _).mono ?_; rintro e10 w10 ⟨rfl, hU10⟩; have O10 := HU9.out.trans hU10; have z10 : w10.cell? ⟨PP, 10, none⟩ = some (.int .i64 ((next : Nat) : Int)) := (Old.has O10 HPP.out).cell 10; have z11 := (Old.has O10 HPP.out).frozen 10; have hpl10 : PP < w10.heap.size := (Old.has O10 HPP.out).lt; have HO10 := Lib.hid O10; clear hU10 O10 HE g0 g1 g2 g3))
    have H11 := Lib.hid (tail_w3 (PP := PP) HO10.out (.int .i64 ((next : Int) + 1)) (.cells #[.int .i64 ((next : Nat) : Int), .string (mkeyS (key % 6)), .bool (((kd : Nat) : Int) == 2), .int .i64 ((used : Nat) : Int), .int .i64 ((lens (used) : Nat) : Int), .int .i64 (16 + ((mkeyS (key % 6)).size : Int) + (val.size : Int))] 47))
    have HP11 := Lib.hid (tail_p3 HPP.out HO10.out (.int .i64 ((next : Int) + 1)) (.cells #[.int .i64 ((next : Nat) : Int), .string (mkeyS (key % 6)), .bool (((kd : Nat) : Int) == 2), .int .i64 ((used : Nat) : Int), .int .i64 ((lens (used) : Nat) : Int), .int .i64 (16 + ((mkeyS (key % 6)).size : Int) + (val.size : Int))] 47))
    have hb11 := tail_box w10 PP (.int .i64 ((next : Int) + 1)) 47 #[.int .i64 ((next : Nat) : Int), .string (mkeyS (key % 6)), .bool (((kd : Nat) : Int) == 2), .int .i64 ((used : Nat) : Int), .int .i64 ((lens (used) : Nat) : Int), .int .i64 (16 + ((mkeyS (key % 6)).size : Int) + (val.size : Int))]
    have PC : ((w10.setCell ⟨PP, 10, none⟩ (.int .i64 ((next : Int) + 1))).alloc (.cells #[.int .i64 ((next : Nat) : Int), .string (mkeyS (key % 6)), .bool (((kd : Nat) : Int) == 2), .int .i64 ((used : Nat) : Int), .int .i64 ((lens (used) : Nat) : Int), .int .i64 (16 + ((mkeyS (key % 6)).size : Int) + (val.size : Int))] 47)).cell? ⟨PP, 7, none⟩ = some (.pointer (some ⟨D, 0, none⟩)) ∧ ((w10.setCell ⟨PP, 10, none⟩ (.int .i64 ((next : Int) + 1))).alloc (.cells #[.int .i64 ((next : Nat) : Int), .string (mkeyS (key % 6)), .bool (((kd : Nat) : Int) == 2), .int .i64 ((used : Nat) : Int), .int .i64 ((lens (used) : Nat) : Int), .int .i64 (16 + ((mkeyS (key % 6)).size : Int) + (val.size : Int))] 47)).cell? ⟨PP, 9, none⟩ = some (.pointer (some ⟨X, 0, none⟩)) ∧ ((w10.setCell ⟨PP, 10, none⟩ (.int .i64 ((next : Int) + 1))).alloc (.cells #[.int .i64 ((next : Nat) : Int), .string (mkeyS (key % 6)), .bool (((kd : Nat) : Int) == 2), .int .i64 ((used : Nat) : Int), .int .i64 ((lens (used) : Nat) : Int), .int .i64 (16 + ((mkeyS (key % 6)).size : Int) + (val.size : Int))] 47)).cell? ⟨w10.heap.size, 0, none⟩ = some (.int .i64 ((next : Nat) : Int)) ∧ ((w10.setCell ⟨PP, 10, none⟩ (.int .i64 ((next : Int) + 1))).alloc (.cells #[.int .i64 ((next : Nat) : Int), .string (mkeyS (key % 6)), .bool (((kd : Nat) : Int) == 2), .int .i64 ((used : Nat) : Int), .int .i64 ((lens (used) : Nat) : Int), .int .i64 (16 + ((mkeyS (key % 6)).size : Int) + (val.size : Int))] 47)).cell? ⟨w10.heap.size, 1, none⟩ = some (.string (mkeyS (key % 6))) ∧ ((w10.setCell ⟨PP, 10, none⟩ (.int .i64 ((next : Int) + 1))).alloc (.cells #[.int .i64 ((next : Nat) : Int), .string (mkeyS (key % 6)), .bool (((kd : Nat) : Int) == 2), .int .i64 ((used : Nat) : Int), .int .i64 ((lens (used) : Nat) : Int), .int .i64 (16 + ((mkeyS (key % 6)).size : Int) + (val.size : Int))] 47)).cell? ⟨w10.heap.size, 2, none⟩ = some (.bool (((kd : Nat) : Int) == 2)) ∧ ((w10.setCell ⟨PP, 10, none⟩ (.int .i64 ((next : Int) + 1))).alloc (.cells #[.int .i64 ((next : Nat) : Int), .string (mkeyS (key % 6)), .bool (((kd : Nat) : Int) == 2), .int .i64 ((used : Nat) : Int), .int .i64 ((lens (used) : Nat) : Int), .int .i64 (16 + ((mkeyS (key % 6)).size : Int) + (val.size : Int))] 47)).cell? ⟨w10.heap.size, 3, none⟩ = some (.int .i64 ((used : Nat) : Int)) ∧ ((w10.setCell ⟨PP, 10, none⟩ (.int .i64 ((next : Int) + 1))).alloc (.cells #[.int .i64 ((next : Nat) : Int), .string (mkeyS (key % 6)), .bool (((kd : Nat) : Int) == 2), .int .i64 ((used : Nat) : Int), .int .i64 ((lens (used) : Nat) : Int), .int .i64 (16 + ((mkeyS (key % 6)).size : Int) + (val.size : Int))] 47)).cell? ⟨w10.heap.size, 4, none⟩ = some (.int .i64 ((lens (used) : Nat) : Int)) ∧ ((w10.setCell ⟨PP, 10, none⟩ (.int .i64 ((next : Int) + 1))).alloc (.cells #[.int .i64 ((next : Nat) : Int), .string (mkeyS (key % 6)), .bool (((kd : Nat) : Int) == 2), .int .i64 ((used : Nat) : Int), .int .i64 ((lens (used) : Nat) : Int), .int .i64 (16 + ((mkeyS (key % 6)).size : Int) + (val.size : Int))] 47)).cell? ⟨w10.heap.size, 5, none⟩ = some (.int .i64 (16 + ((mkeyS (key % 6)).size : Int) + (val.size : Int))) := ⟨HP11.out.cell 7, HP11.out.cell 9, hb11.cell 0, hb11.cell 1, hb11.cell 2, hb11.cell 3, hb11.cell 4, hb11.cell 5⟩
    have hsz11 : w10.heap.size < ((w10.setCell ⟨PP, 10, none⟩ (.int .i64 ((next : Int) + 1))).alloc (.cells #[.int .i64 ((next : Nat) : Int), .string (mkeyS (key % 6)), .bool (((kd : Nat) : Int) == 2), .int .i64 ((used : Nat) : Int), .int .i64 ((lens (used) : Nat) : Int), .int .i64 (16 + ((mkeyS (key % 6)).size : Int) + (val.size : Int))] 47)).heap.size := hb11.lt
    clear hb11
    generalize (w10.setCell ⟨PP, 10, none⟩ (.int .i64 ((next : Int) + 1))).alloc (.cells #[.int .i64 ((next : Nat) : Int), .string (mkeyS (key % 6)), .bool (((kd : Nat) : Int) == 2), .int .i64 ((used : Nat) : Int), .int .i64 ((lens (used) : Nat) : Int), .int .i64 (16 + ((mkeyS (key % 6)).size : Int) + (val.size : Int))] 47) = w11 at H11 HP11 PC hsz11 ⊢
    have hpl11 : PP < w11.heap.size := HP11.out.lt
    obtain ⟨y7, y9, x0, x1, x2, x3, x4, x5⟩ := PC
    have PC : w11.cell? ⟨PP, 7, none⟩ = some (.pointer (some ⟨D, 0, none⟩)) ∧ w11.cell? ⟨PP, 9, none⟩ = some (.pointer (some ⟨X, 0, none⟩)) ∧ w11.cell? ⟨w10.heap.size, 0, none⟩ = some (.int .i64 ((next : Nat) : Int)) ∧ w11.cell? ⟨w10.heap.size, 1, none⟩ = some (.string (mkeyS (key % 6))) ∧ w11.cell? ⟨w10.heap.size, 2, none⟩ = some (.bool (((kd : Nat) : Int) == 2)) ∧ w11.cell? ⟨w10.heap.size, 3, none⟩ = some (.int .i64 ((used : Nat) : Int)) ∧ w11.cell? ⟨w10.heap.size, 4, none⟩ = some (.int .i64 ((lens (used) : Nat) : Int)) ∧ w11.cell? ⟨w10.heap.size, 5, none⟩ = some (.int .i64 (16 + ((mkeyS (key % 6)).size : Int) + (val.size : Int))) := ⟨y7, y9, x0, x1, x2, x3, x4, x5⟩
    go_region_held3 (fun x => x.cell? ⟨PP, 7, none⟩ = some (.pointer (some ⟨D, 0, none⟩)) ∧ x.cell? ⟨PP, 9, none⟩ = some (.pointer (some ⟨X, 0, none⟩)) ∧ x.cell? ⟨w10.heap.size, 0, none⟩ = some (.int .i64 ((next : Nat) : Int)) ∧ x.cell? ⟨w10.heap.size, 1, none⟩ = some (.string (mkeyS (key % 6))) ∧ x.cell? ⟨w10.heap.size, 2, none⟩ = some (.bool (((kd : Nat) : Int) == 2)) ∧ x.cell? ⟨w10.heap.size, 3, none⟩ = some (.int .i64 ((used : Nat) : Int)) ∧ x.cell? ⟨w10.heap.size, 4, none⟩ = some (.int .i64 ((lens (used) : Nat) : Int)) ∧ x.cell? ⟨w10.heap.size, 5, none⟩ = some (.int .i64 (16 + ((mkeyS (key % 6)).size : Int) + (val.size : Int)))) (first | (with_reducible exact P13) | (with_reducible exact P12) | go_keep) (first | (go_at_call 107; refine (HA.out _ ?_).mono ?_; (exact H11.out.drew); rintro e12 w12 ⟨rfl, col12, hd12, hU12, hk12⟩; have P12 := tail_s PC hU12 (by rw [HCP.out]; decide) (by rw [HCN.out _ HO10.out.size]; decide); have HAD := Lib.hid (HADD.out _ w12 col12 H11.out.drew hU12 hk12); have HX12 := Lib.hid (And.intro hd12 (And.intro hU12 hk12)); clear hd12 hU12 hk12 HADD HA) | (go_at_call 64; refine HAD.out.mono ?_; rintro e13 w13 ⟨rfl, col13, hi13, hU13, hk13⟩; have P13 := tail_s' P12 hU13 (by rw [HX12.out.2.2 PP hpl11, HCP.out]; decide) (by rw [HX12.out.2.2 w10.heap.size hsz11, HCN.out _ HO10.out.size]; decide); have HX13 := Lib.hid (And.intro hi13 (And.intro hU13 hk13)); clear hi13 hU13 hk13 HAD))
    all_goals
     go_wp2
     go_ret
     obtain ⟨t1, t2, t3⟩ := tail_end HTS.out H11.out.drew ⟨_, by exact HP11.out.drew⟩ HX12.out.1 HX12.out.2.1 HX12.out.2.2 HX13.out.1 HX13.out.2.1 HX13.out.2.2
     have hc7 : ∀ b, b < w.heap.size → trim w7 (trim w col) b = col b := fun b hb => by rw [trim_kept w7 (trim w col) b (by omega), trim_kept w col b hb]
     exact ⟨rfl, col13, used + 1, true, _, next + 1, ops + 1, t1, Nat.le_refl _, by omega, fun b hb => by rw [t2 b (by omega), hc7 b hb], ((((Upd.mono H7.out.1 (fun _ _ x => x.elim)).after HX7.out.2 (fun b hb h => by rw [trim_kept w col b hb] at h; omega)).after t3 (fun b hb h => by rw [hc7 b hb] at h; exact h)))⟩
end Go.M
