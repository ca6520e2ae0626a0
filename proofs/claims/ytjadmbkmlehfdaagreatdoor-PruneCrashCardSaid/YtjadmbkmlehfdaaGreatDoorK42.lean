/- Walks 42. -/
import Derived.Test.YtjadmbkmlehfdaaGreatDoorProg
import Derived.Test.YtjadmbkmlehfdaaGreatDoorK40
import Derived.Test.YtjadmbkmlehfdaaGreatDoorK37
import Derived.Test.YtjadmbkmlehfdaaGreatDoorK29
import Derived.Test.YtjadmbkmlehfdaaGreatDoorK24
import Derived.Test.YtjadmbkmlehfdaaGreatDoorK38
import Derived.Test.YtjadmbkmlehfdaaGreatDoorK36
set_option linter.unusedVariables false
set_option linter.unusedSimpArgs false
set_option maxRecDepth 100000
namespace Go.M
open Go.Proofs Go.RowKit
set_option linter.unusedSimpArgs false
theorem put36 {w : World} {key : ByteArray} {seq : Int} :
 Calls Tryz.prog 141 #[.string key, .int .i64 seq] w fun e w' => e = .returned (.agg #[.int .i64 1, .int .i64 seq, .string key, .string ⟨#[118]⟩]) ∧ Old w w' := by
 go_enter Tryz.func141, Tryz.ntmps141
 go_wp2
 refine bodyPost_ret (results_cell_row rfl _ _ w.heap.size 170 #[.int .i64 1, .int .i64 seq, .string key, .string ⟨#[118]⟩] (0, 0) _ rfl (Has.new w _ _) Tryz.underlying170 rfl (by kernel_rfl)) rfl ?_
 exact ⟨rfl, (Upd.refl _ w).alloc _⟩
def exC (k : Nat) : Nat := if k = 0 then 2 else 1
def exB (k : Nat) : Nat := if k = 0 then 0 else k + 1
theorem ex_next {k : Nat} (h : k < 4) : exB k + exC k = exB (k + 1) := by unfold exB exC; split <;> simp <;> omega
theorem exO_succ {p : Nat} {e : Ent} (h : exL[p]? = some e) : exO (p + 1) e.slot = exO p e.slot + e.size := by
 unfold exO
 rw [ex_take h, List.map_append, List.sum_append]
 simp
def LitAt (w : World) (lo L : Nat) : Prop := lo ≤ L ∧ ∀ k, k < 4 → ∃ R, lo ≤ R ∧ w.cell? ⟨L, k, none⟩ = some (.slice (some ⟨R, 0, none⟩) (exC k) (exC k)) ∧ ∀ i, i < exC k → ∃ e kd vl, exL[exB k + i]? = some e ∧ e.slot = k ∧ e.off = exO (exB k + i) k ∧ RecF w R (i * 4) e kd vl
theorem LitAt.upd {w w' : World} {lo L : Nat} {F : Nat → Prop} (h : LitAt w lo L) (U : Upd F w w') (hF : ∀ b, lo ≤ b → ¬ F b) : LitAt w' lo L := by
 refine ⟨h.1, fun k hk => ?_⟩
 obtain ⟨R, h1, h2, h3⟩ := h.2 k hk
 refine ⟨R, h1, U.cellOf h2 (hF _ h.1), fun i hi => ?_⟩
 obtain ⟨e, kd, vl, a, b, c, d⟩ := h3 i hi
 exact ⟨e, kd, vl, a, b, c, U.cellOf d.c0 (hF _ h1), U.cellOf d.c1 (hF _ h1), U.cellOf d.c2 (hF _ h1), U.cellOf d.c3 (hF _ h1), d.kd, d.sz, d.v⟩
theorem rec_f {w : World} {R o kd : Nat} {e : Ent} {vl : ByteArray} {cs : Array Value} (h : Has w R 170 cs) (h0 : cs[o]? = some (.int .i64 ((kd : Nat) : Int))) (h1 : cs[o + 1]? = some (.int .i64 ((e.seq : Nat) : Int))) (h2 : cs[o + 2]? = some (.string e.key)) (h3 : cs[o + 3]? = some (.string vl))
 (hk : (kd = 1 ∧ e.del = false) ∨ (kd = 2 ∧ vl = ⟨#[]⟩ ∧ e.del = true)) (hs : e.size = 16 + e.key.size + vl.size) (hv : vl.size ≤ 512) : RecF w R o e kd vl :=
 ⟨by rw [h.cell, h0], by rw [h.cell, h1], by rw [h.cell, h2], by rw [h.cell, h3], hk, hs, hv⟩
theorem lit_at {w : World} {lo L R0 R1 R2 R3 : Nat} (l : lo ≤ L) (l0 : lo ≤ R0) (l1 : lo ≤ R1) (l2 : lo ≤ R2) (l3 : lo ≤ R3)
 (hL : Has w L 210 #[.slice (some ⟨R0, 0, none⟩) 2 2, .slice (some ⟨R1, 0, none⟩) 1 1, .slice (some ⟨R2, 0, none⟩) 1 1, .slice (some ⟨R3, 0, none⟩) 1 1])
 (h0 : Has w R0 170 #[.int .i64 1, .int .i64 1, .string ⟨#[97]⟩, .string ⟨#[118]⟩, .int .i64 1, .int .i64 2, .string ⟨#[98]⟩, .string ⟨#[118]⟩])
 (h1 : Has w R1 170 #[.int .i64 1, .int .i64 3, .string ⟨#[97]⟩, .string ⟨#[118]⟩])
 (h2 : Has w R2 170 #[.int .i64 2, .int .i64 4, .string ⟨#[98]⟩, .string ⟨#[]⟩])
 (h3 : Has w R3 170 #[.int .i64 1, .int .i64 3, .string ⟨#[97]⟩, .string ⟨#[118]⟩]) : LitAt w lo L := by
 refine ⟨l, fun k hk => ?_⟩
 match k, hk with
 | 0, _ => exact ⟨R0, l0, hL.cell 0, fun i hi => by
  match i, hi with
  | 0, _ => exact ⟨_, 1, ⟨#[118]⟩, rfl, rfl, rfl, rec_f h0 rfl rfl rfl rfl (.inl ⟨rfl, rfl⟩) rfl (by decide)⟩
  | 1, _ => exact ⟨_, 1, ⟨#[118]⟩, rfl, rfl, rfl, rec_f h0 rfl rfl rfl rfl (.inl ⟨rfl, rfl⟩) rfl (by decide)⟩⟩
 | 1, _ => exact ⟨R1, l1, hL.cell 1, fun i hi => by
  match i, hi with
  | 0, _ => exact ⟨_, 1, ⟨#[118]⟩, rfl, rfl, rfl, rec_f h1 rfl rfl rfl rfl (.inl ⟨rfl, rfl⟩) rfl (by decide)⟩⟩
 | 2, _ => exact ⟨R2, l2, hL.cell 2, fun i hi => by
  match i, hi with
  | 0, _ => exact ⟨_, 2, ⟨#[]⟩, rfl, rfl, rfl, rec_f h2 rfl rfl rfl rfl (.inr ⟨rfl, rfl, rfl⟩) rfl (by decide)⟩⟩
 | 3, _ => exact ⟨R3, l3, hL.cell 3, fun i hi => by
  match i, hi with
  | 0, _ => exact ⟨_, 1, ⟨#[118]⟩, rfl, rfl, rfl, rec_f h3 rfl rfl rfl rfl (.inl ⟨rfl, rfl⟩) rfl (by decide)⟩⟩
set_option maxHeartbeats 4000000 in
theorem example36 {w : World} (hdb : DbAt w) (hse : SealAt w) (hdr : DropAt w) (hlo : LoadAt w) :
 Calls Tryz.prog 66 #[] w fun e w' => ∃ D B X, e = .returned (.tuple #[.pointer (some ⟨D, 0, none⟩), .pointer (some ⟨B, 0, none⟩), .pointer (some ⟨X, 0, none⟩), .bool true]) ∧ ∃ Z wb, ExS Z wb w' D B X 5 5 4 4 ∧ Old w wb ∧ ∀ b, b < w.heap.size → Z b := by
 have HND : Hid (∀ w, Calls Tryz.prog 37 #[.int .i64 6, .int .i64 60] w (NewDev w 6 60)) := Lib.hid (fun w => dev_new (n := 6) (size := 60) (by omega) (by omega) (by omega) (by omega))
 have HNT : Hid (∀ w, Calls Tryz.prog 38 #[.int .i64 6, .int .i64 2] w (fun e w' => e = .returned (.tuple #[.pointer (some ⟨w.heap.size, 0, none⟩), .int .i64 0]) ∧ NewTab w 6 2 w')) := Lib.hid (fun w => tab_new (n := 6) (r := 2) (by omega) (by omega) (by omega))
 have HNI : Hid (∀ w, Calls Tryz.prog 39 #[.int .i64 6] w (NewIdx w 6)) := Lib.hid (fun w => idx_new (n := 6) (by omega) (by omega))
 have HST := Lib.hid (fun (w1 w2 w3 : World) (e1 e3 : Ending) => ex_start (w1 := w1) (w2 := w2) (w3 := w3) (e1 := e1) (e3 := e3) (n := 6) (size := 60) (r := 2) (by omega) (by omega) (by omega) (by omega) (by omega) hdb hse hdr)
 have HLO := Lib.hid hlo
 clear hdb hse hdr hlo
 have HP1 := Lib.hid trivial
 have HP2 := Lib.hid trivial
 have HP3 := Lib.hid trivial
 go_enter Tryz.func66, Tryz.ntmps66
 go_wp2_with (first | (go_at_call 37; refine (HND.out _).mono ?_; rintro e1 w1 ⟨D, K, T, M, v, rfl, hd⟩; have HD1 := Lib.hid (show NewDev w 6 60 _ w1 from ⟨D, K, T, M, v, rfl, hd⟩); clear hd) | (go_at_call 38; refine (HNT.out _).mono ?_; rintro e2 w2 ⟨rfl, ht⟩; have HT2 := Lib.hid ht; clear ht) | (go_at_call 39; refine (HNI.out _).mono ?_; rintro e3 w3 ⟨X, O, S, rfl, hi⟩; have HI3 := Lib.hid (show NewIdx w2 6 _ w3 from ⟨X, O, S, rfl, hi⟩); clear hi) | (go_at_call 141; have _ := HP1; refine put36.mono ?_; rintro e4 wa ⟨rfl, hU⟩; have Ha := Lib.hid hU; clear hU HP1) | (go_at_call 141; have _ := HP2; refine put36.mono ?_; rintro e4 wb ⟨rfl, hU⟩; have Hb := Lib.hid hU; clear hU HP2) | (go_at_call 141; have _ := HP3; refine put36.mono ?_; rintro e4 wc ⟨rfl, hU⟩; have Hc := Lib.hid hU; clear hU HP3) | (go_at_call 141; refine put36.mono ?_; rintro e4 wd ⟨rfl, hU⟩; have Hd := Lib.hid hU; clear hU))
 have U1 := Hb.out
 have z3 : w3.heap.size ≤ wa.heap.size := Ha.out.size
 have za : wa.heap.size ≤ wb.heap.size := Hb.out.size
 have zb : wb.heap.size + 1 ≤ wc.heap.size := by have := Hc.out.size; simpa using this
 have zc : wc.heap.size + 2 ≤ wd.heap.size := by have := Hd.out.size; simpa using this
 have HL := Lib.hid (lit_at (lo := w3.heap.size) (L := wd.heap.size + 1) (R0 := wb.heap.size) (R1 := wc.heap.size) (R2 := wc.heap.size + 1) (R3 := wd.heap.size) (by omega) (by omega) (by omega) (by omega) (by omega)
  (by have := Has.new (wd.alloc (.cells #[.int .i64 1, .int .i64 3, .string ⟨#[97]⟩, .string ⟨#[118]⟩] 170)) 210 #[.slice (some ⟨wb.heap.size, 0, none⟩) 2 2, .slice (some ⟨wc.heap.size, 0, none⟩) 1 1, .slice (some ⟨wc.heap.size + 1, 0, none⟩) 1 1, .slice (some ⟨wd.heap.size, 0, none⟩) 1 1]; simpa using this)
  (((Old.has Hd.out (((Old.has Hc.out (Has.new wb _ _)).alloc _).alloc _)).alloc _).alloc _)
  (((Old.has Hd.out ((Has.new wc _ _).alloc _)).alloc _).alloc _)
  (((Old.has Hd.out (by have := Has.new (wc.alloc (.cells #[.int .i64 1, .int .i64 3, .string ⟨#[97]⟩, .string ⟨#[118]⟩] 170)) 170 #[.int .i64 2, .int .i64 4, .string ⟨#[98]⟩, .string ⟨#[]⟩]; simpa using this)).alloc _).alloc _)
  ((Has.new wd _ _).alloc _))
 have HW := Lib.hid (((((Ha.out.trans Hb.out).alloc (.cells #[.int .i64 1, .int .i64 1, .string ⟨#[97]⟩, .string ⟨#[118]⟩, .int .i64 1, .int .i64 2, .string ⟨#[98]⟩, .string ⟨#[118]⟩] 170)).trans Hc.out).alloc (.cells #[.int .i64 1, .int .i64 3, .string ⟨#[97]⟩, .string ⟨#[118]⟩] 170)).alloc (.cells #[.int .i64 2, .int .i64 4, .string ⟨#[98]⟩, .string ⟨#[]⟩] 170))
 have HW2 := Lib.hid (((HW.out.trans Hd.out).alloc (.cells #[.int .i64 1, .int .i64 3, .string ⟨#[97]⟩, .string ⟨#[118]⟩] 170)).alloc (.cells #[.slice (some ⟨wb.heap.size, 0, none⟩) 2 2, .slice (some ⟨wc.heap.size, 0, none⟩) 1 1, .slice (some ⟨wc.heap.size + 1, 0, none⟩) 1 1, .slice (some ⟨wd.heap.size, 0, none⟩) 1 1] 210))
 obtain ⟨D', X', q1, q3, hO, col, s, x, hE, he, hi, ho, hle, hz⟩ := HST.out _ _ _ _ _ HD1.out HT2.out HI3.out
 injection q1 with q1
 injection q1 with q1
 obtain rfl : D = D' := by simpa using q1
 injection q3 with q3
 injection q3 with q3
 obtain rfl : X = X' := by simpa using q3
 generalize hWW : World.alloc (World.alloc wd _) _ = W at *
 have HI : Hid (ExS (fun b => b < w.heap.size ∨ w3.heap.size ≤ b) W W D w1.heap.size X 0 0 0 0) := Lib.hid ⟨⟨col, s, x, hE.old HW2.out, he, fun j hj => ⟨(hi j hj).1, by rw [(hi j hj).2.1]; rfl, fun h => by omega⟩, by omega, by omega, hle, fun b hb hZ => by
  rcases hZ with hZ | hZ
  ·exact hz b hZ
  ·exact hE.new b hZ⟩, Upd.refl _ _⟩
 have HOW := Lib.hid (hO.trans HW2.out)
 have HLW := Lib.hid (HLO.out.upd HOW.out (fun x => x))
 have hZl : 2 < w.heap.size := World.block_lt_of_cell? w _ HLO.out.1
 generalize hBB : w1.heap.size = B at *
 generalize hlo : w3.heap.size = lo at *
 generalize hLL : wd.heap.size + 1 = L at *
 clear hE he hi ho hle hz q1 q3 HST HD1 HT2 HI3 Ha Hb Hc Hd HW HW2 U1 z3 za zb zc HND HNT HNI hWW hO HLO hBB hlo hLL
 have hZ : ∀ b, lo ≤ b → ¬ ¬ (b < w.heap.size ∨ lo ≤ b) := fun b h h' => h' (.inr h)
 have HZ := Lib.hid hZ
 clear hZ
 go_loopw [12] (fun i wr => ∃ k : Nat, k ≤ 4 ∧ i = .int .i64 k ∧ ExS (fun b => b < w.heap.size ∨ lo ≤ b) W wr D B X (exB k) (exB k) k k) (fun i _ => 4 - (intOf i).toNat)
 case atStart => exact ⟨0, by omega, rfl, HI.out⟩
 case round =>
  obtain ⟨k, hk, rfl, hS⟩ := hrel
  by_cases hlt : k < 4
  ·obtain ⟨R, hR1, cR, -⟩ := (HL.out.upd hS.u HZ.out).2 k hlt
   have HS := Lib.hid hS
   have hg : (k : Int) < 4 := by omega
   have hc2 : exC k ≤ 2 := by unfold exC; split <;> omega
   clear hS
   go_wp2
   go_loopw [13, 14] (fun o i wr' => ∃ j : Nat, j ≤ exC k ∧ i = .int .i64 j ∧ o = .int .i64 ((exO (exB k + j) k : Nat) : Int) ∧ ExS (fun b => b < w.heap.size ∨ lo ≤ b) W wr' D B X (exB k + j) (exB k + j) k k) (fun _ i _ => exC k - (intOf i).toNat)
   case atStart => exact ⟨0, Nat.zero_le _, rfl, by rw [Nat.add_zero, (by decide : ∀ k, k < 4 → exO (exB k) k = 0) k hlt]; rfl, HS.out⟩
   case round =>
    clear cR
    obtain ⟨j, hj, rfl, rfl, hY⟩ := hrel
    obtain ⟨R, hR1, cR, hrec⟩ := (HL.out.upd hY.u HZ.out).2 k hlt
    by_cases hjl : j < exC k
    ·obtain ⟨e, kd, vl, he, hs, ho, hf⟩ := hrec j hjl
     have hso := exO_succ he
     obtain ⟨-, -, -, -, hs0, hs60, -, -⟩ := ex_fact he
     rw [hs] at hso hs60
     have HENC := Lib.hid (fun W' : World => hf.enc (w := W') he)
     have HENT : Hid (∀ W' : World, Calls Tryz.prog 106 #[.agg #[.int .i64 ((kd : Nat) : Int), .int .i64 ((e.seq : Nat) : Int), .string e.key, .string vl], .int .i64 ((k : Nat) : Int), .int .i64 ((exO (exB k + j) k : Nat) : Int)] W' fun en w' => en = .returned (.tuple #[.agg #[.int .i64 ((e.seq : Nat) : Int), .string e.key, .bool e.del, .int .i64 ((k : Nat) : Int), .int .i64 ((exO (exB k + j) k : Nat) : Int), .int .i64 ((e.size : Nat) : Int)], .int .i64 0]) ∧ Old W' w') := Lib.hid (fun W' => by
      have := hf.ent (w := W') he
      unfold Ent.val at this
      rw [hs, ho] at this
      exact this)
     have HAPP : Hid (∀ {w1 : World} {v : Value} {bs : List UInt8}, Old wr w1 → Fresh wr v → BytesAt w1 v bs → bs.length = e.size → Calls Tryz.prog 107 #[.pointer (some ⟨D, 0, none⟩), .int .i64 ((k : Nat) : Int), v] w1 fun en w' => en = .returned (.int .i64 0) ∧ ExS (fun b => b < w.heap.size ∨ lo ≤ b) W w' D B X (exB k + j + 1) (exB k + j) k k ∧ Upd (fun b => b < wr.heap.size) w1 w') := Lib.hid (fun U hF hb hl => by
      have := hY.append he (by omega) U hF hb hl (by omega)
      rw [hs] at this
      exact this)
     have HADD : Hid (∀ {w' : World}, ExS (fun b => b < w.heap.size ∨ lo ≤ b) W w' D B X (exB k + j + 1) (exB k + j) k k → Calls Tryz.prog 64 #[.pointer (some ⟨X, 0, none⟩), .agg #[.int .i64 ((e.seq : Nat) : Int), .string e.key, .bool e.del, .int .i64 ((k : Nat) : Int), .int .i64 ((exO (exB k + j) k : Nat) : Int), .int .i64 ((e.size : Nat) : Int)]] w' fun en w2 => en = .returned (.int .i64 0) ∧ ExS (fun b => b < w.heap.size ∨ lo ≤ b) W w2 D B X (exB k + j + 1) (exB k + j + 1) k k) := Lib.hid (fun h => by
      have := h.add he
      unfold Ent.val at this
      rw [hs, ho] at this
      exact this)
     have c0 := hf.c0
     have c1 := hf.c1
     have c2 := hf.c2
     have c3 := hf.c3
     have cL := (HL.out.upd hY.u HZ.out).2 k hlt
     have HY := Lib.hid hY
     have HSO := Lib.hid hso
     have hj4 : (j : Int) < (exC k : Int) := by omega
     generalize hoff : exO (exB k + j) k = off at *
     clear hf hrec he hY hso hs ho
     clear cL HI HLW HOW
     go_wp2_with (first | (go_at_call 103; refine (HENC.out _).mono ?_; rintro e1 w4 ⟨v4, bs, rfl, hb, hl, hU, hfr⟩; obtain ⟨ad, c4, rfl, -⟩ := hb.lt (by omega); have cR := Old.cellOf' hU cR; have c0 := Old.cellOf' hU c0; have c1 := Old.cellOf' hU c1; have c2 := Old.cellOf' hU c2; have c3 := Old.cellOf' hU c3; have wz : IntKind.i64.wrap ((off : Int) + (bs.length : Int)) = (off : Int) + (bs.length : Int) := IntWalk.i64_in _ (by omega); have HB := Lib.hid hb; have HL4 := Lib.hid hl; have H4 := Lib.hid hU; have HF4 := Lib.hid hfr; clear hb hl hU hfr) | (go_at_call 106; refine (HENT.out _).mono ?_; rintro e2 w5 ⟨rfl, hU⟩; have H5 := Lib.hid hU; clear hU) | (go_at_call 107; refine (HAPP.out ((H4.out.trans H5.out).alloc _) HF4.out ((HB.out.old H5.out).old ((Upd.refl _ w5).alloc _)) HL4.out).mono ?_; rintro e3 w6 ⟨rfl, hS6, hU6⟩; have hT := hU6.has (Has.new w5 47 #[.int .i64 ((e.seq : Nat) : Int), .string e.key, .bool e.del, .int .i64 ((k : Nat) : Int), .int .i64 ((off : Nat) : Int), .int .i64 ((e.size : Nat) : Int)]) (fun h => by have := (H4.out.trans H5.out).size; omega); have t0 := hT.cell 0; have t1 := hT.cell 1; have t2 := hT.cell 2; have t3 := hT.cell 3; have t4 := hT.cell 4; have t5 := hT.cell 5; have H6 := Lib.hid hS6; clear hS6 hU6 hT) | (go_at_call 64; refine (HADD.out H6.out).mono ?_; rintro e3 w7 ⟨rfl, hS7⟩; have H7 := Lib.hid hS7; clear hS7))
     go_roundw
     case rel => exact ⟨j + 1, by omega, by go_num, by have := HSO.out; rw [show exB k + (j + 1) = exB k + j + 1 from rfl, this, ← HL4.out]; go_num, H7.out⟩
     case measure => simp [intOf]; omega
    ·obtain rfl : j = exC k := by omega
     have hY' := hY
     rw [ex_next hlt] at hY'
     have HY := Lib.hid hY'
     have hb5 : exB (k + 1) ≤ 5 := by unfold exB; split <;> omega
     have hLd : LoadAt W := HLW.out
     clear hY hY' hrec
     have HLD := Lib.hid hLd
     clear hLd
     go_wp2_with (first | (go_at_call 108; refine (HY.out.sync hlt hb5).mono ?_; rintro e1 w4 ⟨rfl, hS⟩; have H4 := Lib.hid hS; clear hS) | (go_at_call 142; refine (H4.out.load hlt HLD.out (.inl hZl)).mono ?_; rintro e1 w5 ⟨rfl, hS⟩; have H5 := Lib.hid hS; clear hS))
     go_roundw
     case rel => exact ⟨k + 1, by omega, by go_num, H5.out⟩
     case measure => simp [intOf]; omega
  ·obtain rfl : k = 4 := by omega
   have HS := Lib.hid hS
   clear hS
   go_wp2
   exact bodyPost_ret (v := .tuple #[.pointer (some ⟨D, 0, none⟩), .pointer (some ⟨B, 0, none⟩), .pointer (some ⟨X, 0, none⟩), .bool true]) (by simp [results, Tryz.results66, go_sem]) rfl ⟨D, B, X, rfl, _, W, HS.out, HOW.out, fun b hb => .inl hb⟩
end Go.M
namespace Go.M
open Go.Proofs Go.RowKit Go.Shelf
set_option linter.unusedSimpArgs false
attribute [local go_sem] Oper.semAt_some
def bitsL (x k : Nat) : List Nat := (List.range k).filter fun i => x.testBit i
theorem bitsL_succ (x k : Nat) : bitsL x (k + 1) = bitsL x k ++ (if x.testBit k = true then [k] else []) := by
 unfold bitsL
 rw [List.range_succ, List.filter_append]
 congr 1
 by_cases h : x.testBit k = true
 ·simp [h]
 ·simp [h]
theorem sset_valid {w : World} {Z n : Nat} (n0 : w.cell? ⟨Z, 0, none⟩ = some (.int .i64 ((n : Nat) : Int))) (p0 : 0 < n) :
 Calls Tryz.prog 160 #[.pointer (some ⟨Z, 0, none⟩)] w fun e w' => e = .returned (.bool true) ∧ w = w' := by
 go_enter Tryz.func160, Tryz.ntmps160
 go_wp2
 go_ret
 exact ⟨by simp [p0], rfl⟩
theorem sall_w {w : World} {PS Z n x : Nat} (d : Nat) (hd : 1 ≤ d) (hn : 0 < n) (hn2 : n ≤ 34) (hx : x < 2 ^ 34) :
 SeqW Fence.wide d Tryz.prog 166 #[.pointer (some ⟨PS, 0, none⟩)] (fun i : Nat => #[.int .i64 ((i : Nat) : Int)]) (fun _ V => V.cell? ⟨PS, 0, none⟩ = some (.pointer (some ⟨Z, 0, none⟩)) ∧ V.cell? ⟨Z, 0, none⟩ = some (.int .i64 ((n : Nat) : Int)) ∧ V.cell? ⟨Z, 1, none⟩ = some (.int .u64 ((x : Nat) : Int)))
  (fun pre i => i < n ∧ x.testBit i = true ∧ pre = bitsL x i) (fun xs => xs = bitsL x n) w := by
 intro l J Jx Wr W hW hJ hJx hG _ hY h0
 obtain ⟨c1, z0, z1⟩ := hG _ _ h0
 have HV := Lib.hid (sset_valid z0 hn)
 refine callsIn_wide.2 (callsIn_wide (n := d).1 ?_)
 refine callsIn_of_wp Tryz.func166 rfl trivial ?_ rfl
 simp only [Tryz.ntmps166, List.size_toArray, List.length_cons, List.length_nil, Nat.reduceAdd, Nat.reduceSub, Array.replicate_succ, Array.replicate_zero, List.push_toArray, List.append_toArray, List.nil_append, List.cons_append]
 have HY := Lib.hid hY
 have HJ := Lib.hid hJ
 have HG := Lib.hid hG
 clear hY hJ hG hJx
 gi_wp2_with (first | (refine ⟨trivial, ?_⟩; gi_at_call 160; refine (callsIn_wide.2 HV.out).mono ?_; rintro e w1 ⟨rfl, rfl⟩))
 gi_loopw [16] (fun i wr => ∃ k : Nat, k ≤ n ∧ i = .int .i64 k ∧ J (bitsL x k) wr) (fun i _ => n - (intOf i).toNat)
 case atStart => exact ⟨0, Nat.zero_le _, rfl, h0⟩
 case round =>
  obtain ⟨k, hk, rfl, hJs⟩ := hrel
  by_cases hlt : k < n
  ·have hbit := bit_of x k hx
   have hs := bitsL_succ x k
   cases hb : x.testBit k with
   | true =>
    rw [hb] at hbit
    rw [hb, if_pos rfl] at hs
    obtain ⟨fn, tmps, assign, body, hy, hR⟩ := HY.out _ k wr hJs ⟨hlt, hb, rfl⟩
    clear hb
    gi_wp2
    refine hR.mono ?_
    rintro e W3 ⟨-, ⟨rfl, hJ3, -⟩ | ⟨rfl, hJx3⟩⟩
    ·gi_wp2
     go_roundw
     case rel => exact ⟨k + 1, by omega, by simp, by rw [hs]; exact hJ3⟩
     case measure => simp [intOf]; omega
    ·gi_wp2
     refine bodyPost_ret (results_none rfl _ _ _) rfl ?_
     exact ⟨⟨_, rfl⟩, .inr ⟨_, hJx3⟩⟩
   | false =>
    rw [hb] at hbit
    rw [hb, if_neg (by decide), List.append_nil] at hs
    clear hb
    gi_wp2
    refine ⟨(fun f h => by cases h), ?_⟩
    gi_wp2
    go_roundw
    case rel => exact ⟨k + 1, by omega, by simp, by rw [hs]; exact hJs⟩
    case measure => simp [intOf]; omega
  ·obtain rfl : k = n := by omega
   gi_wp2
   go_end0
   exact ⟨⟨_, rfl⟩, .inl ⟨_, rfl, hJs⟩⟩
theorem sall_walk {w : World} {Z : Nat} :
 Calls Tryz.prog 86 #[.pointer (some ⟨Z, 0, none⟩)] w fun e w' => ∃ PS, e = .returned (.func (.func 166) #[] #[.pointer (some ⟨PS, 0, none⟩)]) ∧ w.heap.size ≤ PS ∧ w'.cell? ⟨PS, 0, none⟩ = some (.pointer (some ⟨Z, 0, none⟩)) ∧ Old w w' := by
 go_enter Tryz.func86, Tryz.ntmps86
 go_wp2
 go_ret
 exact ⟨_, rfl, Nat.le_refl _, by go_simp, (Upd.refl _ w).alloc _⟩
def stL (st : Nat → Nat) (k a : Nat) : List Nat := (List.range k).filter fun i => st i == a
theorem BitsOf.list {x n a : Nat} {st : Nat → Nat} (h : BitsOf x n st a) {k : Nat} (hk : k ≤ n) : bitsL x k = stL st k a :=
 List.filter_congr fun i hi => h.2 i (by have := List.mem_range.1 hi; omega)
structure TiG (PT PQ B z n x : Nat) (V : World) : Prop where
 pt : V.cell? ⟨PT, 0, none⟩ = some (.pointer (some ⟨B, 0, none⟩))
 pq : V.cell? ⟨PQ, 0, none⟩ = some (.int .i64 2)
 b0 : V.cell? ⟨B, 0, none⟩ = some (.int .i64 ((n : Nat) : Int))
 b4 : V.cell? ⟨B, 4, none⟩ = some (.pointer (some ⟨z, 0, none⟩))
 z0 : V.cell? ⟨z, 0, none⟩ = some (.int .i64 ((n : Nat) : Int))
 z1 : V.cell? ⟨z, 1, none⟩ = some (.int .u64 ((x : Nat) : Int))
theorem TiG.old {PT PQ B z n x : Nat} {V V' : World} (h : TiG PT PQ B z n x V) (U : Old V V') : TiG PT PQ B z n x V' :=
 ⟨Old.cellOf' U h.pt, Old.cellOf' U h.pq, Old.cellOf' U h.b0, Old.cellOf' U h.b4, Old.cellOf' U h.z0, Old.cellOf' U h.z1⟩
set_option maxHeartbeats 1000000 in
theorem tin_w {w : World} {PT PQ B z n x : Nat} {st : Nat → Nat} (d : Nat) (hd : 1 ≤ d) (hn : 0 < n) (hn2 : n ≤ 10) (hx : BitsOf x n st 2) :
 SeqW Fence.wide d Tryz.prog 84 #[.pointer (some ⟨PT, 0, none⟩), .pointer (some ⟨PQ, 0, none⟩)] (fun i : Nat => #[.int .i64 ((i : Nat) : Int)]) (fun _ V => TiG PT PQ B z n x V)
  (fun pre i => i < n ∧ st i = 2 ∧ pre = stL st i 2) (fun xs => xs = stL st n 2) w := by
 intro l J Jx Wr W hW hJ hJx hG hWr hY h0
 have hg := hG _ _ h0
 have hx34 : x < 2 ^ 34 := Nat.lt_of_lt_of_le hx.1 (Nat.pow_le_pow_right (n := 2) (by omega) (by omega))
 have HJ := Lib.hid hJ
 have HJX := Lib.hid hJx
 have HWr := Lib.hid hWr
 have HY := Lib.hid hY
 have H0 := Lib.hid h0
 clear hJ hJx hWr hY h0 hG
 refine callsIn_of_wp_marks Tryz.func84 rfl trivial ?_ rfl
 simp only [Tryz.ntmps84, List.size_toArray, List.length_cons, List.length_nil, Nat.reduceAdd, Nat.reduceSub, Array.replicate_succ, Array.replicate_zero, List.push_toArray, List.append_toArray, List.nil_append, List.cons_append]
 refine wpIn_wide.2 ?_
 have HGI := Lib.hid hg
 obtain ⟨pt, pq, b0, b4, z0, z1⟩ := hg
 have lpt := World.block_lt_of_cell? W _ pt
 have lpq := World.block_lt_of_cell? W _ pq
 have lb := World.block_lt_of_cell? W _ b0
 simp only at lpt lpq lb
 have hn' : (0 : Int) < (n : Int) := by omega
 go_wp2_with (first | go_in)
 have HC := Lib.hid (fun (V : World) (U : Old W V) => set_copy (HGI.out.old U).z0 (HGI.out.old U).z1 hn)
 have HA := Lib.hid (fun (V : World) (C : Nat) => sall_walk (w := V) (Z := C))
 generalize hW1 : World.alloc W _ = W1
 have U1 : Old W W1 := by subst hW1; exact (Upd.refl _ W).alloc _
 have b1 : W1.cell? ⟨W.heap.size, 0, none⟩ = some (.func (.yield l) #[] #[]) := by subst hW1; go_simp
 clear hW1
 have HG1 := HGI.out.old U1
 obtain ⟨e1, e2, e3, e4, -, -⟩ := HG1
 have HU1 := Lib.hid U1
 have HB1 := Lib.hid b1
 clear U1 b1 pt pq b0 b4 z0 z1
 go_region_held3 (fun x => x.cell? ⟨PT, 0, none⟩ = some (.pointer (some ⟨B, 0, none⟩)) ∧ x.cell? ⟨PQ, 0, none⟩ = some (.int .i64 2) ∧ x.cell? ⟨B, 4, none⟩ = some (.pointer (some ⟨z, 0, none⟩)))
  (first | go_keep | (exact ⟨(HGI.out.old U3.out).pt, (HGI.out.old U3.out).pq, (HGI.out.old U3.out).b4⟩) | (exact ⟨(HGI.out.old U2.out).pt, (HGI.out.old U2.out).pq, (HGI.out.old U2.out).b4⟩))
  (first | (go_at_call 85; refine (HC.out _ ?_).mono ?_; (exact HU1.out.drew); rintro e w2 ⟨C, rfl, hC1, hC2, hO⟩; have HC2 := Lib.hid (And.intro hC1 (And.intro hC2 hO)); have U2 := Lib.hid (Upd.trans HU1.out.drew hO); clear hC1 hC2 hO HC) | (go_at_call 86; refine (HA.out _ _).mono ?_; rintro e w3 ⟨PS, rfl, hP1, hP2, hO⟩; have HP := Lib.hid (And.intro hP1 (And.intro hP2 hO)); have U3 := Lib.hid (Upd.trans U2.out hO); clear hP1 hP2 hO HA))
 go_wp2
 obtain ⟨hC1, hC2, hC3⟩ := HC2.out
 obtain ⟨hP1, hP2, hP3⟩ := HP.out
 have sz1 := HU1.out.size
 have sz2 := hC3.size
 have sz3 := hP3.size
 have lC := hC2.lt
 have cC := Old.has hP3 hC2
 have cb := Old.cellOf' (Upd.trans hC3 hP3) HB1.out
 have hWs := World.block_lt_of_cell? W1 _ HB1.out
 simp only at hWs
 have hU3 := U3.out
 have nw : ∀ k, W.heap.size ≤ k → ¬ Wr w3 k := fun k hk hw => by
  obtain ⟨o, h1, -⟩ := HWr.out.cells _ _ _ H0.out (HWr.out.by_old H0.out hU3 hw)
  have := (Array.getElem?_eq_some_iff.1 h1).1
  omega
 have HX := Lib.hid hx
 have hCW : W.heap.size ≤ C := by simp at hC1; omega
 have hPW : W.heap.size ≤ PS := by omega
 have HN := Lib.hid (And.intro (own_by_old HJ.out H0.out hU3) (And.intro cb (And.intro hP2 (And.intro (cC.cell 0) (cC.cell 1)))))
 clear hC1 hC2 hC3 hP1 hP2 hP3 cC cb e1 e2 e3 e4 hx hU3
 refine (wpIn_wide (n := 8)).1 ?_
 refine name_tmps fun T0 hT0 => ?_
 simp only at hT0
 have grow : ∀ {A B' : World} {pre : List Nat} {row : Option Nat}, J pre A → A.grownBy B' row → (∀ r, row = some r → w3.heap.size ≤ r ∧ ∃ o : Obj, A.heap[r]? = some o ∧ o.isCells = false) → ∀ k, Wr B' k → Wr A k := fun hj hg hr k hw => HWr.out.step _ _ _ _ hj hg (fun r e => ⟨by have := (hr r e).1; omega, (hr r e).2⟩) k hw
 refine range_w rfl (by omega) (gf := 166) (lb := #[.pointer (some ⟨PS, 0, none⟩)]) rfl trivial (enters_of Tryz.func166 (by kernel_rfl) rfl) (encs := fun i : Nat => #[.int .i64 ((i : Nat) : Int)]) (fun _ => rfl)
  (sall_w (PS := PS) (Z := C) (n := n) (x := x) 7 (by omega) hn (by omega) hx34)
  (fun pre V => J pre V ∧ V.cell? ⟨W.heap.size, 0, none⟩ = some (.func (.yield l) #[] #[]) ∧ ¬ Wr V W.heap.size ∧ (V.cell? ⟨PS, 0, none⟩ = some (.pointer (some ⟨C, 0, none⟩)) ∧ V.cell? ⟨C, 0, none⟩ = some (.int .i64 ((n : Nat) : Int)) ∧ V.cell? ⟨C, 1, none⟩ = some (.int .u64 ((x : Nat) : Int))) ∧ ¬ Wr V PS ∧ ¬ Wr V C)
  (fun c V => c = .ret ∧ ∃ pre, Jx pre V) Wr (HWr.out.mono (by omega) (fun _ _ h => h.1))
  (fun pre A B' row hs hg hr => ⟨HJ.out _ _ _ _ hs.1 hg (fun r e => ⟨by have := (hr r e).1; omega, (hr r e).2⟩), cell_kept hs.2.1 hg (fun r e => (hr r e).2), fun h => hs.2.2.1 (grow hs.1 hg hr _ h), ⟨cell_kept hs.2.2.2.1.1 hg (fun r e => (hr r e).2), cell_kept hs.2.2.2.1.2.1 hg (fun r e => (hr r e).2), cell_kept hs.2.2.2.1.2.2 hg (fun r e => (hr r e).2)⟩, fun h => hs.2.2.2.2.1 (grow hs.1 hg hr _ h), fun h => hs.2.2.2.2.2 (grow hs.1 hg hr _ h)⟩)
  (fun c _ A B' row hs hg hr => ⟨hs.1, by obtain ⟨pre, h⟩ := hs.2; exact ⟨pre, HJX.out _ _ _ _ h hg (fun r e => ⟨by have := (hr r e).1; omega, (hr r e).2⟩)⟩⟩)
  ⟨HN.out.1, HN.out.2.1, nw _ (Nat.le_refl _), HN.out.2.2, nw _ hPW, nw _ hCW⟩ (fun pre V h => h.2.2.2.1)
  (fun i => { tmps := (T0.setIfInBounds 24 (.int .i64 ((i : Nat) : Int))).setIfInBounds 4 (.int .i64 ((i : Nat) : Int)), defers := [] })
  ?assign ?body ?done ?stop
 case assign =>
  intro l2 x V K hK
  simp only [hT0, List.setIfInBounds_toArray, List.set_cons_zero, List.set_cons_succ] at hK
  subst hT0
  gi_wp2
  exact hK
 case body =>
  rintro l2 pre x V hl ⟨hJ1, c1, n1, ⟨g1, g2, g3⟩, n2, n3⟩ ⟨o1, o2, o3⟩
  have o4 : st x = 2 := by have := HX.out.2 x o1; rw [o2] at this; simpa using this.symm
  obtain ⟨fn, tmps, assign, body, hy, hR⟩ := HY.out pre x V hJ1 ⟨o1, o4, by rw [o3]; exact HX.out.list (by omega)⟩
  simp only [hT0, List.setIfInBounds_toArray, List.set_cons_zero, List.set_cons_succ]
  clear o2 o3 o4
  gi_wp2
  refine (RoundIn.into rfl hR).mono ?_
  rintro e V' ⟨hk, ⟨rfl, hJ2, hf⟩ | ⟨rfl, hJx2⟩⟩
  ·gi_wp2
   have l1 := World.block_lt_of_cell? V _ c1
   have l2 := World.block_lt_of_cell? V _ g1
   have l3 := World.block_lt_of_cell? V _ g2
   simp only at l1 l2 l3
   have nf : ∀ k, k < V.heap.size → ¬ Wr V k → ¬ Wr V' k := fun k h1 h2 h => by
    rcases hf _ h with h | h
    ·exact h2 h
    ·omega
   exact ⟨hk.mono (by omega), hf, hJ2, hk.cell c1 (Nat.le_refl _) n1, nf _ l1 n1, ⟨hk.cell g1 hPW n2, hk.cell g2 hCW n3, hk.cell g3 hCW n3⟩, nf _ l2 n2, nf _ l3 n3⟩
  ·gi_wp2
   exact ⟨hk.mono (by omega), rfl, _, hJx2⟩
 case done =>
  rintro D1 xs V1 hD rfl ⟨hJ1, -⟩ hKD
  gi_wp2
  refine ⟨by simp, .inl ⟨_, _, rfl, run_takeDeferred hKD, ?_⟩⟩
  refine ⟨_, results_none rfl _ _ _, ⟨_, rfl⟩, .inl ⟨_, HX.out.list (Nat.le_refl _), ?_⟩⟩
  exact HJ.out.putObj _ hJ1 (by omega) hKD rfl
 case stop =>
  rintro D1 c V1 hD ⟨rfl, pre, hJ1⟩ hKD
  gi_wp2
  refine ⟨by simp, .inl ⟨_, _, rfl, run_takeDeferred hKD, ?_⟩⟩
  refine ⟨_, results_none rfl _ _ _, ⟨_, rfl⟩, .inr ⟨pre, ?_⟩⟩
  exact HJX.out.putObj _ hJ1 (by omega) hKD rfl
end Go.M
namespace Go.M
open Go.Proofs Go.RowKit Go.Shelf
set_option linter.unusedSimpArgs false
attribute [local go_sem] Oper.semAt_some
def intsV (l : List Nat) : List Value := l.map fun i => .int .i64 ((i : Nat) : Int)
structure CoI (w : World) (pre : List Nat) (v : Value) (V : World) : Prop where
 h : Has V w.heap.size 48 #[v]
 r : V.ownsRow 0 3 1 v pre.length (intsV pre)
 n : ∀ b, v.ownBlock = some b → w.heap.size + 1 ≤ b
 o : Old w V
def CoW (w : World) (V : World) (k : Nat) : Prop := k = w.heap.size ∨ ∃ v, V.cell? ⟨w.heap.size, 0, none⟩ = some v ∧ v.ownBlock = some k
theorem CoI.own {w V : World} {k : Nat} {pre : List Nat} {v : Value} (h : CoI w pre v V) : CoW w V k ↔ k = w.heap.size ∨ v.ownBlock = some k := by
 have hc : V.cell? ⟨w.heap.size, 0, none⟩ = some v := h.h.cell 0
 unfold CoW
 rw [hc]
 simp
theorem CoI.grown {w A B : World} {pre : List Nat} {v : Value} {row : Option Nat} (h : CoI w pre v A) (hg : A.grownBy B row) (hr : ∀ r, row = some r → w.heap.size ≤ r ∧ ∃ o : Obj, A.heap[r]? = some o ∧ o.isCells = false) : CoI w pre v B := by
 have U : Upd (fun b => row = some b) A B := (Upd.refl _ A).grown hg (fun k e => .inl e)
 have nr : ∀ {b : Nat} {t : TypeId} {c : Array Value}, Has A b t c → ¬ row = some b := fun hh => not_row hh (fun r e => (hr r e).2)
 refine ⟨U.has h.h (nr h.h), Upd.own U h.r (fun b hb => ?_), h.n, h.o.grown hg (fun k e => .inr (hr k e).1)⟩
 obtain ⟨cur, hc⟩ := own_has' h.r hb
 exact nr hc
theorem CoI.put {w V w1 : World} {pre : List Nat} {i : Nat} {v v' : Value} {o : Obj} {B0 : Nat} (h : CoI w pre v V) (hB : w.heap.size ≤ B0) (hg : (V.alloc o).grownBy w1 v.ownBlock)
 (hown : w1.ownsRow 0 3 1 v' (pre.length + 1) (intsV pre ++ [.int .i64 ((i : Nat) : Int)])) (hfr : ∀ k, v'.ownBlock = some k → v.ownBlock = some k ∨ (V.alloc o).heap.size ≤ k) :
 KeepsW B0 (CoW w) V (w1.setCell ⟨w.heap.size, 0, none⟩ v') ∧ FreshW (CoW w) V (w1.setCell ⟨w.heap.size, 0, none⟩ v') ∧ ∃ v, CoI w (pre ++ [i]) v (w1.setCell ⟨w.heap.size, 0, none⟩ v') := by
 have hlt := h.h.lt
 have hn : ∀ b, v'.ownBlock = some b → w.heap.size + 1 ≤ b := fun b hb => by
  rcases hfr b hb with h5 | h5
  ·exact h.n b h5
  ·simp at h5; omega
 have U : Upd (fun b => v.ownBlock = some b) V w1 := ((Upd.refl _ V).alloc _).grown hg (fun k e => .inl e)
 have U2 : Upd (fun b => b = w.heap.size) w1 (w1.setCell ⟨w.heap.size, 0, none⟩ v') := (Upd.refl _ _).setCell _ _ (.inl rfl)
 have h1 := U.has h.h (fun e => by have := h.n _ e; omega)
 have hI : CoI w (pre ++ [i]) v' (w1.setCell ⟨w.heap.size, 0, none⟩ v') := by
  refine ⟨by have := h1.set 0 v'; simpa using this, ?_, hn, (h.o.after U (fun b hb e => by have := h.n _ e; omega)).setCell _ _ (.inr (Nat.le_refl _))⟩
  rw [List.length_append]
  unfold intsV
  rw [List.map_append]
  exact Upd.own U2 hown (fun b hb e => by have := hn b hb; omega)
 refine ⟨⟨Nat.le_trans U.size U2.size, fun k hk hl hw => ?_⟩, fun k hw => ?_, v', hI⟩
 ·rw [U2.keep k (by have := U.size; omega) (fun e => hw (h.own.2 (.inl e)))]
  exact U.keep k hl (fun e => hw (h.own.2 (.inr e)))
 ·rcases hI.own.1 hw with h5 | h5
  ·exact .inl (h.own.2 (.inl h5))
  ·rcases hfr k h5 with h6 | h6
   ·exact .inl (h.own.2 (.inr h6))
   ·exact .inr (by simp at h6; omega)
theorem CoI.far {w A B : World} {pre : List Nat} {v : Value} {n : Nat} (h : CoI w pre v A) (hn : w.heap.size + 1 ≤ n) (U : Upd (fun b => n ≤ b ∧ ¬ CoW w A b) A B) : CoI w pre v B :=
 ⟨U.has h.h (fun e => by have := e.1; omega), Upd.own U h.r (fun b hb e => e.2 (h.own.2 (.inr hb))), h.n, h.o.after U (fun b hb e => by have := e.1; omega)⟩
theorem CoI.st {w : World} {n b : Nat} {r : Loop} (hb : w.heap.size + 1 ≤ b) (hn : n = b + 2) : StW n (CoW w) (fun pre V => (∃ v, CoI w pre v V) ∧ Bk b r V) := by
 rintro pre X Y ⟨⟨v, h⟩, hk⟩ U
 have h' := h.far (by omega) U
 have hl := (Array.getElem?_eq_some_iff.1 hk.2).1
 exact ⟨⟨⟨v, h'⟩, (U.keep b (by omega) (fun e => by have := e.1; omega)).trans hk.1, (U.keep (b + 1) hl (fun e => by have := e.1; omega)).trans hk.2⟩, fun k hw => h.own.2 (h'.own.1 hw)⟩
abbrev SeqN (gf : Nat) (lb : Array Value) (G : List Nat → World → Prop) (ok : List Nat → Nat → Prop) (L : List Nat) (W : World) : Prop :=
 SeqK (fun W Wr J => StW W.heap.size Wr J) Fence.wide 7 Tryz.prog gf lb (fun i : Nat => #[.int .i64 ((i : Nat) : Int)]) G ok (fun xs => xs = L) W
theorem SeqN.of {gf : Nat} {lb : Array Value} {G : List Nat → World → Prop} {ok : List Nat → Nat → Prop} {L : List Nat} {W : World} (h : SeqW Fence.wide 7 Tryz.prog gf lb (fun i : Nat => #[.int .i64 ((i : Nat) : Int)]) G ok (fun xs => xs = L) W) : SeqN gf lb G ok L W :=
 fun l J Jx Wr W a b c d e _ f g => h l J Jx Wr W a b c d e f g
set_option maxHeartbeats 800000 in
theorem append_seq {w : World} {gf : Nat} {lb : Array Value} {G : List Nat → World → Prop} {ok : List Nat → Nat → Prop} {L : List Nat} (hen : ∀ args w, (callFunc gf args).run Tryz.prog w = .ok (.enter gf args) w)
 (hseq : ∀ W, Old w W → SeqN gf lb G ok L W) (hG : ∀ pre V, Old w V → G pre V) (hok : ∀ pre x, ok pre x → pre.length < 1000) :
 Calls Tryz.prog 157 #[.slice none 0 0, .func (.func gf) #[] lb] w (NewRow w 3 1 L.length (intsV L)) := by
 obtain ⟨i0, hi0, hz0, hz1, hz2⟩ := info_parts info_int
 refine (callsIn_wide (n := 8)).1 ?_
 refine callsIn_of_wp_marks Tryz.func157 rfl trivial ?_ rfl
 simp only [Tryz.ntmps157, List.size_toArray, List.length_cons, List.length_nil, Nat.reduceAdd, Nat.reduceSub, Array.replicate_succ, Array.replicate_zero, List.push_toArray, List.append_toArray, List.nil_append, List.cons_append]
 refine wpIn_wide.2 ?_
 go_wp2_with (first | go_in)
 generalize hW0 : World.alloc w _ = W0
 have U0 : Old w W0 := by subst hW0; exact (Upd.refl _ w).alloc _
 have c0 : Has W0 w.heap.size 48 #[.slice none 0 0] := by subst hW0; exact Has.new w _ _
 have z0 : W0.heap.size = w.heap.size + 1 := by subst hW0; simp
 clear hW0
 have hI0 : CoI w [] (.slice none 0 0) W0 := ⟨c0, World.ownsRow_nil _ _ _ _, fun b hb => (by cases hb), U0⟩
 refine (wpIn_wide (n := 8)).1 ?_
 refine name_tmps fun T0 hT0 => ?_
 simp only at hT0
 refine range_k rfl (by omega) (gf := gf) (lb := lb) rfl trivial hen (encs := fun i : Nat => #[.int .i64 ((i : Nat) : Int)]) (fun _ => rfl) (hseq W0 U0)
  (fun pre V => ∃ v, CoI w pre v V) (fun _ _ => False) (CoW w) ⟨fun s V k h hw => ?wc, fun s A B' row h hg hr k hw => ?ws⟩
  (fun pre A B' row hs hg hr => by obtain ⟨v, h⟩ := hs; exact ⟨v, h.grown hg (fun r e => ⟨by have := (hr r e).1; omega, (hr r e).2⟩)⟩)
  (fun _ _ _ _ _ h _ _ => h) ⟨_, hI0⟩ (fun pre V h => by obtain ⟨v, h⟩ := h; exact hG pre V h.o) (fun r V1 hz1 => CoI.st (by omega) hz1)
  (fun i => { tmps := (T0.setIfInBounds 7 (.int .i64 ((i : Nat) : Int))).setIfInBounds 5 (.int .i64 ((i : Nat) : Int)), defers := [] })
  ?assign ?body ?done ?stop
 case wc =>
  obtain ⟨v, h⟩ := h
  rcases h.own.1 hw with h1 | h1
  ·subst h1; exact ⟨_, h.h, rfl⟩
  ·obtain ⟨cur, hc⟩ := own_has' h.r h1
   exact ⟨_, hc, rfl⟩
 case ws =>
  obtain ⟨v, h⟩ := h
  exact h.own.2 ((h.grown hg (fun r e => ⟨by have := (hr r e).1; omega, (hr r e).2⟩)).own.1 hw)
 case assign =>
  intro l2 x V K hK
  simp only [hT0, List.setIfInBounds_toArray, List.set_cons_zero, List.set_cons_succ] at hK
  subst hT0
  gi_wp2
  exact hK
 case body =>
  rintro l2 pre x V hl ⟨v, hv⟩ hox
  have hlen := hok pre x hox
  have hcell : V.cell? ⟨w.heap.size, 0, none⟩ = some v := hv.h.cell 0
  have hfz := hv.h.frozen 0
  have hlt := hv.h.lt
  have HV := Lib.hid hv
  obtain ⟨va0, vc0, rfl⟩ := own_slice hv.r
  simp only [hT0, List.setIfInBounds_toArray, List.set_cons_zero, List.set_cons_succ]
  clear hv hox
  gi_wp2_with (gi_at_builtin; refine wpListIn_append_mk _ rfl _ _ 48 rfl 3 i0 (.int .i64 0) 1 8 Tryz.underlying48 hi0 hz0 hz1 hz2 rfl (by decide) (.slice va0 pre.length vc0) pre.length (intsV pre) rfl (by exact Upd.own ((Upd.refl _ V).alloc _) HV.out.r (fun _ _ x => x)) ⟨V.heap.size, 0, none⟩ 1 1 [.int .i64 ((x : Nat) : Int)] rfl rfl (one_new V _ _) (by simp [Value.oneCell']) (by unfold maxLen; omega) (by omega) ?_; intro v' w1 hown' hgrow hfr; have hc1 : w1.cell? ⟨w.heap.size, 0, none⟩ = some (.slice va0 pre.length vc0) := (by have U : Upd (fun b => (Value.slice va0 pre.length vc0).ownBlock = some b) V w1 := (((Upd.refl _ V).alloc _).grown hgrow (fun k e => .inl e)); exact U.cellOf (HV.out.h.cell 0) (fun e => by have := HV.out.n _ e; omega)); have hf1 : w1.frozen? ⟨w.heap.size, 0, none⟩ = false := (by have U : Upd (fun b => (Value.slice va0 pre.length vc0).ownBlock = some b) V w1 := (((Upd.refl _ V).alloc _).grown hgrow (fun k e => .inl e)); exact (U.has HV.out.h (fun e => by have := HV.out.n _ e; omega)).frozen 0); have hl1 := World.block_lt_of_cell? w1 _ hc1; obtain ⟨va, vc, rfl⟩ := own_slice hown')
  exact HV.out.put (by omega) hgrow hown' hfr
 case done =>
  rintro D1 xs V1 hD rfl ⟨v, h⟩ hKD
  have hcell : V1.cell? ⟨w.heap.size, 0, none⟩ = some v := h.h.cell 0
  have HV := Lib.hid h
  have hl1 := h.h.lt
  clear h
  go_wp2
  refine ⟨by simp, .inl ⟨_, _, rfl, run_takeDeferred hKD, ?_⟩⟩
  have h2 := HV.out.grown (grownBy_putObj' V1 D1 (.deferred none)) (fun r e => by cases e; exact ⟨by omega, _, hKD, rfl⟩)
  exact ⟨_, results_tmp rfl _ _ _, v, rfl, h2.r, h2.o, fun b hb => by have := h2.n b hb; omega⟩
 case stop =>
  rintro D1 c V1 _ h _
  exact h.elim
theorem collect {w : World} {gf : Nat} {lb : Array Value} {G : List Nat → World → Prop} {ok : List Nat → Nat → Prop} {L : List Nat} (hen : ∀ args w, (callFunc gf args).run Tryz.prog w = .ok (.enter gf args) w)
 (hseq : ∀ W, Old w W → SeqN gf lb G ok L W) (hG : ∀ pre V, Old w V → G pre V) (hok : ∀ pre x, ok pre x → pre.length < 1000) :
 Calls Tryz.prog 74 #[.func (.func gf) #[] lb] w (NewRow w 3 1 L.length (intsV L)) := by
 have HA := Lib.hid (append_seq hen hseq hG hok)
 clear hen hseq hG hok
 go_enter Tryz.func74, Tryz.ntmps74
 go_wp2_with (first | (go_at_call 157; refine HA.out.mono ?_; rintro e w1 ⟨v, rfl, h1, h2, h3⟩; have H1 := Lib.hid (And.intro h1 (And.intro h2 h3)); clear h1 h2 h3))
 go_ret
 exact ⟨v, rfl, H1.out.1, H1.out.2.1, H1.out.2.2⟩
end Go.M
namespace Go.M
open Go.Proofs Go.RowKit
set_option linter.unusedSimpArgs false
theorem ints36 {w : World} {L : List Nat} {g1 g2 c1 c2 : Nat} (h1 : ∀ i y, L[i]? = some y → w.cell? ⟨g1, i, none⟩ = some (.int .i64 ((y : Nat) : Int))) (h2 : ∀ i y, L[i]? = some y → w.cell? ⟨g2, i, none⟩ = some (.int .i64 ((y : Nat) : Int))) (hl : L.length ≤ 100) :
 Calls Tryz.prog 68 #[.slice (some ⟨g1, 0, none⟩) L.length c1, .slice (some ⟨g2, 0, none⟩) L.length c2] w fun e w' => e = .returned (.bool true) ∧ Old w w' := by
 have H1 := Lib.hid h1
 have H2 := Lib.hid h2
 have g3 : ((L.length : Int) != (L.length : Int)) = false := by simp
 clear h1 h2
 go_enter Tryz.func68, Tryz.ntmps68
 go_wp2
 go_loopw [5] (fun i wr => ∃ k : Nat, k ≤ L.length ∧ i = .int .i64 k ∧ Old w wr) (fun i _ => L.length - (intOf i).toNat)
 case atStart => exact ⟨0, Nat.zero_le _, rfl, Upd.refl _ _⟩
 case round =>
  obtain ⟨k, hk, rfl, hU⟩ := hrel
  by_cases hkl : k < L.length
  ·obtain ⟨y, hy⟩ : ∃ y, L[k]? = some y := ⟨L[k], List.getElem?_eq_getElem hkl⟩
   have e1 := Old.cellOf' hU (H1.out k y hy)
   have e2 := Old.cellOf' hU (H2.out k y hy)
   have g4 : (k : Int) < (L.length : Int) := by omega
   have g5 : ((y : Int) != (y : Int)) = false := by simp
   clear hy
   go_wp2
   go_region_held3 (fun x => x.cell? ⟨g1, k, none⟩ = some (.int .i64 ((y : Nat) : Int)) ∧ x.cell? ⟨g2, k, none⟩ = some (.int .i64 ((y : Nat) : Int))) (go_keep) (fail)
   go_wp2
   go_roundw
   case rel => exact ⟨k + 1, by omega, by go_num, hU.drew⟩
   case measure => simp [intOf]; omega
  ·obtain rfl : k = L.length := by omega
   go_wp2
   go_ret
   exact ⟨rfl, hU⟩
end Go.M
namespace Go.M
open Go.Proofs Go.RowKit Go.Shelf
set_option linter.unusedSimpArgs false
theorem zero_int : ∀ w, (zeroValue 3).run Tryz.prog w = .ok (.int .i64 0) w := Tryz.zeroValue3
theorem zero_int1 : (Builtin.zeroCells (Value.int .i64 0).cells 1).toList = [.int .i64 0] := by kernel_rfl
set_option maxHeartbeats 1000000 in
theorem del_int {w : World} {g m i cap : Nat} {xs : List Value} (own : w.ownsRow 0 3 1 (.slice (some ⟨g, 0, none⟩) (m + 1) cap) (m + 1) xs) (hx1 : ∀ u ∈ xs, u.oneCell' = true) (hn : m ≤ 1000) (hi : i ≤ m) :
 Calls Tryz.prog 159 #[.slice (some ⟨g, 0, none⟩) (m + 1) cap, .int .i64 ((i : Nat) : Int), .int .i64 ((i : Int) + 1)] w fun e w' =>
  e = .returned (.slice (some ⟨g, 0, none⟩) m cap) ∧ w'.ownsRow 0 3 1 (.slice (some ⟨g, 0, none⟩) m cap) m (xs.take (i) ++ xs.drop ((i + 1))) ∧ Upd (fun b => b = g) w w' := by
 have hxl : xs.length = m + 1 := by have := own.1; simpa using this
 obtain ⟨cur, HG, hnc, hcm, HCS, HX⟩ : ∃ cur : Array Value, Hid (Has w g 3 cur) ∧ m + 1 ≤ cap ∧ cap ≤ maxLen ∧ Hid (cur.size = cap) ∧ Hid (cur.toList.take ((m + 1)) = xs) := by
  rcases own.2 with ⟨h1, h2⟩ | ⟨g', cap', cur, h1, hb, hg, hnc, hcm, hcs, htk⟩
  ·cases h1
  ·injection h1 with h1 _ h3
   injection h1 with h1
   injection h1 with h1
   subst h1 h3
   exact ⟨cur, hg, hnc, hcm, Lib.hid (by simpa using hcs), Lib.hid (by simpa using htk)⟩
 clear own
 unfold maxLen at hcm
 obtain ⟨i0, hi0, hz0, hz1, hz2⟩ := info_parts info_int
 have e1 : ¬ i = i + 1 := by omega
 have e2 : ((i : Int) == (i : Int) + 1) = false := by rw [beq_eq_false_iff_ne]; omega
 have g2 : (0 : Int) ≤ (i : Int) + 1 := by omega
 have g3 : ((i : Int) + 1).toNat = i + 1 := by omega
 have g4 : (i : Int) + 1 ≤ (m : Int) + 1 := by omega
 have g5 : (i : Int) ≤ (i : Int) + 1 := by omega
 have g6 : i + 1 ≤ m + 1 := by omega
 have g7 : i ≤ cap := by omega
 have g8 : i + 1 ≤ cap := by omega
 have g9 : (m : Int) ≤ (m : Int) + 1 := by omega
 have g10 : ((m : Int) + 1).toNat = m + 1 := by omega
 have g11 : ¬ cap = m := by omega
 have g12 : ¬ m = cap := by omega
 have g13 : ¬ cap ≤ m := by omega
 have hcell : ∀ j u, xs[j]? = some u → w.cell? ⟨g, j, none⟩ = some u := by
  intro j u hj
  rw [HG.out.cell j]
  have hlt : j < (m + 1) := by rw [← hxl]; exact (List.getElem?_eq_some_iff.1 hj).1
  rw [← HX.out, List.getElem?_take_of_lt hlt] at hj
  simpa using hj
 obtain ⟨AD, hAD, hsrc⟩ : ∃ AD : Addr, (if cap = i + 1 then some (⟨g, 0, none⟩ : Addr) else some ⟨g, (i + 1), none⟩) = some AD ∧ Hid (∀ j u, (xs.drop ((i + 1)))[j]? = some u → w.drew.cell? (AD.add j) = some u) := by
  by_cases h : cap = i + 1
  ·refine ⟨_, if_pos h, fun j u hj => ?_⟩
   rw [List.getElem?_drop] at hj
   have := (List.getElem?_eq_some_iff.1 hj).1
   omega
  ·refine ⟨_, if_neg h, fun j u hj => ?_⟩
   rw [List.getElem?_drop] at hj
   have h0 := hcell _ _ hj
   rw [show (⟨g, (i + 1), none⟩ : Addr).add j = ⟨g, (i + 1) + j, none⟩ from by unfold Addr.add; split <;> simp_all]
   exact h0
 clear hcell
 go_enter Tryz.func159, Tryz.ntmps159
 go_wp2_with fail
 go_still_tail 6, (by kernel_rfl)
 change wpList _ _ _ _ _ w.drew
 refine wpList_append_room_k rfl (.tmp 22) (.tmp 25) 48 rfl 3 i0 1 Tryz.underlying48 hi0 hz1 g 0 i cap AD (m - i) (cap - (i + 1)) rfl (by simp [Act.eval, hAD]) cur.toList 3 (by simpa using HG.out.drew) (xs.drop ((i + 1))) (by simp [hxl] <;> omega) hsrc.out (by simp [hxl, HCS.out] <;> omega) (fun v hv => hx1 v (List.mem_of_mem_drop hv)) (by omega) ?_
 rw [show i + (m - i) = m by omega]
 intro w2 hg2 hU2
 simp only [Nat.mul_one] at hg2 hU2
 have hl1 : (splice cur.toList (0 + i) (xs.drop ((i + 1)))).length = cap := by rw [length_splice _ _ _ (by simp [hxl, HCS.out] <;> omega)]; simp [HCS.out]
 have HL := Lib.hid hl1
 clear hl1
 have hcl := fun ty => run_clear_k (P := Tryz.prog) w2 48 ty 3 (.int .i64 0) Tryz.underlying48 zero_int g (m) 1 (cap - m) (by decide) [.int .i64 0] zero_int1 _ 3 hg2.out (by rw [List.size_toArray, HL.out]; simp; omega) (by simp [Value.oneCell'])
 obtain ⟨k1, k2⟩ := set_row_upd (off := m) (cs := [.int .i64 0]) hg2.out
 generalize w2.setRow g _ = w3 at hcl k1 k2
 have hg3 := Lib.hid k1
 have hU3 := Lib.hid k2
 clear k1 k2
 go_wp2
 go_ret
 have hUd : Upd (fun b => b = g) w w3 := (((Upd.refl _ w).drew).trans hU2.out).trans hU3.out
 have hdl : (xs.drop ((i + 1))).length = (m - i) := by rw [List.length_drop, hxl]; omega
 refine ⟨rfl, ⟨?_, .inr ⟨g, cap, _, rfl, Nat.zero_le _, hg3.out, by omega, hcm, ?_, ?_⟩⟩, hUd⟩
 ·rw [List.length_append, hdl, List.length_take, hxl]
  omega
 ·rw [List.size_toArray, length_splice _ _ _ (by rw [HL.out]; simp; omega), HL.out, Nat.mul_one]
 ·have hA : cur.toList.take (i) = xs.take (i) := by rw [← HX.out, List.take_take, Nat.min_eq_left (by omega)]
  have h2 : (splice cur.toList (0 + i) (xs.drop ((i + 1)))).take (m) = xs.take (i) ++ xs.drop ((i + 1)) := by
   unfold splice
   rw [Nat.zero_add, hA]
   have hl : (xs.take (i) ++ xs.drop ((i + 1))).length = m := by rw [List.length_append, hdl, List.length_take, hxl]; omega
   rw [← List.append_assoc, List.take_append_of_le_length (by rw [hl]; exact Nat.le_refl _), List.take_of_length_le (by rw [hl]; exact Nat.le_refl _)]
  rw [← h2]
  generalize splice cur.toList (0 + i) (xs.drop ((i + 1))) = L at HL ⊢
  have hL : m ≤ L.length := by rw [HL.out]; omega
  unfold splice
  rw [List.take_append_of_le_length (by rw [List.length_take]; omega), List.take_take, Nat.mul_one, Nat.min_self]
end Go.M
namespace Go.M
open Go.Proofs Go.RowKit Go.Shelf
set_option linter.unusedSimpArgs false
attribute [local go_sem] Oper.semAt_some
def InPost (w : World) (B : Nat) (e : Ending) (w' : World) : Prop := ∃ PT PQ, e = .returned (.func (.func 84) #[] #[.pointer (some ⟨PT, 0, none⟩), .pointer (some ⟨PQ, 0, none⟩)]) ∧ w'.cell? ⟨PT, 0, none⟩ = some (.pointer (some ⟨B, 0, none⟩)) ∧ w'.cell? ⟨PQ, 0, none⟩ = some (.int .i64 2) ∧ Old w w'
theorem table_in {w : World} {B : Nat} :
 Calls Tryz.prog 29 #[.pointer (some ⟨B, 0, none⟩), .int .i64 2] w (InPost w B) := by
 go_enter Tryz.func29, Tryz.ntmps29
 go_wp2
 go_ret
 exact ⟨_, _, rfl, by go_simp, by go_simp, ((Upd.refl _ w).alloc _).alloc _⟩
theorem TabG.sealedL {w : World} {col : Col} {q B n r : Nat} {st : Nat → Nat} (h : TabG w col q B n r st) : ∃ z x, BitsOf x n st 2 ∧ ∀ V PT PQ, Old w V → V.cell? ⟨PT, 0, none⟩ = some (.pointer (some ⟨B, 0, none⟩)) → V.cell? ⟨PQ, 0, none⟩ = some (.int .i64 2) → TiG PT PQ B z n x V := by
 obtain ⟨t, Z, h, rfl, rfl, hs⟩ := h
 obtain ⟨b0, b1, b2, b3, b4, b5, b6, n0, n1, n2, n3, n4, y0, y1, y2, y3, y4, -⟩ := h.cells
 exact ⟨Z 2, t.x 2, hs.1 2 (by omega), fun V PT PQ U h1 h2 => ⟨h1, h2, Old.cellOf' U b0, Old.cellOf' U b4, Old.cellOf' U n2, Old.cellOf' U y2⟩⟩
theorem TabG.collect {w : World} {col : Col} {q B n r : Nat} {st : Nat → Nat} (h : TabG w col q B n r st) {PT PQ : Nat} (h1 : w.cell? ⟨PT, 0, none⟩ = some (.pointer (some ⟨B, 0, none⟩))) (h2 : w.cell? ⟨PQ, 0, none⟩ = some (.int .i64 2)) :
 Calls Tryz.prog 74 #[.func (.func 84) #[] #[.pointer (some ⟨PT, 0, none⟩), .pointer (some ⟨PQ, 0, none⟩)]] w (NewRow w 3 1 (stL st n 2).length (intsV (stL st n 2))) := by
 obtain ⟨z, x, hx, hT⟩ := h.sealedL
 obtain ⟨f1, f2, -⟩ := h.few
 refine Go.M.collect (enters_of Tryz.func84 (by kernel_rfl) rfl) (fun W U => SeqN.of (tin_w 7 (by omega) f2 f1 hx)) (fun pre V U => hT V PT PQ U (Old.cellOf' U h1) (Old.cellOf' U h2)) (fun pre i hi => ?_)
 obtain ⟨h3, h4, rfl⟩ := hi
 have := List.length_filter_le (fun j => st j == 2) (List.range i)
 unfold stL
 rw [List.length_range] at this
 omega
end Go.M
