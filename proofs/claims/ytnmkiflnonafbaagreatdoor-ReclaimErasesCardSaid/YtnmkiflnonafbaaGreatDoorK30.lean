/- Walks 30. -/
import Derived.Test.YtnmkiflnonafbaaGreatDoorProg
import Derived.Test.YtnmkiflnonafbaaGreatDoorK29
set_option linter.unusedVariables false
set_option linter.unusedSimpArgs false
set_option maxRecDepth 100000
namespace Go.M
open Go.Proofs Go.RowKit Go.Shelf
set_option linter.unusedSimpArgs false
attribute [local go_sem] Oper.semAt_some
set_option maxHeartbeats 4000000 in
theorem reclaimErases_walk {w : World} {n0 n1 n2 n3 n4 n5 n6 ff mm ll lc : Nat} {al : Option Addr} (h0 : n0 < 256) (h1 : n1 < 256) (h2 : n2 < 256) (h3 : n3 < 256) (h4 : n4 < 256) (h5 : n5 < 256) (h6 : n6 < 256) (hff : ff < 256) (hmm : mm < 256) (hdb : DbAt w) (hse : SealAt w) (hdr : DropAt w) (hll : ll ≤ lc) (hlc : lc ≤ 9223372036854775807) (hal : ll = 0 ∨ al.isSome = true) (hL : ∀ j, j < ll → j < 60 → ∃ lb lo, al = some ⟨lb, lo, none⟩ ∧ MoveAt w lb lo j)
 (hW : ∀ w' : World, Old w w' → Calls Tryz.prog 12 #[] w' fun e w'' => e = .returned (.bool true) ∧ Kpt w' w'') :
 Calls Tryz.prog 4 #[.agg #[.int .u8 ((n0 : Nat) : Int), .int .u8 ((n1 : Nat) : Int), .int .u8 ((n2 : Nat) : Int), .int .u8 ((n3 : Nat) : Int), .int .u8 ((n4 : Nat) : Int), .int .u8 ((n5 : Nat) : Int), .int .u8 ((n6 : Nat) : Int), .slice al ll lc], .int .u8 ((ff : Nat) : Int), .int .u8 ((mm : Nat) : Int)] w fun e w' => e = .returned (.bool true) ∧ Kpt w w' := by
 have HMD : Hid (∀ W : World, Old w W → Calls Tryz.prog 5 #[.agg #[.int .u8 ((n0 : Nat) : Int), .int .u8 ((n1 : Nat) : Int), .int .u8 ((n2 : Nat) : Int), .int .u8 ((n3 : Nat) : Int), .int .u8 ((n4 : Nat) : Int), .int .u8 ((n5 : Nat) : Int), .int .u8 ((n6 : Nat) : Int), .slice al ll lc]] W fun e w1 => ∃ PP D B X n col s fr st M x, e = .returned (.tuple #[.pointer (some ⟨PP, 0, none⟩), .bool true]) ∧ EIn w1 col PP D B X n s fr st M x ∧ EOk n s st x 600 ∧ (∀ b, b < W.heap.size → (col b).1 = 0) ∧ Old W w1) := fun W U => by
  refine (made h0 h1 h2 h3 h4 h5 h6 (hdb.upd U (fun x => x)) (hse.upd U (fun x => x)) hll hlc hal (fun j a b => by obtain ⟨lb, lo, ha, kd, ky, sz, q1, q2, q3, m0, m1, m2⟩ := hL j a b; exact ⟨lb, lo, ha, kd, ky, sz, q1, q2, q3, Old.cellOf' U m0, Old.cellOf' U m1, Old.cellOf' U m2⟩)).mono ?_
  rintro e w1 ⟨PP, D, B, X, it, rfl, hit, hm⟩;obtain ⟨col, s, fr, st, M, x, r1, r2, r3, r4⟩ := ZqP hm hit (hdr.upd U (fun x => x))
  exact ⟨PP, D, B, X, _, col, s, fr, st, M, x, rfl, r1, r2, r4, r3⟩
 have HWK := Lib.hid hW;clear hdb hse hdr hL hW;refine (callsIn_wide (n := 8)).1 ?_;refine callsIn_of_wp_marks Tryz.func4 rfl trivial ?_ rfl;simp only [Tryz.ntmps4, List.size_toArray, List.length_cons, List.length_nil, Nat.reduceAdd, Nat.reduceSub, Array.replicate_succ, Array.replicate_zero, List.push_toArray, List.append_toArray, List.nil_append, List.cons_append];refine wpIn_wide.2 ?_
 go_wp2_with (first | (go_at_call 5; refine (HMD.out _ ?_).mono ?_; (first | with_reducible exact (Upd.refl _ w) | exact ((Upd.refl _ w).alloc _) | exact (((Upd.refl _ w).alloc _).alloc _)); rintro e w1 ⟨PP, D, B, X, n, col, s, fr, st, M, x, rfl, hb1, hd1, hc1, hU1⟩; have HB := Lib.hid hb1; have HO := Lib.hid hd1; have HC := Lib.hid hc1; have c6 := Old.has hU1 ZfH; have HU1 := Lib.hid (show Old w w1 from Upd.trans (((Upd.refl _ w).alloc _).alloc _) hU1); clear hb1 hd1 hc1 hU1; refine Hid.out ?_))
 have hn4 := HB.out.n4;have hn9 := HB.out.n9;have z1 := c6.lt;have hc6 : (col (w.heap.size + 1)).1 = 0 := HC.out _ (by simp)
 have HCE : Hid (∀ W, Old w1 W → W.cell? ⟨PP, 0, none⟩ = some (.int .i64 ((n : Nat) : Int)) ∧ W.cell? ⟨PP, 7, none⟩ = some (.pointer (some ⟨D, 0, none⟩)) ∧ W.cell? ⟨PP, 8, none⟩ = some (.pointer (some ⟨B, 0, none⟩)) ∧ W.cell? ⟨PP, 9, none⟩ = some (.pointer (some ⟨X, 0, none⟩))) := fun W U => by
  have h := HB.out.old U;exact ⟨h.c0, h.c7, h.c8, h.c9⟩
 have HC6 : Hid (Has w1 (w.heap.size + 1) 4 #[.bool false]) := c6;have HO0 := HO.out.o0;have HO1 := HO.out.o1;clear c6;refine Lib.hid ?_;go_wp2
 go_loopw [9] (fun i wr => ∃ k : Nat, k ≤ n ∧ i = .int .i64 k ∧ Old w1 wr) (fun i _ => n - (intOf i).toNat)
 case atStart => exact ⟨0, Nat.zero_le _, rfl, Upd.refl _ _⟩
 case round =>
  obtain ⟨k, hk, rfl, hU⟩ := hrel;obtain ⟨c0, c7, c8, c9⟩ := HCE.out _ hU
  by_cases hkn : k < n
  ·have hnk : (k : Int) < (n : Int) := by omega
   have HS := Lib.hid ((HB.out.old hU).tab.state hkn);have HR := Lib.hid ((HB.out.old hU).idx.red hkn);have HLN := Lib.hid (fun W (U : Old w1 W) => (HB.out.old U).idx.ilen)
   have HOP := Lib.hid (fun W (U : Old w1 W) => (HB.out.old U).ops)
   have h3 := HB.out.tab.few.2.2.2.1 k hkn;have HUU := Lib.hid hU;clear hU
   by_cases hrd : Zku M x.es k = true ∧ st k = 2
   ·obtain ⟨r1, r2⟩ := hrd;rw [r1] at HR;rw [r2] at HS
    go_wp2_with (first | (go_at_call 13; refine HS.out.mono ?_; rintro e w2 ⟨rfl, rfl⟩) | (go_at_call 11; refine HR.out.mono ?_; rintro e w3 ⟨rfl, hO⟩; have H3 := Lib.hid (show Old w1 w3 from Upd.trans HUU.out hO); clear hO))
    exact ⟨⟨k + 1, hkn, by simp, H3.out⟩, by simp [intOf]; omega⟩
   ·have HE := Lib.hid (fun W (U : Old w1 W) => (HB.out.old U).erase_no hkn hrd)
    obtain ⟨r, hr, hg⟩ : ∃ r, Zku M x.es k = r ∧ (r = true → ((st k : Int) == 2) = false ∧ ¬ (st k : Int) = 2) := ⟨_, rfl, fun h => by
     have : ¬ st k = 2 := fun e => hrd ⟨h, e⟩
     exact ⟨by rw [beq_eq_false_iff_ne]; omega, by omega⟩⟩
    rw [hr] at HR;clear hrd
    go_wp2_with (first | (go_at_call 13; refine HS.out.mono ?_; rintro e w2 ⟨rfl, rfl⟩) | (go_at_call 11; refine HR.out.mono ?_; rintro e w3 ⟨rfl, hO⟩; have H3 := Lib.hid (show Old w1 w3 from Upd.trans HUU.out hO); have QC := HCE.out _ H3.out; clear hO; refine Hid.out ?_))
    obtain ⟨d0, d7, d8, d9⟩ := QC;cases r
    case' true =>
     obtain ⟨e2, e3⟩ := hg rfl
    all_goals
     refine Lib.hid ?_;go_wp2
     go_region_held3 (fun x => x.cell? ⟨PP, 7, none⟩ = some (.pointer (some ⟨D, 0, none⟩)) ∧ x.cell? ⟨PP, 9, none⟩ = some (.pointer (some ⟨X, 0, none⟩)))
      (first | (with_reducible exact QQ) | go_keep)
      (first | (go_at_call 14; (with_reducible refine (HLN.out _ ?_).mono ?_); (first | with_reducible exact H3.out | exact H3.out.drew); rintro e4 w4 ⟨rfl, hO⟩; have H4 : Hid (Old w1 w4) := (by first | exact Upd.trans H3.out hO | exact Upd.trans H3.out.drew hO); have QQ := And.intro (HCE.out _ H4.out).2.1 (HCE.out _ H4.out).2.2.2; clear hO) | (go_at_call 6; (with_reducible refine (HOP.out _ ?_).mono ?_); (first | with_reducible exact H4.out | exact H4.out.drew | exact H3.out.drew); rintro e5 w5 ⟨rfl, rfl⟩))
     clear QQ;have q7 := (HCE.out _ H4.out).2.1;have q8 := (HCE.out _ H4.out).2.2.1;have q9 := (HCE.out _ H4.out).2.2.2;clear c0 c7 c8 c9 d0 d7 d8 d9;go_wp2
     go_region_held3 (fun x => x.cell? ⟨PP, 7, none⟩ = some (.pointer (some ⟨D, 0, none⟩)) ∧ x.cell? ⟨PP, 8, none⟩ = some (.pointer (some ⟨B, 0, none⟩)) ∧ x.cell? ⟨PP, 9, none⟩ = some (.pointer (some ⟨X, 0, none⟩)))
      (first | (with_reducible exact QQ) | go_keep)
      (first | (go_at_call 15; (with_reducible refine (HE.out _ ?_).mono ?_); (first | with_reducible exact H4.out | exact H4.out.drew); rintro e6 w6 ⟨rfl, hO⟩; have H6 : Hid (Old w1 w6) := (by first | exact Upd.trans H4.out hO | exact Upd.trans H4.out.drew hO); have QQ := (HCE.out _ H6.out).2; clear hO HE) | (go_at_call 14; (with_reducible refine (HLN.out _ ?_).mono ?_); (first | with_reducible exact H6.out | exact H6.out.drew); rintro e7 w7 ⟨rfl, hO⟩; have H7 : Hid (Old w1 w7) := (by first | exact Upd.trans H6.out hO | exact Upd.trans H6.out.drew hO); clear QQ; have QQ := (HCE.out _ H7.out).2; clear hO) | (go_at_call 6; (with_reducible refine (HOP.out _ ?_).mono ?_); (first | with_reducible exact H7.out | exact H7.out.drew); rintro e8 w8 ⟨rfl, rfl⟩))
     go_wp2;exact ⟨⟨k + 1, hkn, by simp, H7.out⟩, by simp [intOf]; omega⟩
  ·obtain rfl : n = k := by omega
   have hz1 := hU.size;have hR0 : ErR w PP D B X n 0 [] wr := ⟨by omega, col, s, fr, st, M, x, HB.out.old hU, ⟨HO.out.ne, HO.out.du, HO0, by omega⟩, ⟨Upd.trans HU1.out hU, hU.has HC6.out, List.nodup_nil, fun D' h => (by cases h), fun b hb => HC.out b (by simpa using hb), fun D' h => (by cases h)⟩⟩
   go_wp2;refine wp_loop (fun a' wr => ∃ (k : Nat) (ds : List Nat), ErR w PP D B X n k ds wr ∧ ∃ f, a' = erA ff mm (w.heap.size + 1) PP k f ds) (fun a' _ => 10 - (intOf (a'.tmps.getD 16 undef)).toNat) ⟨0, [], hR0, Zoy rfl⟩ ?_
   clear hR0 hU c0 c7 c8 c9 HMD HB HO HC HU1 HC6 HO0 HO1 hc6 hz1 z1 HCE hn4 hn9 hk hkn;clear col s fr st M x;rintro a' wk ⟨k, ds, ⟨hk4, col, s, fr, st, M, x, hE, hok, hKK⟩, f, rfl⟩;unfold erA;obtain ⟨q, hq⟩ : ∃ q, mm % 4 = q := ⟨_, rfl⟩;have hq4 : q < 4 := by omega
   have hqi : ((mm : Nat) : Int) % 4 = ((q : Nat) : Int) := by rw [← hq]; norm_cast
   by_cases hkq : k < 1 + q
   ·have gk : (k : Int) < 1 + (q : Int) := by omega
    have HV := Lib.hid (hE.victim hff);have HE0 := Lib.hid hE;have HOK := Lib.hid hok;have HKK := Lib.hid hKK;clear hE hok hKK
    go_wp2_with (first | (go_at_call 16; refine HV.out.mono ?_; rintro e w1 ⟨hU1, sl, vb, rfl, hvb⟩; have HE := Lib.hid (HE0.out.old hU1); have HK := Lib.hid (HKK.out.old hU1); have HVB := Lib.hid hvb; clear hU1 hvb HE0 HKK HV; refine Hid.out ?_))
    cases vb with
    | false =>
     have hu := HK.out.u;have h6 := HK.out.h6;refine Lib.hid ?_
     go_wp2_with (first | (go_at_call 12; refine (HWK.out _ hu).mono ?_; rintro eW wW ⟨rfl, hKw⟩; have d6 := hKw.has h6; have c6 : wW.cell? ⟨w.heap.size + 1, 0, none⟩ = some (.bool false) := d6.cell 0; have f6 := d6.frozen 0; have l6 := d6.lt; have HKW := Lib.hid hKw; clear hKw d6))
     exact Zjz HK.out HKW.out rfl
    | true =>
     obtain ⟨hsn, hst, hrd⟩ := HVB.out rfl;clear HVB;have hE := HE.out;have hn4 := hE.n4;have hn9 := hE.n9;have hfw := hE.tab.few.1;have HCE : Hid (∀ W, Old w1 W → W.cell? ⟨PP, 0, none⟩ = some (.int .i64 ((n : Nat) : Int)) ∧ W.cell? ⟨PP, 7, none⟩ = some (.pointer (some ⟨D, 0, none⟩)) ∧ W.cell? ⟨PP, 8, none⟩ = some (.pointer (some ⟨B, 0, none⟩)) ∧ W.cell? ⟨PP, 9, none⟩ = some (.pointer (some ⟨X, 0, none⟩))) := fun W U => by
      have h := HE.out.old U;exact ⟨h.c0, h.c7, h.c8, h.c9⟩
     obtain ⟨c0, c7, c8, c9⟩ := HCE.out _ (Upd.refl _ _);obtain ⟨L, hLd⟩ : ∃ L, ZfK (Zb3 x.key x.kz x.mn) = L := ⟨_, rfl⟩;have hLl : L.length ≤ 500 := by rw [← hLd]; unfold ZfK; rw [List.length_map]; have := ZhB x.key x.kz x.mn; have := hE.idx.kv.n5; omega
     have HL := Lib.hid (fun W (U : Old w1 W) => (HE.out.old U).live)
     rw [hLd] at HL;have HF := Lib.hid (fun W (U : Old w1 W) => (HE.out.old U).tab.free)
     have HP := Lib.hid (fun W (U : Old w1 W) => (HE.out.old U).ops)
     clear hE;refine Lib.hid ?_;go_wp2
     go_region_held3 (fun x => x.cell? ⟨PP, 7, none⟩ = some (.pointer (some ⟨D, 0, none⟩)) ∧ x.cell? ⟨PP, 8, none⟩ = some (.pointer (some ⟨B, 0, none⟩)) ∧ x.cell? ⟨PP, 9, none⟩ = some (.pointer (some ⟨X, 0, none⟩)))
      (first | (with_reducible exact QQ) | go_keep)
      (first | (go_at_call 17; (with_reducible refine (HL.out _ ?_).mono ?_); (first | with_reducible exact Upd.refl _ _ | exact (Upd.refl _ _).drew); rintro e2 w2 ⟨v2, rfl, hown, hO, hfr⟩; obtain ⟨va, vc, rfl⟩ := Zac hown; have H2 : Hid (Old w1 w2) := (by first | exact hO | exact Upd.trans (Upd.refl _ _).drew hO); have HW2 := Lib.hid (And.intro hown hfr); have QQ := (HCE.out _ H2.out).2; clear hO hown hfr HL) | (go_at_call 18; (with_reducible refine (HF.out _ ?_).mono ?_); (first | with_reducible exact H2.out | exact H2.out.drew); rintro e5 w5 ⟨rfl, rfl⟩) | (go_at_call 6; (with_reducible refine (HP.out _ ?_).mono ?_); (first | with_reducible exact H2.out | exact H2.out.drew); rintro e5 w5 ⟨rfl, rfl⟩))
     clear QQ c0 c7 c8 c9 HF HP;obtain ⟨i0, hi0, hz0, hz1, hz2⟩ := info_parts Zml;go_wp2
     go_loopw [22, 23, 24] (fun uu v i wr => ∃ j : Nat, j ≤ n ∧ i = .int .i64 j ∧ uu = .int .i64 ((Zhx s j : Nat) : Int) ∧ Old w2 wr ∧ wr.ownsRow 0 9 1 v j (ZhE s j) ∧ ∀ b, v.ownBlock = some b → w2.heap.size ≤ b)
      (fun _ _ i _ => n - (intOf i).toNat)
     case atStart => exact ⟨0, Nat.zero_le _, rfl, rfl, Upd.refl _ _, World.ownsRow_nil _ _ _ _, fun b hb => (by cases hb)⟩
     case round =>
      obtain ⟨j, hj, rfl, rfl, hU, hown, hfr⟩ := hrel;have HU1 : Hid (Old w1 wr) := Upd.trans H2.out hU;obtain ⟨c0, c7, c8, c9⟩ := HCE.out _ HU1.out
      by_cases hjn : j < n
      ·have hjk : (j : Int) < (n : Int) := by omega
       have HN := Lib.hid (fun W (U : Old w2 W) => (HE.out.old (Upd.trans H2.out U)).uns hjn)
       have HY := Lib.hid ((HE.out.old HU1.out).bytes hjn);have hcs := Zmm s j;have hcl := Ze2 s j;have HO := Lib.hid hown;have HUU := Lib.hid hU;have HFR := Lib.hid hfr;obtain ⟨ra, rc, rfl⟩ := Zac hown;have hdur : (s.img j).dur ≤ (s.img j).bs.length := by
        obtain ⟨K, S, cap, T, Mi, V, h2⟩ := HE.out.dev;exact (h2.fm j (by have := HE.out.sn; omega)).durs
       clear hown hU hfr
       have HRel := Lib.hid (fun (w3 w4 : World) (v4 : Value) (h3 : Old wr w3) (h : (w4.ownsRow 0 9 1 v4 (j + 1) (ZhE s j ++ [.string ⟨(s.img j).bs.toArray⟩])) ∧ (w3.alloc (.cells #[.string ⟨(s.img j).bs.toArray⟩] 9)).grownBy w4 (Value.slice ra j rc).ownBlock ∧ (∀ b, v4.ownBlock = some b → (Value.slice ra j rc).ownBlock = some b ∨ (w3.alloc (.cells #[.string ⟨(s.img j).bs.toArray⟩] 9)).heap.size ≤ b)) => (show Old w2 w4 ∧ w4.ownsRow 0 9 1 v4 (j + 1) (ZhE s (j + 1)) ∧ ∀ b, v4.ownBlock = some b → w2.heap.size ≤ b from by
        obtain ⟨ha, hg, hf⟩ := h;have U3 : Old w2 (w3.alloc (.cells #[.string ⟨(s.img j).bs.toArray⟩] 9)) := (HUU.out.trans h3).alloc _;have sz := U3.size;refine ⟨U3.grown hg (fun b e => .inr (HFR.out b e)), by rw [Zkz]; exact ha, fun b hb => ?_⟩
        rcases hf b hb with h | h
        ·exact HFR.out b h
        ·omega))
       by_cases hu : (s.img j).dur < (s.img j).bs.length
       case' pos =>
        have hu2 : Zas s j = true := by simp [Zas, hu]
        rw [hu2, if_pos rfl] at hcs;have g3 : (0 : Int) < ((s.img j).bs.length : Int) - ((s.img j).dur : Int) := by omega
        have g4 : IntKind.i64.wrap (((Zhx s j : Nat) : Int) + 1) = ((Zhx s j : Nat) : Int) + 1 := IntWalk.i64_in _ (by omega)
       case' neg =>
        have hu2 : Zas s j = false := by simp [Zas, hu]
        rw [hu2, if_neg (by decide)] at hcs
        have g3 : ¬ (0 : Int) < ((s.img j).bs.length : Int) - ((s.img j).dur : Int) := by omega
       all_goals
        go_wp2_with (first | (go_at_call 8; refine HY.out.mono ?_; rintro e w3 ⟨⟨a3, n3, c3, rfl, hb3⟩, hO3⟩; have hcv := Zmk hb3; have H3 := Lib.hid hO3; clear hO3 hb3 HY) | (at_builtin; refine Zam rfl (.tmp 162) (.tmp 167) 37 rfl 9 i0 (.string ⟨#[]⟩) 1 16 Tryz.underlying37 hi0 hz0 hz1 hz2 rfl (by decide) (.slice ra j rc) j (ZhE s j) rfl (by exact (Upd.own (H3.out.alloc _) HO.out (fun _ _ x => x))) ⟨w3.heap.size, 0, none⟩ 1 1 [.string ⟨(s.img j).bs.toArray⟩] rfl rfl (by simpa using Ze5 w3 _ _) (by simp [Value.oneCell']) (by unfold maxLen; omega) (by omega) ?_; intro v4 w4 hown4 hgrow4 _ hfr4; have H5 := Lib.hid (HRel.out _ _ _ H3.out (And.intro hown4 (And.intro hgrow4 hfr4))); have e7 := (HCE.out _ (Upd.trans H2.out H5.out.1)).2.1; clear hown4 hgrow4 hfr4) | (go_at_call 7; refine (HN.out _ H5.out.1).mono ?_; rintro e w5 ⟨rfl, hO5⟩; have H6 := Lib.hid hO5; clear hO5 HN))
        exact ⟨⟨j + 1, hjn, by simp, by rw [hcs]; simp, Upd.trans H5.out.1 H6.out, Upd.own H6.out H5.out.2.1 (fun _ _ x => x), H5.out.2.2⟩, by simp [intOf]; omega⟩
      ·obtain rfl : n = j := by omega
       have hcl := Ze2 s n;obtain ⟨g, gc, rfl⟩ := ZaU hown (by omega)
       have hg := hfr g rfl;obtain ⟨u, hu⟩ : ∃ u, Zhx s n = u := ⟨_, rfl⟩;have HBf : Hid (∀ j, j < n → wr.cell? ⟨g, j, none⟩ = some (.string ⟨(s.img j).bs.toArray⟩)) := fun j hj => by
        rw [hown.cellAt j (by omega)]
        simp [ZhE, hj]
       have hgc : (col g).1 = 0 := HE.out.new g (Nat.le_trans H2.out.size hg);have hwas : Hid (wr.ownsRow 0 113 2 (.slice va L.length vc) L.length (Zcq L)) := Upd.own hU HW2.out.1 (fun _ _ x => x)
       have hwc : Hid (∀ b, (Value.slice va L.length vc).ownBlock = some b → (col b).1 = 0) := fun b hb => HE.out.new b (HW2.out.2 b hb)
       have HEr := Lib.hid (HE.out.old HU1.out);have HKr := Lib.hid (HK.out.old HU1.out);have hub : u ≤ 9 := by omega
       have ho0 := HOK.out.o0;have ho1 := HOK.out.o1;have iw1 : IntKind.i64.wrap (s.ops + (u : Int)) = s.ops + (u : Int) := IntWalk.i64_in _ (by omega)
       have iw2 : IntKind.i64.wrap (s.ops + (u : Int) + 1) = s.ops + (u : Int) + 1 := IntWalk.i64_in _ (by omega)
       have iw3 : IntKind.i64.wrap ((fr : Int) + 1) = (fr : Int) + 1 := IntWalk.i64_in _ (by omega)
       have gz : ((u : Int) == 0) = (u == 0) := by rw [Bool.eq_iff_iff]; simp
       have HSF := Lib.hid (fun W (U : Old wr W) => (HEr.out.old U).safe hsn hrd (HOK.out.du sl hsn hst))
       have HER := Lib.hid (fun W (U : Old wr W) => (HEr.out.old U).erase hsn hrd hst ⟨HOK.out.ne, HOK.out.du, HOK.out.o0, by omega⟩)
       rw [hu] at HSF ⊢;clear hown hfr hU HW2 HU1 HE HK H2 HCE;have HCE : Hid (∀ W, Old wr W → W.cell? ⟨PP, 7, none⟩ = some (.pointer (some ⟨D, 0, none⟩)) ∧ W.cell? ⟨PP, 8, none⟩ = some (.pointer (some ⟨B, 0, none⟩)) ∧ W.cell? ⟨PP, 9, none⟩ = some (.pointer (some ⟨X, 0, none⟩))) := fun W U => by
        have h := HEr.out.old U;exact ⟨h.c7, h.c8, h.c9⟩
       go_wp2
       go_region_held3 (fun x => x.cell? ⟨PP, 7, none⟩ = some (.pointer (some ⟨D, 0, none⟩)) ∧ x.cell? ⟨PP, 8, none⟩ = some (.pointer (some ⟨B, 0, none⟩)) ∧ x.cell? ⟨PP, 9, none⟩ = some (.pointer (some ⟨X, 0, none⟩)))
        (first | (with_reducible exact QQ) | go_keep)
        (first | (go_at_call 10; (with_reducible refine (HSF.out _ ?_).mono ?_); (first | with_reducible exact Upd.refl _ _ | exact (Upd.refl _ _).drew); rintro e3 w3 ⟨rfl, hO⟩; have H3 : Hid (Old wr w3) := (by first | exact hO | exact Upd.trans (Upd.refl _ _).drew hO); have QQ := HCE.out _ H3.out; clear hO HSF))
       have q7 := QQ.1;have q8 := QQ.2.1;have q9 := QQ.2.2;clear QQ HCE c0 c7 c8 c9;go_wp2
       go_region_held3 (fun x => x.cell? ⟨PP, 7, none⟩ = some (.pointer (some ⟨D, 0, none⟩)) ∧ x.cell? ⟨PP, 8, none⟩ = some (.pointer (some ⟨B, 0, none⟩)) ∧ x.cell? ⟨PP, 9, none⟩ = some (.pointer (some ⟨X, 0, none⟩)))
        (first | (with_reducible exact QQ) | go_keep)
        (first | (go_at_call 15; (with_reducible refine (HER.out _ ?_).mono ?_); (first | with_reducible exact H3.out | exact H3.out.drew); rintro e5 w5 ⟨rfl, hUE, col', s', x', hE', hD', hx', hk'⟩; have HU5 : Hid (Upd (EF col) wr w5) := (by first | exact Upd.trans (Upd.mono H3.out (fun _ _ x => x.elim)) hUE | exact Upd.trans (Upd.mono H3.out.drew (fun _ _ x => x.elim)) hUE); have HK5 : Hid (Kept wr col col') := fun b hb => hk' b (Nat.lt_of_lt_of_le hb H3.out.size); have HE5 := Lib.hid hE'; have HD5 := Lib.hid (And.intro hD' hx'); have HX := Lib.hid (ZnL HEr.out hsn hrd hE' hD' hLd hu); have QQ := HX.out.2.2.2 _ (Upd.refl _ _); clear hUE hE' hD' hx' hk' HER) | (go_at_call 6; (with_reducible refine (HX.out.1 _ ?_).mono ?_); (first | with_reducible exact Upd.refl _ _ | exact (Upd.refl _ _).drew); rintro e6 w6 ⟨rfl, rfl⟩) | (go_at_call 18; (with_reducible refine (HX.out.2.1 _ ?_).mono ?_); (first | with_reducible exact Upd.refl _ _ | exact (Upd.refl _ _).drew); rintro e6 w6 ⟨rfl, rfl⟩) | (go_at_call 17; (with_reducible refine (HX.out.2.2.1 _ ?_).mono ?_); (first | with_reducible exact Upd.refl _ _ | exact (Upd.refl _ _).drew); rintro e7 w7 ⟨v7, rfl, hown7, hO7, hfr7⟩; obtain ⟨va7, vc7, rfl⟩ := Zac hown7; have H7 : Hid (Old w5 w7) := (by first | exact hO7 | exact Upd.trans (Upd.refl _ _).drew hO7); have HSM := Lib.hid (fun W (U : Old w7 W) => Zmc (w := W) (Upd.own U hown7 (fun _ _ x => x)) (Upd.own (Upd.trans H7.out U) (Upd.own HU5.out hwas.out (fun b hb he => by have := hwc.out b hb; unfold EF at he; omega)) (fun _ _ x => x)) (by omega)); clear QQ; have QQ := HX.out.2.2.2 _ H7.out; clear hown7 hO7 hfr7) | (go_at_call 19; (with_reducible refine (HSM.out _ ?_).mono ?_); (first | with_reducible exact Upd.refl _ _ | exact (Upd.refl _ _).drew); rintro e8 w8 ⟨rfl, hO8⟩; have H8 : Hid (Old w5 w8) := (by first | exact Upd.trans H7.out hO8 | exact Upd.trans H7.out.drew hO8); clear QQ; have QQ := HX.out.2.2.2 _ H8.out; clear hO8 HSM))
       clear QQ q7 q8 q9;have HE8 := Lib.hid (fun W (U : Old w8 W) => HE5.out.old (Upd.trans H8.out U))
       have HC8 : Hid (∀ W, Old w8 W → W.cell? ⟨PP, 0, none⟩ = some (.int .i64 ((n : Nat) : Int)) ∧ W.cell? ⟨PP, 7, none⟩ = some (.pointer (some ⟨D, 0, none⟩)) ∧ W.cell? ⟨PP, 9, none⟩ = some (.pointer (some ⟨X, 0, none⟩))) := fun W U => by
        have h := HE8.out W U;exact ⟨h.c0, h.c7, h.c9⟩
       have HB8 : Hid (∀ j, j < n → w8.cell? ⟨g, j, none⟩ = some (.string ⟨(s.img j).bs.toArray⟩)) := fun j hj => Old.cellOf' H8.out (HU5.out.cellOf (HBf.out j hj) (fun he => by have he' : EF col g := he; unfold EF at he'; omega))
       have HK8 : Hid (ErK w col' ds w8) := (HKr.out.ef HU5.out HK5.out).old H8.out;clear HX HBf HEr HKr HE5 HU5 HK5 H8 H7 H3 hwas hwc;go_wp2
       go_loopw [29] (fun i wr => ∃ j : Nat, j ≤ n ∧ i = .int .i64 j ∧ Old w8 wr) (fun i _ => n - (intOf i).toNat)
       case atStart => exact ⟨0, Nat.zero_le _, rfl, Upd.refl _ _⟩
       case round =>
        obtain ⟨j, hj, rfl, hU⟩ := hrel;obtain ⟨c0, c7, c9⟩ := HC8.out _ hU
        by_cases hjn : j < n
        ·have hjk : (j : Int) < (n : Int) := by omega
         have hj0 : ¬ (j : Int) < 0 := by omega
         have HN : Hid (Calls Tryz.prog 7 #[.pointer (some ⟨D, 0, none⟩), .int .i64 ((j : Nat) : Int)] wr fun e w' => e = .returned (.tuple #[.int .i64 0, .int .i64 0]) ∧ Old wr w') := ((HE8.out _ hU).uns hjn).mono (by rintro e w' ⟨rfl, h⟩; exact ⟨by rw [HD5.out.1.dur j hjn]; simp, h⟩)
         have HY := Lib.hid (fun W (U : Old wr W) => (HE8.out _ (Upd.trans hU U)).bytes hjn)
         have hbs := HD5.out.1.img j hjn;have ck := Old.cellOf' hU (HB8.out j hjn);have HUU := Lib.hid hU;clear hU
         by_cases hjs : j = sl
         case' pos =>
          rw [if_pos hjs] at hbs;rw [hbs] at HY;subst hjs
         case' neg =>
          rw [if_neg hjs] at hbs;rw [hbs] at HY;have e2 : ((j : Int) != (sl : Int)) = true := by rw [bne_iff_ne]; omega
          have e3 : ¬ (j : Int) = (sl : Int) := by omega
          have e4 : ((j : Int) == (sl : Int)) = false := by rw [beq_eq_false_iff_ne]; omega
         all_goals
          go_wp2_with (first | (go_at_call 7; refine HN.out.mono ?_; rintro e w9 ⟨rfl, hO⟩; have H9 := Lib.hid hO; clear hO HN) | (go_at_call 8; refine (HY.out _ H9.out).mono ?_; rintro e w10 ⟨⟨a3, n3, c3, rfl, hb3⟩, hO3⟩; have hcv := Zmk hb3; have H10 := Lib.hid (show Old wr w10 from Upd.trans H9.out hO3); have fk := Old.cellOf' H10.out ck; clear hO3 hb3 HY))
          exact ⟨⟨j + 1, hjn, by simp, Upd.trans HUU.out H10.out⟩, by simp [intOf]; omega⟩
        ·obtain rfl : n = j := by omega
         have HUU := Lib.hid hU;clear hU
         go_wp2_with (first | go_in)
         generalize hW9 : World.alloc (World.alloc wr _) _ = W9;have U9 : Old w8 W9 := by subst hW9; exact (HUU.out.alloc _).alloc _
         have b1 : W9.cell? ⟨wr.heap.size, 0, none⟩ = some (.pointer (some ⟨X, 0, none⟩)) := by subst hW9; go_simp
         have b2 : W9.cell? ⟨wr.heap.size + 1, 0, none⟩ = some (.int .i64 ((sl : Nat) : Int)) := by subst hW9; go_simp
         clear hW9;have hE9 := HE8.out _ U9;obtain ⟨tX, fX⟩ := hE9.idx.fX;have bX : W9.cell? ⟨X, 1, none⟩ = some (.slice (some ⟨x'.S, 0, none⟩) n x'.c) := fX.cell 1;have bS : W9.cell? ⟨x'.S, sl, none⟩ = some (.slice none 0 0) := by rw [hE9.idx.fS.cell, hE9.idx.fs sl hsn, HD5.out.2.2]
         have hk4 : k < 4 := by omega
         have hz9 := U9.size;clear hE9 fX;refine (wpIn_wide (n := 8)).1 ?_;refine Zky rfl (by omega) (gf := 52) (lb := #[.pointer (some ⟨wr.heap.size, 0, none⟩), .pointer (some ⟨wr.heap.size + 1, 0, none⟩)]) rfl trivial (enters_of Tryz.func52 (by kernel_rfl) rfl) (encs := fun x : Ent => #[x.val]) (fun _ => rfl) (Zmj (S := x'.S) (m := n) (c := x'.c) 7 hsn) (fun V U => ⟨Old.cellOf' U b1, Old.cellOf' U b2, Old.cellOf' U bX, Old.cellOf' U bS⟩) ?_
         rintro Dm V hDm hUV hKD;have hRn := Lib.hid (Zpw HK8.out (HE8.out w8 (Upd.refl _ _)) HD5.out.1 HD5.out.2.1 HOK.out hk4 (Upd.trans U9 hUV) (by omega) hKD)
         clear b1 b2 bX bS hUV hKD;go_wp2;exact ⟨⟨k + 1, Dm :: ds, hRn.out, Zoy rfl⟩, by simp [intOf]; omega⟩
   ·have gk : ¬ (k : Int) < 1 + (q : Int) := by omega
    have hu := hKK.u;have h6 := hKK.h6;have HR := Lib.hid hKK;clear hKK hE hok
    go_wp2_with (first | (go_at_call 12; refine (HWK.out _ hu).mono ?_; rintro eW wW ⟨rfl, hKw⟩; have d6 := hKw.has h6; have c6 : wW.cell? ⟨w.heap.size + 1, 0, none⟩ = some (.bool false) := d6.cell 0; have f6 := d6.frozen 0; have l6 := d6.lt; have HKW := Lib.hid hKw; clear hKw d6))
    exact Zjz HR.out HKW.out rfl
end Go.M
