/- Walks 23. -/
import Derived.Test.YtnmkiflnonafbaaGreatDoorProg
import Derived.Test.YtnmkiflnonafbaaGreatDoorK1
import Derived.Test.YtnmkiflnonafbaaGreatDoorK22
set_option linter.unusedVariables false
set_option linter.unusedSimpArgs false
set_option maxRecDepth 100000
namespace Go.M
open Go.Proofs Go.RowKit
structure Kpt (w w' : World) : Prop where
 heap : ∀ b, b < w.heap.size → w'.heap[b]? = w.heap[b]?
 os : w'.os = w.os
 out : w'.output = w.output
theorem Kpt.cell {w w' : World} (h : Kpt w w') {a : Addr} {v : Value} (hc : w.cell? a = some v) : w'.cell? a = some v := by
 have hl := World.block_lt_of_cell? w a hc
 unfold World.cell? at *
 rw [h.heap a.block hl]
 exact hc
theorem Upd.kpt {w w1 w2 : World} (h : Old w w1) (k : Kpt w1 w2) : Kpt w w2 :=
 ⟨fun b hb => (k.heap b (Nat.lt_of_lt_of_le hb h.size)).trans (h.keep b hb (fun x => x)), k.os.trans h.os, k.out.trans h.out⟩
theorem Kpt.kept {w w' : World} (h : Kpt w w') (may : MemPlace → Prop) : w.keptBut w' may := by
 refine ⟨h.os, h.out, fun i hi => ?_⟩
 rw [h.heap i hi]
 cases w.heap[i]? with
 | none => rfl
 | some o => cases o <;> simp
theorem Kpt.of {w w' : World} (h : ∀ B, B < w.heap.size → w'.heap[B]? = w.heap[B]?) (k : ∀ may, w.keptBut w' may) : Kpt w w' := ⟨h, (k fun _ => False).1, (k fun _ => False).2.1⟩
set_option linter.unusedSimpArgs false
theorem push_all : ∀ (bs : List UInt8) (r : ByteArray), (bs.map fun b => ((b.toNat : Nat) : Int)).foldl (fun r n => r.push (UInt8.ofNat n.toNat)) r = ⟨r.data ++ bs.toArray⟩
 | [], r => by simp
 | b :: bs, r => by
  simp only [List.map_cons, List.foldl_cons]
  rw [push_all bs]
  simp [ByteArray.push]
theorem conv_at {w : World} {a : Option Addr} {n c : Nat} {bs : List UInt8} (h : BytesAt w (.slice a n c) bs) : (convert 41 9 (.slice a n c)).run Tryz.prog w = .ok (.string ⟨bs.toArray⟩) w := by
 rw [run_convert_bytes_string _ _ _ 5 _ _ _ Tryz.underlying41 Tryz.underlying5 Tryz.underlying9]
 rcases h with ⟨h, rfl⟩ | ⟨ad, c', h, hc⟩
 ·cases h
  rfl
 ·cases h
  have hl := run_loadCells_list (P := Tryz.prog) w ad (bs.map bcell) hc
  rw [List.length_map] at hl
  have e : bs.map bcell = (bs.map fun b => ((b.toNat : Nat) : Int)).map (Value.int .u8) := by simp [bcell, Function.comp_def]
  rw [e] at hl
  rw [run_bytesToString _ _ _ _ _ hl, push_all]
  simp
theorem info_strR : (Tryz.prog.info? 9).map (fun i => (i.zero, i.size, i.bytes)) = some (some (.string ⟨#[]⟩), 1, 16) := by kernel_rfl
def strsU (s : DevS) (k : Nat) : List Value := (List.range k).map fun j => .string ⟨(s.img j).bs.toArray⟩
theorem cntU_succ (s : DevS) (k : Nat) : cntU s (k + 1) = cntU s k + (if unsOf s k then 1 else 0) := by
 unfold cntU
 rw [List.range_succ, List.filter_append, List.length_append]
 simp [List.filter]
 cases unsOf s k <;> rfl
theorem strsU_succ (s : DevS) (k : Nat) : strsU s (k + 1) = strsU s k ++ [.string ⟨(s.img k).bs.toArray⟩] := by
 simp [strsU, List.range_succ]
def ro23 : Oper := { dst := some 172, op := .convert 41 9 (.tmp 171), type := 9, pos := "outright.go:217", after := #[{ on := 22, ground := .data }, { on := 19, ground := .guard }], guard := some (19, false) }
theorem ro23_eq : ro23 = { dst := some 172, op := .convert 41 9 (.tmp 171), type := 9, pos := "outright.go:217", after := #[{ on := 22, ground := .data }, { on := 19, ground := .guard }], guard := some (19, false) } := rfl
set_option maxHeartbeats 2000000 in
theorem reclaimSyncs_walk {w : World} {n0 n1 n2 n3 n4 n5 n6 ll lc : Nat} {al : Option Addr} (h0 : n0 < 256) (h1 : n1 < 256) (h2 : n2 < 256) (h3 : n3 < 256) (h4 : n4 < 256) (h5 : n5 < 256) (h6 : n6 < 256) (hdb : DbAt w) (hse : SealAt w) (hll : ll ≤ lc) (hlc : lc ≤ 9223372036854775807) (hal : ll = 0 ∨ al.isSome = true) (hL : ∀ j, j < ll → j < 60 → ∃ lb lo, al = some ⟨lb, lo, none⟩ ∧ MoveAt w lb lo j)
 (hW : ∀ w' : World, Old w w' → Calls Tryz.prog 12 #[] w' fun e w'' => e = .returned (.bool true) ∧ Kpt w' w'') :
 Calls Tryz.prog 3 #[.agg #[.int .u8 ((n0 : Nat) : Int), .int .u8 ((n1 : Nat) : Int), .int .u8 ((n2 : Nat) : Int), .int .u8 ((n3 : Nat) : Int), .int .u8 ((n4 : Nat) : Int), .int .u8 ((n5 : Nat) : Int), .int .u8 ((n6 : Nat) : Int), .slice al ll lc]] w fun e w' => e = .returned (.bool true) ∧ Kpt w w' := by
 have HMD : Hid (∀ W : World, Old w W → Calls Tryz.prog 5 #[.agg #[.int .u8 ((n0 : Nat) : Int), .int .u8 ((n1 : Nat) : Int), .int .u8 ((n2 : Nat) : Int), .int .u8 ((n3 : Nat) : Int), .int .u8 ((n4 : Nat) : Int), .int .u8 ((n5 : Nat) : Int), .int .u8 ((n6 : Nat) : Int), .slice al ll lc]] W fun e w1 => ∃ PP D B X n col s, e = .returned (.tuple #[.pointer (some ⟨PP, 0, none⟩), .bool true]) ∧ RsB w1 col PP D B X n ∧ RsD w1 col D n s w1 ∧ s.ops ≤ 600 ∧ (∀ b, b < w.heap.size → (col b).1 ≠ 1) ∧ Old w w1) := fun W U => by
  refine (made h0 h1 h2 h3 h4 h5 h6 (hdb.upd U (fun x => x)) (hse.upd U (fun x => x)) hll hlc hal (fun j a b => by obtain ⟨lb, lo, ha, kd, ky, sz, q1, q2, q3, m0, m1, m2⟩ := hL j a b; exact ⟨lb, lo, ha, kd, ky, sz, q1, q2, q3, Old.cellOf' U m0, Old.cellOf' U m1, Old.cellOf' U m2⟩)).mono ?_
  rintro e w1 ⟨PP, D, B, X, it, rfl, hit, hm⟩
  obtain ⟨col, s, r1, r2, r3, r4, r5⟩ := rs_made hm hit
  have sz := U.size
  exact ⟨PP, D, B, X, _, col, s, rfl, r1, r2, r3, fun b hb => r5 b (by omega), U.trans r4⟩
 have HWK := Lib.hid hW
 clear hdb hse hL hW
 go_enter Tryz.func3, Tryz.ntmps3
 go_wp2_with (first | (go_at_call 5; refine (HMD.out _ ?_).mono ?_; (first | with_reducible exact (Upd.refl _ w) | exact ((Upd.refl _ w).alloc _) | exact (((Upd.refl _ w).alloc _).alloc _)); rintro e w1 ⟨PP, D, B, X, n, col, s, rfl, hb1, hd1, ho1, hc1, hU1⟩; have HB := Lib.hid hb1; have HD1 := Lib.hid hd1; have HU1 := Lib.hid (And.intro ho1 (And.intro hc1 hU1)); clear hb1 hd1 ho1 hc1 hU1; refine Hid.out ?_))
 have hn1 := HB.out.n1
 have hn9 := HB.out.n9
 obtain ⟨c0, c7, c8, c9⟩ := HB.out.cells HD1.out
 have HOP := Lib.hid (HD1.out.ops (by omega))
 refine Lib.hid ?_
 go_wp2_with (first | (go_at_call 6; refine HOP.out.mono ?_; rintro e w2 ⟨rfl, rfl⟩))
 obtain ⟨i0, hi0, hz0, hz1, hz2⟩ := info_parts info_strR
 clear HOP c0 c7 c8 c9
 go_loopw [5, 7, 8, 9, 10] (fun nn v i _ _ wr => ∃ k : Nat, k ≤ n ∧ i = .int .i64 k ∧ nn = .int .i64 ((cntU s k : Nat) : Int) ∧ Old w1 wr ∧ wr.ownsRow 0 9 1 v k (strsU s k) ∧ ∀ b, v.ownBlock = some b → w1.heap.size ≤ b)
  (fun _ _ i _ _ _ => n - (intOf i).toNat)
 case atStart => exact ⟨0, Nat.zero_le _, rfl, rfl, Upd.refl _ _, World.ownsRow_nil _ _ _ _, fun b hb => (by cases hb)⟩
 case round =>
  obtain ⟨k, hk, rfl, rfl, hU, hown, hfr⟩ := hrel
  have hd := HD1.out.old hU
  obtain ⟨c0, c7, c8, c9⟩ := HB.out.cells hd
  by_cases hkn : k < n
  ·have HN := Lib.hid (hd.uns hkn)
   have HY := Lib.hid (fun (W : World) (U : Old wr W) => RsD.bytes HB.out (hd.old U) hkn)
   have hcs := cntU_succ s k
   have hcl := cntU_le s k
   have HO := Lib.hid hown
   have HUU := Lib.hid hU
   have HFR := Lib.hid hfr
   obtain ⟨ra, rc, rfl⟩ := own_slice hown
   have hnk : (k : Int) < (n : Int) := by omega
   clear hd hown hU hfr
   have hdur : (s.img k).dur ≤ (s.img k).bs.length := by
    obtain ⟨K, S, cap, T, M, V, h2⟩ := HD1.out.dev
    exact (h2.fm k (by have := HD1.out.n; omega)).durs
   have HRel := Lib.hid (fun (w3 w4 : World) (v4 : Value) (h3 : Old wr w3) (h : (w4.ownsRow 0 9 1 v4 (k + 1) (strsU s k ++ [.string ⟨(s.img k).bs.toArray⟩])) ∧ (w3.alloc (.cells #[.string ⟨(s.img k).bs.toArray⟩] 9)).grownBy w4 (Value.slice ra k rc).ownBlock ∧ (∀ b, v4.ownBlock = some b → (Value.slice ra k rc).ownBlock = some b ∨ (w3.alloc (.cells #[.string ⟨(s.img k).bs.toArray⟩] 9)).heap.size ≤ b)) => (show Old w1 w4 ∧ w4.ownsRow 0 9 1 v4 (k + 1) (strsU s (k + 1)) ∧ ∀ b, v4.ownBlock = some b → w1.heap.size ≤ b from by
    obtain ⟨ha, hg, hf⟩ := h
    have U3 : Old w1 (w3.alloc (.cells #[.string ⟨(s.img k).bs.toArray⟩] 9)) := (HUU.out.trans h3).alloc _
    have sz := U3.size
    refine ⟨U3.grown hg (fun b e => .inr (HFR.out b e)), by rw [strsU_succ]; exact ha, fun b hb => ?_⟩
    rcases hf b hb with h | h
    ·exact HFR.out b h
    ·omega))
   by_cases hu : (s.img k).dur < (s.img k).bs.length
   ·have hu2 : unsOf s k = true := by simp [unsOf, hu]
    rw [hu2, if_pos rfl] at hcs
    have g3 : (0 : Int) < ((s.img k).bs.length : Int) - ((s.img k).dur : Int) := by omega
    go_wp2_with (first | (go_at_call 7; refine HN.out.mono ?_; rintro e w2 ⟨rfl, hO⟩; have H2 := Lib.hid hO; clear hO HN) | (go_at_call 8; refine (HY.out _ H2.out).mono ?_; rintro e w3 ⟨⟨a3, n3, c3, rfl, hb3⟩, hO3⟩; have hcv := conv_at hb3; have H3 := Lib.hid (show Old wr w3 from Upd.trans H2.out hO3); clear hO3 hb3 HY) | (go_at_call 8; refine Hid.out ?_) | (at_builtin; refine wpList_append_mk rfl (.tmp 54) (.tmp 59) 37 rfl 9 i0 (.string ⟨#[]⟩) 1 16 Tryz.underlying37 hi0 hz0 hz1 hz2 rfl (by decide) (.slice ra k rc) k (strsU s k) rfl (by exact (Upd.own (H3.out.alloc _) HO.out (fun _ _ x => x))) ⟨w3.heap.size, 0, none⟩ 1 1 [.string ⟨(s.img k).bs.toArray⟩] rfl rfl (by simpa using one_new w3 _ _) (by simp [Value.oneCell']) (by unfold maxLen; omega) (by omega) ?_; intro v4 w4 hown4 hgrow4 _ hfr4; have H4 := Lib.hid (And.intro hown4 (And.intro hgrow4 hfr4)); clear hown4 hgrow4 hfr4))
    obtain ⟨r1, r2, r3⟩ := HRel.out _ _ _ H3.out H4.out
    exact ⟨⟨k + 1, hkn, by simp, by rw [hcs]; simp, r1, r2, r3⟩, by simp [intOf]; omega⟩
   ·have hu2 : unsOf s k = false := by simp [unsOf, hu]
    rw [hu2, if_neg (by decide)] at hcs
    have g3 : ¬ (0 : Int) < ((s.img k).bs.length : Int) - ((s.img k).dur : Int) := by omega
    go_wp2_with (first | (go_at_call 7; refine HN.out.mono ?_; rintro e w2 ⟨rfl, hO⟩; have H2 := Lib.hid hO; clear hO HN) | (go_at_call 8; refine (HY.out _ H2.out).mono ?_; rintro e w3 ⟨⟨a3, n3, c3, rfl, hb3⟩, hO3⟩; have hcv := conv_at hb3; have H3 := Lib.hid (show Old wr w3 from Upd.trans H2.out hO3); clear hO3 hb3 HY) | (go_at_call 8; refine Hid.out ?_) | (at_builtin; refine wpList_append_mk rfl (.tmp 54) (.tmp 59) 37 rfl 9 i0 (.string ⟨#[]⟩) 1 16 Tryz.underlying37 hi0 hz0 hz1 hz2 rfl (by decide) (.slice ra k rc) k (strsU s k) rfl (by exact (Upd.own (H3.out.alloc _) HO.out (fun _ _ x => x))) ⟨w3.heap.size, 0, none⟩ 1 1 [.string ⟨(s.img k).bs.toArray⟩] rfl rfl (by simpa using one_new w3 _ _) (by simp [Value.oneCell']) (by unfold maxLen; omega) (by omega) ?_; intro v4 w4 hown4 hgrow4 _ hfr4; have H4 := Lib.hid (And.intro hown4 (And.intro hgrow4 hfr4)); clear hown4 hgrow4 hfr4))
    obtain ⟨r1, r2, r3⟩ := HRel.out _ _ _ H3.out H4.out
    exact ⟨⟨k + 1, hkn, by simp, by rw [hcs]; simp, r1, r2, r3⟩, by simp [intOf]; omega⟩
  ·obtain rfl : n = k := by omega
   have o1 := HU1.out.1
   have o0 := hd.o0
   have hcl := cntU_le s n
   obtain ⟨g, gc, rfl⟩ := own_block hown (by omega)
   obtain ⟨s2, q1, q2, q3, q4⟩ := RsD.sync1 HB.out hd o1
   have HS1 := Lib.hid q4
   have HQ := Lib.hid q3
   have HAL := Lib.hid q2
   have HO := Lib.hid hown
   have HUU := Lib.hid hU
   have hg := hfr g rfl
   have iw : IntKind.i64.wrap (s.ops + (cntU s n : Int)) = s.ops + (cntU s n : Int) := IntWalk.i64_in _ (by omega)
   have HS2 := Lib.hid (fun (W : World) (h : RsD w1 col D n s2 W ∧ Upd (fun b => (col b).1 = 1) wr W) => RsD.sync2 HB.out h.1 HAL.out)
   have HOP := Lib.hid (fun (W : World) (h : RsD w1 col D n s2 W ∧ Upd (fun b => (col b).1 = 1) wr W) => RsD.ops h.1 (by omega))
   rw [q1] at HOP
   have HDR : Hid (∀ W, (RsD w1 col D n s2 W ∧ Upd (fun b => (col b).1 = 1) wr W) → (RsD w1 col D n s2 W.drew ∧ Upd (fun b => (col b).1 = 1) wr W.drew)) := fun W h => ⟨h.1.old (Upd.refl _ _).drew, h.2.drew⟩
   have HCE : Hid (∀ W, (RsD w1 col D n s2 W ∧ Upd (fun b => (col b).1 = 1) wr W) → W.cell? ⟨PP, 7, none⟩ = some (.pointer (some ⟨D, 0, none⟩)) ∧ W.cell? ⟨PP, 8, none⟩ = some (.pointer (some ⟨B, 0, none⟩))) := fun W h => ⟨(HB.out.cells h.1).2.1, (HB.out.cells h.1).2.2.1⟩
   clear hd hown hU hfr q2 q3 q4
   go_wp2
   go_region_held3 (fun x => x.cell? ⟨PP, 7, none⟩ = some (.pointer (some ⟨D, 0, none⟩)) ∧ x.cell? ⟨PP, 8, none⟩ = some (.pointer (some ⟨B, 0, none⟩)))
    (first | (with_reducible exact QQ) | go_keep)
    (first | (go_at_call 9; (with_reducible refine (HS1.out _ ?_).mono ?_); (first | exact (Upd.refl _ _) | exact (Upd.refl _ _).drew); rintro e2 w2 ⟨rfl, hU2, hd2⟩; have HDc := Lib.hid (And.intro hd2 hU2); have QQ := HCE.out _ HDc.out; clear hU2 hd2 HS1) | (go_at_call 9; (with_reducible refine (HS2.out _ ?_).mono ?_); (first | with_reducible exact HDc.out | exact HDR.out _ HDc.out); rintro e3 w3 ⟨rfl, hU3, hd3⟩; have HDd := Lib.hid (And.intro hd3 ((HDc.out.2).trans hU3)); clear QQ; have QQ := HCE.out _ HDd.out; clear hU3 hd3 HS2) | (go_at_call 6; (with_reducible refine (HOP.out _ ?_).mono ?_); (first | with_reducible exact HDd.out | exact HDR.out _ HDd.out | with_reducible exact HDc.out | exact HDR.out _ HDc.out); rintro eC wC ⟨rfl, rfl⟩))
   have HO3 : Hid (Old w w3) := (HU1.out.2.2.trans HUU.out).after HDd.out.2 (fun b hb e => HU1.out.2.1 b hb e)
   have HC3 : Hid (∀ k, k < n → w3.cell? ⟨g, k, none⟩ = some (.string ⟨(s.img k).bs.toArray⟩)) := fun k hk => by
    have h := Upd.own HDd.out.2 HO.out (fun b hb e => by
     simp [Value.ownBlock] at hb
     subst hb
     rw [HB.out.new g hg] at e
     cases e)
    rw [h.cellAt k (by omega)]
    simp [strsU, hk]
   have HD3 : Hid (RsD w1 col D n s2 w3) := HDd.out.1
   clear HDd HDc HO HUU HU1 HCE HDR HOP QQ iw HD1
   go_wp2
   go_loopw [11, 12, 13, 14, 15, 16, 17] (fun i _ _ _ _ _ _ wr => ∃ k : Nat, k ≤ n ∧ i = .int .i64 k ∧ Old w3 wr) (fun i _ _ _ _ _ _ _ => n - (intOf i).toNat)
   case atStart => exact ⟨0, Nat.zero_le _, rfl, Upd.refl _ _⟩
   case round =>
    obtain ⟨k, hk, rfl, hU⟩ := hrel
    have hd := HD3.out.old hU
    obtain ⟨c0, c7, c8, c9⟩ := HB.out.cells hd
    by_cases hkn : k < n
    ·have hnk : (k : Int) < (n : Int) := by omega
     obtain ⟨r, hs1, hs2⟩ := hd.safe HB.out HAL.out hkn
     have HN : Hid (Calls Tryz.prog 7 #[.pointer (some ⟨D, 0, none⟩), .int .i64 ((k : Nat) : Int)] wr fun e w' => e = .returned (.tuple #[.int .i64 0, .int .i64 0]) ∧ Old wr w') := (hd.uns hkn).mono (by rintro e w' ⟨rfl, h⟩; exact ⟨by rw [(HQ.out k hkn).1]; simp, h⟩)
     have HS := Lib.hid hs1
     have HR := Lib.hid hs2
     have HY := Lib.hid (fun (W : World) (U : Old wr W) => RsD.bytes HB.out (hd.old U) hkn)
     rw [(HQ.out k hkn).2] at HY
     have ck := Old.cellOf' hU (HC3.out k hkn)
     have HUU := Lib.hid hU
     clear hs1 hs2 hd hU
     have HCE : Hid (∀ W, Old wr W → W.cell? ⟨PP, 7, none⟩ = some (.pointer (some ⟨D, 0, none⟩)) ∧ W.cell? ⟨PP, 8, none⟩ = some (.pointer (some ⟨B, 0, none⟩)) ∧ W.cell? ⟨PP, 9, none⟩ = some (.pointer (some ⟨X, 0, none⟩))) := fun W U => ⟨Old.cellOf' U c7, Old.cellOf' U c8, Old.cellOf' U c9⟩
     go_wp2_with (first | (go_at_call 7; refine HN.out.mono ?_; rintro e w4 ⟨rfl, hO⟩; obtain ⟨d7, d8, d9⟩ := HCE.out _ hO; have H4 := Lib.hid hO; clear hO HN))
     go_region_held3 (fun x => x.cell? ⟨PP, 7, none⟩ = some (.pointer (some ⟨D, 0, none⟩)) ∧ x.cell? ⟨PP, 8, none⟩ = some (.pointer (some ⟨B, 0, none⟩)) ∧ x.cell? ⟨PP, 9, none⟩ = some (.pointer (some ⟨X, 0, none⟩)))
      (first | (with_reducible exact QQ) | go_keep)
      (first | (go_at_call 10; (with_reducible refine (HS.out _ ?_).mono ?_); (first | with_reducible exact H4.out | exact H4.out.drew); rintro e5 w5 ⟨rfl, hO⟩; have H5 : Hid (Old wr w5) := (by first | exact Upd.trans H4.out hO | exact Upd.trans H4.out.drew hO); have QQ := HCE.out _ H5.out; clear hO HS))
     have f9 := QQ.2.2
     go_wp2_with (first | (go_at_call 11; (with_reducible refine (HR.out _ ?_).mono ?_); (first | with_reducible exact H5.out | exact H5.out.drew); rintro e6 w6 ⟨rfl, hO⟩; have H6 : Hid (Old wr w6) := (by first | exact Upd.trans H5.out hO | exact Upd.trans H5.out.drew hO); have fk := Old.cellOf' H6.out ck; clear hO HR))
     have hk0 : (0 : Int) ≤ (k : Int) := by omega
     clear QQ c0 c7 c8 c9 d7 d8 d9 f9 HCE
     have hro := ro23_eq
     rw [← ro23_eq]
     go_region_held3 (fun x => x.cell? ⟨g, k, none⟩ = some (.string ⟨(s.img k).bs.toArray⟩))
      (first | (with_reducible exact QQ) | go_keep)
      (first | (go_at_call 8; (with_reducible refine (HY.out _ ?_).mono ?_); (first | with_reducible exact H6.out | exact H6.out.drew); rintro e7 w7 ⟨⟨a7, n7, c7, rfl, hb7⟩, hO⟩; have hcv := conv_at hb7; have H7 : Hid (Old wr w7) := (by first | exact Upd.trans H6.out hO | exact Upd.trans H6.out.drew hO); have QQ := Old.cellOf' H7.out ck; clear hO HY hb7))
     go_wp2
     go_roundw
     case rel => exact ⟨k + 1, hkn, by simp, HUU.out.trans H7.out⟩
     case measure => simp [intOf]; omega
    ·obtain rfl : n = k := by omega
     have HUU := Lib.hid hU
     clear hU hd
     go_wp2_with (first | (go_at_call 12; refine (HWK.out _ (HO3.out.trans HUU.out)).mono ?_; rintro eW wW ⟨rfl, hU⟩))
     go_ret
     exact ⟨rfl, Upd.kpt (HO3.out.trans HUU.out) hU⟩
end Go.M
