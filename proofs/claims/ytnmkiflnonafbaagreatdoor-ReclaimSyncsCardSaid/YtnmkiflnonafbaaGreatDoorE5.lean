/- The operations that leave memory alone: the rest, and all of them together. -/
import Derived.Test.YtnmkiflnonafbaaGreatDoorE4
set_option linter.unusedVariables false
namespace Go.X
noncomputable section
set_option linter.unusedSectionVars false
section
variable {P : Program} {X : XP} (ok : XPok P X) (w : World) {e : Env} {L : Loops} {H : AHeap} {nx : Nat} {NG : GP} (hH : HR NG e L H.objs.get nx w)
include ok in
theorem qFieldAddr_run {s f : Nat} {a v : AV} {va : Value} (ha : cv e a = some va) (h : qFieldAddr f (X.tys.get s) (some a) = some v) : ∃ y, cv e v = some y ∧ (Instr.fieldAt s va f).run P w = .ok y w := by
 cases ht : X.tys.get s with
 | none => rw [ht] at h; simp [qFieldAddr] at h
 | some ti =>
  rw [ht] at h;have hk := ok.tys s ti ht;cases a with
  | ptr b off =>
   simp only [qFieldAddr] at h;unfold qFieldAddr2 at h
   split at h
   ·rename_i gs htk;cases hg : gs[f]? with
    | none => rw [hg] at h; simp [qFieldAddr3] at h
    | some g =>
     rw [hg] at h;simp only [qFieldAddr3, brec] at h;cases hb : Nat.blt 0 g.size with
     | false => rw [hb] at h; cases h
     | true =>
      rw [hb] at h; simp only [cond_true, Option.some.injEq] at h; subst h;have hpos := nblt_of hb;obtain ⟨fs, hu, hm⟩ := tk_struct hk htk;obtain ⟨fl, hfl, h1, h2, h3⟩ := fld_of w hk hu hm hg;obtain ⟨x, hx, rfl⟩ := cv_ptr ha;refine ⟨.pointer (some ⟨x.1, off + g.off, none⟩), by simp only [cv, hx], ?_⟩
      simp only [Instr.fieldAt, Sem.run_bind, run_underlying hu, Result.andThen_ok, hfl, Instr.sureAddr, Sem.run_pure, fieldPlace, h3, if_neg (show ¬ g.size = 0 by omega), add_none, h1]
   ·cases h
  | _ => simp [qFieldAddr] at h
include ok in
theorem qField_run {s f : Nat} {a v : AV} {va : Value} (ha : cv e a = some va) (h : qField X f (X.tys.get s) (some a) = some v) : ∃ y, cv e v = some y ∧ (Instr.field s va f).run P w = .ok y w := by
 cases ht : X.tys.get s with
 | none => rw [ht] at h; simp [qField] at h
 | some ti =>
  rw [ht] at h;have hk := ok.tys s ti ht;cases a with
  | agg vs =>
   simp only [qField] at h;unfold qField2 at h
   split at h
   ·rename_i gs htk;cases hg : gs[f]? with
    | none => rw [hg] at h; simp [qField3] at h
    | some g =>
     rw [hg] at h;simp only [qField3] at h;obtain ⟨fs, hu, hm⟩ := tk_struct hk htk;obtain ⟨fl, hfl, h1, h2, h3⟩ := fld_of w hk hu hm hg;obtain ⟨us, hus, rfl⟩ := cv_agg ha;obtain ⟨y, hy, hr⟩ := part_run ok w hus h;refine ⟨y, hy, ?_⟩;simp only [Instr.field, Sem.run_bind, run_underlying hu, Result.andThen_ok, hfl, asAgg, Sem.run_pure, h1, h2, hr]
   ·cases h
  | _ => simp [qField] at h
theorem ixAddr_of {b off n i : Nat} {o : Option TyI} {v : AV} (h : ixAddr b off n i o = some v) : ∃ ei, o = some ei ∧ i < n ∧ v = .ptr b (off + i * ei.size) := by
 cases o with
 | none => simp [ixAddr] at h
 | some ei =>
  simp only [ixAddr, brec] at h;cases hb : Nat.blt i n with
  | false => rw [hb] at h; cases h
  | true => rw [hb] at h; simp only [cond_true, Option.some.injEq] at h; exact ⟨ei, rfl, nblt_of hb, h.symm⟩
theorem ixArg_of {b lo i : Nat} {o : Option TyI} {v : AV} (h : ixArg b lo i o = some v) : ∃ ei, o = some ei ∧ i < lo ∧ ei.size = 1 ∧ v = .eptr b i := by
 cases o with
 | none => simp [ixArg] at h
 | some ei =>
  simp only [ixArg, brec] at h;cases hb : (Nat.blt i lo && Nat.beq ei.size 1) with
  | false => rw [hb] at h; cases h
  | true =>
   rw [hb] at h; simp only [cond_true, Option.some.injEq] at h;simp only [Bool.and_eq_true] at hb;exact ⟨ei, rfl, nblt_of hb.1, nbeq_of hb.2, h.symm⟩
include ok in
theorem qIndexAddr_run {t : Nat} {a ix v : AV} {va vi : Value} (ha : cv e a = some va) (hi : cv e ix = some vi) (h : qIndexAddr X (X.tys.get t) (some a) (some ix) = some v) :
 ∃ y, cv e v = some y ∧ (Instr.indexAt t va vi).run P w = .ok y w := by
 unfold qIndexAddr at h
 split at h
 ·rename_i ti v' k i ht ha' hix;simp only [Option.some.injEq] at ha' hix;subst ha' hix;have hk := ok.tys t ti ht;cases cv_int hi;unfold qIndexAddr2 at h
  split at h
  ·rename_i n el b off htk;obtain ⟨ei, hel, hlt, rfl⟩ := ixAddr_of h;obtain ⟨x, hx, rfl⟩ := cv_ptr ha;refine ⟨.pointer (some ⟨x.1, off + i * ei.size, none⟩), by simp only [cv, hx], ?_⟩
   have hu := tk_arr hk htk;have hcond : (0 : Int) ≤ Int.ofNat i ∧ Int.ofNat i < (n : Int) := by constructor <;> simp <;> omega
   simp [Instr.indexAt, asIntOf, run_underlying hu, Instr.sureAddr, run_sizeOf' w (ok.tys el ei hel), add_none];omega
  ·rename_i el b off len c htk;obtain ⟨ei, hel, hlt, rfl⟩ := ixAddr_of h;obtain ⟨x, hx, rfl⟩ := cv_sl ha;refine ⟨.pointer (some ⟨x.1, off + i * ei.size, none⟩), by simp only [cv, hx], ?_⟩
   have hu := tk_slice hk htk;have hcond : (0 : Int) ≤ Int.ofNat i ∧ Int.ofNat i < (len : Int) := by constructor <;> simp <;> omega
   simp [Instr.indexAt, asIntOf, run_underlying hu, run_sizeOf' w (ok.tys el ei hel), add_none];omega
  ·rename_i el b i0 lo hi0 htk;obtain ⟨ei, hel, hlt, h1, rfl⟩ := ixArg_of h;obtain ⟨x, n, c, hx, _, rfl, hlo, _⟩ := cv_asl ha;refine ⟨.pointer (some ⟨x.1, x.2 + i, none⟩), by simp only [cv, hx], ?_⟩
   have hu := tk_slice hk htk;have hcond : (0 : Int) ≤ Int.ofNat i ∧ Int.ofNat i < (n : Int) := by constructor <;> simp <;> omega
   simp [Instr.indexAt, asIntOf, run_underlying hu, run_sizeOf' w (ok.tys el ei hel), add_none, h1];omega
  ·cases h
 ·cases h
include ok in
theorem qIndex_run {t : Nat} {a ix v : AV} {va vi : Value} (ha : cv e a = some va) (hi : cv e ix = some vi) (h : qIndex X (X.tys.get t) (some a) (some ix) = some v) :
 ∃ y, cv e v = some y ∧ (Instr.index t va vi).run P w = .ok y w := by
 unfold qIndex at h
 split at h
 ·rename_i ti v' k i ht ha' hix;simp only [Option.some.injEq] at ha' hix;subst ha' hix;have hk := ok.tys t ti ht;cases cv_int hi;unfold qIndex2 at h
  split at h
  ·rename_i s htk;obtain ⟨hs, rfl⟩ := cv_str ha;have hu := tk_str hk htk;cases hb : s[i]? with
   | none => rw [hb] at h; cases h
   | some b =>
    rw [hb] at h; simp only [Option.some.injEq] at h; subst h;refine ⟨_, rfl, ?_⟩;have hb256 := hs b (List.mem_of_getElem? hb);have hlt : i < s.length := (List.getElem?_eq_some_iff.1 hb).1;have hget : (bytesOf s)[i]? = some (UInt8.ofNat b) := by
     have hsz : i < (bytesOf s).size := by rw [bytesOf_size]; exact hlt
     rw [getElem?_pos (bytesOf s) i hsz]
     congr 1
     show (bytesOf s).data[i] = _;simp only [bytesOf, List.getElem_toArray, List.getElem_map]
     congr 1
     exact (List.getElem?_eq_some_iff.1 hb).2
    simp [Instr.index, asIntOf, run_underlying hu, hget];omega
  ·rename_i n el vs htk;obtain ⟨us, hus, rfl⟩ := cv_agg ha;have hu := tk_arr hk htk;cases hel : X.tys.get el with
   | none => rw [hel] at h; simp [ixAgg] at h
   | some ei =>
    rw [hel] at h;simp only [ixAgg, brec] at h;cases hb : Nat.blt i n with
    | false => rw [hb] at h; cases h
    | true =>
     rw [hb] at h; simp only [cond_true] at h;have hlt := nblt_of hb;obtain ⟨y, hy, hr⟩ := part_run ok w (t := el) (off := i * ei.size) hus (by rw [hel]; exact h)
     refine ⟨y, hy, ?_⟩;have hcond : (0 : Int) ≤ Int.ofNat i ∧ Int.ofNat i < (n : Int) := by constructor <;> simp <;> omega
     simp only [Instr.index, asIntOf, Sem.run_bind, Sem.run_pure, Result.andThen_ok, run_underlying hu, if_pos hcond, run_sizeOf' w (ok.tys el ei hel)];exact hr
  ·cases h
 ·cases h
include ok in
theorem qAssert_run {t : TypeId} {a v : AV} {va : Value} (ha : cv e a = some va) (h : qAssert t (X.tys.get t) (some a) = some v) (xt : TypeId) : ∃ y, cv e v = some y ∧ (Instr.typeAssert va xt t true).run P w = .ok y w := by
 cases ht : X.tys.get t with
 | none => rw [ht] at h; simp [qAssert] at h
 | some ti =>
  rw [ht] at h;have hk := ok.tys t ti ht;unfold qAssert at h
  split at h
  ·rename_i ti' t' u h1 h2;cases h1; cases h2;simp only [brec] at h;cases hc : (isConcrete ti.k && Nat.beq t' t) with
   | false => rw [hc] at h; cases h
   | true =>
    rw [hc] at h; simp only [cond_true, Option.some.injEq] at h; subst h;simp only [Bool.and_eq_true] at hc;obtain rfl := nbeq_of hc.2;have hc1 := hc.1;simp only [cv] at ha;cases hu : cv e u with
    | none => rw [hu] at ha; cases ha
    | some z =>
     rw [hu] at ha; simp only [Option.some.injEq] at ha; subst ha;obtain ⟨d, hd, hdk⟩ := hk.und;refine ⟨.tuple #[z, .bool true], by simp only [cv, cvs, hu], ?_⟩
     cases d <;> cases htk : ti.k <;> rw [htk] at hdk hc1 <;> simp [TKok, isConcrete] at hdk hc1 <;> simp [Instr.typeAssert, run_underlying hd]
  ·cases h
theorem qExtract_run {i : Nat} {a v : AV} {va : Value} (ha : cv e a = some va) (h : qExtract i (some a) = some v) : ∃ y, cv e v = some y ∧ (Instr.extract va i).run P w = .ok y w := by
 cases a with
 | tup vs =>
  simp only [qExtract] at h;obtain ⟨us, hus, rfl⟩ := cv_tup ha;obtain ⟨y, hy, hl⟩ := cvs_get hus _ _ h;exact ⟨y, hy, by simp [Instr.extract, hl]⟩
 | _ => simp [qExtract] at h
theorem optArg_of {ev : Operand → Option AV} {ρ : Operand → Value} (hev : EvOk e ev ρ) {x : Option Operand} {r : Option Nat} (h : optArg ev x = some r) :
 (x = none ∧ r = none) ∨ ∃ o k n, x = some o ∧ r = some n ∧ ρ o = .int k (n : Int) := by
 cases x with
 | none => simp only [optArg, Option.some.injEq] at h; exact .inl ⟨rfl, h.symm⟩
 | some o =>
  simp only [optArg] at h;cases ho : ev o with
  | none => rw [ho] at h; cases h
  | some v =>
   rw [ho] at h;simp only [Option.map_eq_some_iff] at h;obtain ⟨n, hn, rfl⟩ := h;unfold natArg at hn
   split at hn
   ·rename_i k m;simp only [Option.some.injEq] at hn; subst hn;exact .inr ⟨o, k, m, rfl, rfl, by have := hev o _ ho; exact (cv_int this)⟩
   ·cases hn
theorem sliceBound_run {x : Value} {k : IntKind} {n y : Nat} (hx : x = .int k (n : Int)) (h : n ≤ y) (c : BoundsCode) : (Instr.sliceBound x y c).run P w = .ok n w := by
 subst hx;have : (0 : Int) ≤ (n : Int) ∧ (n : Int) ≤ (y : Int) := by omega
 simp [Instr.sliceBound, asIntOf, this]
theorem sliceBounds_run {ev : Operand → Option AV} {ρ : Operand → Value} (hev : EvOk e ev ρ) {lo hi mx : Option Operand} {l h m : Option Nat} (hl : optArg ev lo = some l) (hh : optArg ev hi = some h) (hm : optArg ev mx = some m)
 (isSlice : Bool) (len cap : Nat) (h1 : m.getD cap ≤ cap) (h2 : h.getD len ≤ m.getD cap) (h3 : l.getD 0 ≤ h.getD len) (hmh : m.isSome = true → h.isSome = true) :
 (Instr.sliceBounds isSlice len cap (lo.map ρ) (hi.map ρ) (mx.map ρ)).run P w = .ok (l.getD 0, h.getD len, m.getD cap) w := by
 rcases optArg_of hev hm with ⟨rfl, rfl⟩ | ⟨om, km, nm, rfl, rfl, hom⟩ <;> rcases optArg_of hev hh with ⟨rfl, rfl⟩ | ⟨oh, kh, nh, rfl, rfl, hoh⟩ <;> rcases optArg_of hev hl with ⟨rfl, rfl⟩ | ⟨ol, kl, nl, rfl, rfl, hol⟩ <;>
  simp only [Option.getD_none, Option.getD_some] at h1 h2 h3 <;>
  first
   | (simp at hmh; done)
   | (simp [Instr.sliceBounds]; done)
   | (simp [Instr.sliceBounds, sliceBound_run w hol h3]; done)
   | (simp [Instr.sliceBounds, sliceBound_run w hoh h2]; done)
   | (simp [Instr.sliceBounds, sliceBound_run w hoh h2, sliceBound_run w hol h3]; done)
   | (simp [Instr.sliceBounds, sliceBound_run w hom h1, sliceBound_run w hoh h2]; done)
   | (simp [Instr.sliceBounds, sliceBound_run w hom h1, sliceBound_run w hoh h2, sliceBound_run w hol h3]; done)
theorem bytesOf_extract (s : List Nat) (l h : Nat) : (bytesOf s).extract l h = bytesOf ((s.take h).drop l) := by
 apply ByteArray.ext;simp [bytesOf, List.extract_eq_take_drop, List.map_take, List.map_drop];rw [List.drop_take]
theorem slFix_of {es b off c l h m : Nat} {v : AV} (hh : slFix es b off c l h m = some v) : l ≤ h ∧ h ≤ m ∧ m ≤ c ∧ v = .sl b (if m = l then off else off + l * es) (h - l) (.fix (m - l)) := by
 simp only [slFix, brec] at hh;cases hb : (Nat.ble l h && Nat.ble h m && Nat.ble m c) with
 | false => rw [hb] at hh; cases hh
 | true =>
  rw [hb] at hh;simp only [Bool.and_eq_true] at hb;simp only [cond_true, Option.some.injEq] at hh;refine ⟨nble_of hb.1.1, nble_of hb.1.2, nble_of hb.2, ?_⟩;rw [← hh]
  congr 1
  by_cases e1 : m = l
  ·rw [nbeq_t e1, if_pos e1]; rfl
  ·rw [nbeq_f e1, if_neg e1]; rfl
include ok hH in
theorem qSlice_run {t : Nat} {ev : Operand → Option AV} {ρ : Operand → Value} (hev : EvOk e ev ρ) {a v : AV} {va : Value} (ha : cv e a = some va) {lo hi mx : Option Operand} (h : sliceA X ev H t a lo hi mx = some v) :
 ∃ y, cv e v = some y ∧ (Instr.sliceAt t va (lo.map ρ) (hi.map ρ) (mx.map ρ)).run P w = .ok y w := by
 unfold sliceA sliceA1 at h
 split at h
 ·rename_i ti l hh m ht hl hhi hmx;have hk := ok.tys t ti ht;simp only [brec] at h;cases hb : (m.isNone || hh.isSome) with
  | false => rw [hb] at h; cases h
  | true =>
   rw [hb] at h; simp only [cond_true] at h;have hmh : m.isSome = true → hh.isSome = true := by
    intro hm; cases m with
    | none => cases hm
    | some m => simpa using hb
   unfold sliceA2 at h
   split at h
   ·rename_i s htk;obtain ⟨hs, rfl⟩ := cv_str ha;have hu := tk_str hk htk;simp only [slStr, brec] at h;cases hc : (m.isNone && Nat.ble (l.getD 0) (hh.getD s.length) && Nat.ble (hh.getD s.length) s.length) with
    | false => rw [hc] at h; cases h
    | true =>
     rw [hc] at h; simp only [cond_true, Option.some.injEq] at h; subst h;simp only [Bool.and_eq_true] at hc;obtain ⟨⟨c1, c2⟩, c3⟩ := hc;have hmn : m = none := by cases m <;> simp at c1; rfl
     subst hmn;have hmx' : mx = none := by rcases optArg_of hev hmx with ⟨rfl, _⟩ | ⟨_, _, _, _, h, _⟩; rfl; cases h
     subst hmx';refine ⟨_, cv_str_mk e (fun b hb => hs b (List.mem_of_mem_take (List.mem_of_mem_drop hb))), ?_⟩
     have hbd := sliceBounds_run (P := P) w hev hl hhi hmx false (bytesOf s).size (bytesOf s).size (by simp) (by simp only [bytesOf_size]; exact nble_of c3) (by simp only [bytesOf_size]; exact nble_of c2) (by simp)
     simp only [Option.map_none, bytesOf_size] at hbd;simp [Instr.sliceAt, Instr.slice, run_underlying hu, hbd, bytesOf_extract, bytesOf_size]
   ·rename_i el htk;simp only [cv, Option.some.injEq] at ha; subst ha;simp only [brec] at h;have hu := tk_slice hk htk;cases hc : (Nat.beq (l.getD 0) 0 && Nat.beq (hh.getD 0) 0 && Nat.beq (m.getD 0) 0 && (X.tys.get el).isSome) with
    | false => rw [hc] at h; cases h
    | true =>
     rw [hc] at h; simp only [cond_true, Option.some.injEq] at h; subst h;simp only [Bool.and_eq_true] at hc;obtain ⟨⟨⟨c1, c2⟩, c3⟩, c4⟩ := hc;have c1 := nbeq_of c1; have c2 := nbeq_of c2; have c3 := nbeq_of c3;obtain ⟨ei, hel⟩ := Option.isSome_iff_exists.1 c4;have hbd := sliceBounds_run (P := P) w hev hl hhi hmx true 0 0 (by omega) (by omega) (by omega) hmh
     rw [c1, c2, c3] at hbd;refine ⟨_, rfl, ?_⟩;simp [Instr.sliceAt, Instr.slice, run_underlying hu, hbd, run_sizeOf' w (ok.tys el ei hel)]
   ·rename_i el b off len cap htk;have hu := tk_slice hk htk;obtain ⟨x, hx, rfl⟩ := cv_sl ha;cases hel : X.tys.get el with
    | none => rw [hel] at h; simp [slSl] at h
    | some ei =>
     rw [hel] at h;have hsz := run_sizeOf' w (ok.tys el ei hel);cases cap with
     | fix c =>
      simp only [slSl] at h;obtain ⟨g1, g2, g3, rfl⟩ := slFix_of h;have hbd := sliceBounds_run (P := P) w hev hl hhi hmx true len c g3 g2 g1 hmh;refine ⟨.slice (some ⟨x.1, if m.getD c = l.getD 0 then off else off + l.getD 0 * ei.size, none⟩) (hh.getD len - l.getD 0) (m.getD c - l.getD 0), by simp only [cv, hx, Cap.val], ?_⟩
      simp only [Instr.sliceAt, Sem.run_bind, run_underlying hu, Result.andThen_ok, Instr.slice, Cap.val, hbd, hsz, Sem.run_pure, Option.map_some, add_none]
      congr 2
      split <;> rfl
     | opn k =>
      simp only [slSl] at h;cases hob : H.objs.get b with
      | none => rw [hob] at h; cases m <;> simp [slOpn] at h
      | some ob =>
       rw [hob] at h;unfold slOpn at h
       split at h
       ·rename_i mm el' ro lo' hi' es' cells hob';simp only [Option.some.injEq] at hob'; subst hob';simp only [brec] at h;cases hc : (Nat.ble (l.getD 0) (hh.getD len) && Nat.ble (hh.getD len) mm && Nat.ble (k + mm) lo') with
        | false => rw [hc] at h; cases h
        | true =>
         rw [hc] at h; simp only [cond_true, Option.some.injEq] at h;simp only [Bool.and_eq_true] at hc;have g1 := nble_of hc.1.1; have g2 := nble_of hc.1.2; have g3 := nble_of hc.2;obtain ⟨x', hx', c, fz, _, _, ⟨_, hlo, _⟩, _⟩ := hH.live b _ hob;rw [hx] at hx'; cases hx';subst h;have hbd := sliceBounds_run (P := P) w hev hl hhi hmx true len (x.2 - k) (by simp; omega) (by simpa using g2) g1 hmh
         simp only [Option.getD_some] at hbd;refine ⟨.slice (some ⟨x.1, if mm = l.getD 0 then off else off + l.getD 0 * ei.size, none⟩) (hh.getD len - l.getD 0) (mm - l.getD 0), ?_, ?_⟩
         ·simp only [cv, hx, Cap.val]
          congr 4
          by_cases e1 : mm = l.getD 0
          ·rw [nbeq_t e1, if_pos e1]; rfl
          ·rw [nbeq_f e1, if_neg e1]; rfl
         ·simp only [Instr.sliceAt, Sem.run_bind, run_underlying hu, Result.andThen_ok, Instr.slice, Cap.val, hbd, hsz, Sem.run_pure, Option.map_some, add_none]
          congr 2
          split <;> rfl
       ·rename_i el' ro lo' hi' es' cells hob';simp only [Option.some.injEq] at hob'; subst hob';simp only [brec] at h;cases hce : (slEnd hi' (k + l.getD 0) && Nat.beq (hh.getD len) (l.getD 0) && Nat.ble (k + l.getD 0) lo') with
        | true =>
         rw [hce] at h; simp only [cond_true, Option.some.injEq] at h;simp only [Bool.and_eq_true] at hce;have g1 := nbeq_of hce.1.2; have g2 := nble_of hce.2;obtain ⟨x', hx', c, fz, _, _, ⟨_, hlo, hhi2⟩, _⟩ := hH.live b _ hob;rw [hx] at hx'; cases hx';subst h;have hk2 : x.2 = k + l.getD 0 := by
          have h1 := hce.1.1;unfold slEnd at h1
          split at h1
          ·have := nbeq_of h1;have := hhi2 _ rfl;omega
          ·cases h1
         have hbd := sliceBounds_run (P := P) w hev hl hhi hmx true len (x.2 - k) (by simp) (by simp; omega) (by omega) hmh
         simp only [Option.getD_none] at hbd;refine ⟨.slice (some ⟨x.1, off, none⟩) 0 0, by simp only [cv, hx, Cap.val], ?_⟩
         simp only [Instr.sliceAt, Sem.run_bind, run_underlying hu, Result.andThen_ok, Instr.slice, Cap.val, hbd, hsz, Sem.run_pure, Option.map_some, add_none];rw [if_pos (by omega)]
         congr 2 <;> omega
        | false =>
        rw [hce] at h; simp only [cond_false, slOpn0, brec] at h;cases hc : (Nat.ble (l.getD 0) (hh.getD len) && Nat.ble (k + hh.getD len) lo' && (Nat.blt (k + l.getD 0) lo' || Nat.beq (l.getD 0) 0)) with
        | false => rw [hc] at h; cases h
        | true =>
         rw [hc] at h; simp only [cond_true, Option.some.injEq] at h;simp only [Bool.and_eq_true, Bool.or_eq_true] at hc;have g1 := nble_of hc.1.1; have g2 := nble_of hc.1.2;obtain ⟨x', hx', c, fz, _, _, ⟨_, hlo, _⟩, _⟩ := hH.live b _ hob;rw [hx] at hx'; cases hx';subst h;have hbd := sliceBounds_run (P := P) w hev hl hhi hmx true len (x.2 - k) (by simp) (by simp; omega) g1 hmh
         simp only [Option.getD_none] at hbd;refine ⟨.slice (some ⟨x.1, off + l.getD 0 * ei.size, none⟩) (hh.getD len - l.getD 0) (x.2 - (k + l.getD 0)), by simp only [cv, hx, Cap.val], ?_⟩
         simp only [Instr.sliceAt, Sem.run_bind, run_underlying hu, Result.andThen_ok, Instr.slice, Cap.val, hbd, hsz, Sem.run_pure, Option.map_some, add_none]
         congr 2
         ·by_cases e1 : x.2 - k = l.getD 0
          ·rw [if_pos e1];rcases hc.2 with h1 | h1
           ·have := nblt_of h1; omega
           ·rw [nbeq_of h1]; simp
          ·rw [if_neg e1]
         ·omega
       ·cases h
   ·rename_i n el b off htk;have hu := tk_arr hk htk;obtain ⟨x, hx, rfl⟩ := cv_ptr ha;cases hel : X.tys.get el with
    | none => rw [hel] at h; simp [slArr] at h
    | some ei =>
     rw [hel] at h;have hsz := run_sizeOf' w (ok.tys el ei hel);simp only [slArr] at h;obtain ⟨g1, g2, g3, rfl⟩ := slFix_of h;have hbd := sliceBounds_run (P := P) w hev hl hhi hmx false n n g3 g2 g1 hmh;refine ⟨.slice (some ⟨x.1, if m.getD n = l.getD 0 then off else off + l.getD 0 * ei.size, none⟩) (hh.getD n - l.getD 0) (m.getD n - l.getD 0), by simp only [cv, hx, Cap.val], ?_⟩
     simp only [Instr.sliceAt, Sem.run_bind, run_underlying hu, Result.andThen_ok, Instr.sureAddr, hbd, hsz, Sem.run_pure, add_none]
     congr 3
     split <;> rfl
   ·cases h
 ·cases h
theorem evals_one {ev : Operand → Option AV} {ρ : Operand → Value} (hev : EvOk e ev ρ) {args : Array Operand} {v : AV} (h : evals ev args.toList = some [v]) : ∃ y, cv e v = some y ∧ args.map ρ = #[y] := by
 have := evals_cvs hev h;obtain ⟨y, z, hy, hz, he⟩ := cvs_cons this;simp only [cvs, Option.some.injEq] at hz; subst hz;refine ⟨y, hy, ?_⟩;apply Array.ext';simpa using he
include ok hH in
theorem qLen_run {ev : Operand → Option AV} {ρ : Operand → Value} (hev : EvOk e ev ρ) {args : Array Operand} {ts : Array TypeId} {v : AV} (h : qLen X H (ty0 X ts 0) (evals ev args.toList) = some v) (ty : TypeId) :
 ∃ y, cv e v = some y ∧ (Builtin.len_ ts ty (args.map ρ)).run P w = .ok y w := by
 unfold qLen at h
 split at h
 ·rename_i ti a h0 ha;obtain ⟨y, hy, hargs⟩ := evals_one hev ha;unfold ty0 at h0;cases ht0 : ts[0]? with
  | none => rw [ht0] at h0; cases h0
  | some t =>
   rw [ht0] at h0;simp only at h0;have hk := ok.tys t ti h0;rw [hargs];unfold qLen2 at h
   split at h
   ·rename_i kt et htk;simp only [cv, Option.some.injEq] at hy; subst hy;simp only [Option.some.injEq] at h; subst h;exact ⟨_, rfl, by simp [Builtin.len_, ht0, run_underlying (tk_map hk htk), goInt]⟩
   ·rename_i kt et b htk;obtain ⟨x, hx, rfl⟩ := cv_mpr hy;unfold lenMap at h
    split at h
    ·rename_i es c hb;simp only [Option.some.injEq] at h; subst h;obtain ⟨x', hx', xs, g1, g2⟩ := hH.live _ _ hb;rw [hx] at hx'; cases hx';have hl := g2.length;simp at hl;exact ⟨_, rfl, by simp only [Builtin.len_, ht0, List.getElem?_toArray, List.getElem?_cons_zero, Sem.run_bind, run_underlying (tk_map hk htk), Result.andThen_ok, getObj_at (P := P) w g1, Sem.run_pure, goInt, hl]; rfl⟩
    ·cases h
   ·rename_i s htk;obtain ⟨_, rfl⟩ := cv_str hy;simp only [Option.some.injEq] at h; subst h;exact ⟨_, rfl, by simp [Builtin.len_, ht0, run_underlying (tk_str hk htk), goInt, bytesOf_size]⟩
   ·rename_i i lo hi htk;obtain ⟨s, hs, rfl, h1⟩ := val_str (show (RC.strLen lo hi).val (e.sy i) = some _ from hy)
    simp only [Option.some.injEq] at h; subst h;exact ⟨_, show (RC.lenOf lo hi).val (e.sy i) = _ by rw [hs]; simp only [RC.val, if_pos h1]; rfl, by simp [Builtin.len_, ht0, run_underlying (tk_str hk htk), goInt]⟩
   ·rename_i n el htk;simp only [Option.some.injEq] at h; subst h;exact ⟨_, rfl, by simp [Builtin.len_, ht0, run_underlying (tk_arr hk htk), goInt]⟩
   ·rename_i el htk;unfold lenArr at h
    split at h
    ·rename_i n el' size bytes zero cmp heq;simp only [Option.some.injEq] at h; subst h;exact ⟨_, rfl, by simp [Builtin.len_, ht0, run_underlying (tk_ptr hk htk), run_underlying (tk_arr (ok.tys el _ heq) rfl), goInt]⟩
    ·cases h
   ·rename_i el htk;simp only [cv, Option.some.injEq] at hy; subst hy;simp only [Option.some.injEq] at h; subst h;exact ⟨_, rfl, by simp [Builtin.len_, ht0, run_underlying (tk_slice hk htk), goInt]⟩
   ·rename_i el b off n c htk;obtain ⟨x, hx, rfl⟩ := cv_sl hy;simp only [Option.some.injEq] at h; subst h;exact ⟨_, rfl, by simp [Builtin.len_, ht0, run_underlying (tk_slice hk htk), goInt]⟩
   ·rename_i el i lo hi htk;obtain ⟨a, n, c, hs, rfl, h1⟩ := val_sl (show (RC.slLen lo hi).val (e.sy i) = some _ from hy)
    simp only [Option.some.injEq] at h; subst h;exact ⟨_, show (RC.lenOf lo hi).val (e.sy i) = _ by rw [hs]; simp only [RC.val, if_pos h1]; rfl, by simp [Builtin.len_, ht0, run_underlying (tk_slice hk htk), goInt]⟩
   ·rename_i el b i lo hi htk;obtain ⟨x, n, c, _, hs, rfl, h1⟩ := cv_asl hy;simp only [Option.some.injEq] at h; subst h;exact ⟨_, show (RC.lenOf lo hi).val (e.sy i) = _ by rw [hs]; simp only [RC.val, if_pos h1]; rfl, by simp [Builtin.len_, ht0, run_underlying (tk_slice hk htk), goInt]⟩
   ·cases h
 ·cases h
theorem sliceData_eq (ts : Array TypeId) (ty : TypeId) (a : Addr) (n c : Nat) (h : c ≠ 0) : (Builtin.unsafeSliceData_ ts ty #[.slice (some a) n c]).run P w = .ok (.pointer (some a)) w := by
 have : Builtin.unsafeSliceData_ ts ty #[.slice (some a) n c] = (if c ≠ 0 then pure (.pointer (some a)) else (do if (← viewAt a.block).isSome then pure (.pointer (some a)) else pure (.pointer (some ⟨← newObj (.view a (← elemOf ty)), 0, none⟩)))) := rfl
 rw [this, if_pos h]; rfl
include hH in
theorem qSlData_run {ev : Operand → Option AV} {ρ : Operand → Value} (hev : EvOk e ev ρ) {args : Array Operand} {ts : Array TypeId} {v : AV} (h : qSlData H (evals ev args.toList) = some v) (ty : TypeId) :
 ∃ y, cv e v = some y ∧ (Builtin.unsafeSliceData_ ts ty (args.map ρ)).run P w = .ok y w := by
 unfold qSlData at h
 split at h
 ·rename_i ha;obtain ⟨y, hy, hargs⟩ := evals_one hev ha;simp only [cv, Option.some.injEq] at hy; subst hy;simp only [Option.some.injEq] at h; subst h;rw [hargs];exact ⟨_, rfl, rfl⟩
 ·rename_i b off n c ha;obtain ⟨y, hy, hargs⟩ := evals_one hev ha;obtain ⟨x, hx, rfl⟩ := cv_sl hy;simp only [brec] at h
  by_cases h0 : c = 0
  ·rw [nbeq_t h0] at h; cases h
  ·rw [nbeq_f h0] at h; simp only [cond_false, Option.some.injEq] at h; subst h;rw [hargs];exact ⟨.pointer (some ⟨x.1, off, none⟩), by simp only [cv, hx], sliceData_eq w ts ty _ _ _ h0⟩
 ·rename_i b off n k ha;obtain ⟨y, hy, hargs⟩ := evals_one hev ha;obtain ⟨x, hx, rfl⟩ := cv_sl hy;unfold slData at h
  split at h
  ·rename_i el ro lo hi es cells hb;simp only [brec] at h;cases hc : Nat.blt k lo with
   | false => rw [hc] at h; cases h
   | true =>
    rw [hc] at h; simp only [cond_true, Option.some.injEq] at h; subst h;have hlt := nblt_of hc;obtain ⟨x', hx', c, fz, g1, g2, g3, g4⟩ := hH.live _ _ hb;rw [hx] at hx'; cases hx';have h0 : ¬ x.2 - k = 0 := by have := g3.2.1; omega
    rw [hargs];exact ⟨.pointer (some ⟨x.1, off, none⟩), by simp only [cv, hx], sliceData_eq w ts ty _ _ _ h0⟩
  ·cases h
 ·cases h
include ok in
theorem qCap_run {ev : Operand → Option AV} {ρ : Operand → Value} (hev : EvOk e ev ρ) {args : Array Operand} {ts : Array TypeId} {v : AV} (h : qCap (ty0 X ts 0) (evals ev args.toList) = some v) (ty : TypeId) :
 ∃ y, cv e v = some y ∧ (Builtin.cap_ ts ty (args.map ρ)).run P w = .ok y w := by
 unfold qCap at h
 split at h
 ·rename_i ti a h0 ha;obtain ⟨y, hy, hargs⟩ := evals_one hev ha;unfold ty0 at h0;cases ht0 : ts[0]? with
  | none => rw [ht0] at h0; cases h0
  | some t =>
   rw [ht0] at h0;simp only at h0;have hk := ok.tys t ti h0;rw [hargs];unfold qCap2 at h
   split at h
   ·rename_i el htk;simp only [cv, Option.some.injEq] at hy; subst hy;simp only [Option.some.injEq] at h; subst h;exact ⟨_, rfl, by simp [Builtin.cap_, ht0, run_underlying (tk_slice hk htk), goInt]⟩
   ·rename_i el b off n c htk;obtain ⟨x, hx, rfl⟩ := cv_sl hy;simp only [Option.some.injEq] at h; subst h;exact ⟨_, rfl, by simp [Builtin.cap_, ht0, run_underlying (tk_slice hk htk), goInt, Cap.val]⟩
   ·rename_i el b off n k htk;obtain ⟨x, hx, rfl⟩ := cv_sl hy;simp only [Option.some.injEq] at h; subst h;exact ⟨.int .i64 ((x.2 - k : Nat) : Int), by simp only [cv, hx], by simp [Builtin.cap_, ht0, run_underlying (tk_slice hk htk), goInt, Cap.val]⟩
   ·cases h
 ·cases h
theorem minA_run : ∀ (l : List AV) (us : List Value) (a v : AV) (y : Value), cvs e l = some us → cv e a = some y → minA a l = some v → ∃ z, cv e v = some z ∧ (us.foldlM Builtin.min2 y).run P w = .ok z w := by
 intro l
 induction l with
 | nil => intro us a v y hl ha h; simp only [cvs, Option.some.injEq] at hl; subst hl; simp only [minA, Option.some.injEq] at h; subst h; exact ⟨y, ha, by simp⟩
 | cons b l ih =>
  intro us a v y hl ha h;obtain ⟨p, q, hp, hq, rfl⟩ := cvs_cons hl;unfold minA at h
  split at h
  ·rename_i heq; cases heq
  ·rename_i k x k' y' r heq;injection heq with h1 h2;subst h1; subst h2;cases cv_int ha; cases cv_int hp;simp only [brec, iLt_eq] at h;cases hk : kEq k k' with
   | false => rw [hk] at h; cases h
   | true =>
    rw [hk] at h; simp only [cond_true] at h;obtain ⟨z, hz, hr⟩ := ih q _ v _ hq rfl h;refine ⟨z, hz, ?_⟩;simp only [List.foldlM_cons, Sem.run_bind, Builtin.min2, Sem.run_pure, Result.andThen_ok];rw [← hr]
    congr 3
    by_cases hlt : y' < x
    ·rw [if_pos hlt, decide_eq_true hlt]; rfl
    ·rw [if_neg hlt, decide_eq_false hlt]; rfl
  ·cases h
theorem maxA_run : ∀ (l : List AV) (us : List Value) (a v : AV) (y : Value), cvs e l = some us → cv e a = some y → maxA a l = some v → ∃ z, cv e v = some z ∧ (us.foldlM Builtin.max2 y).run P w = .ok z w := by
 intro l
 induction l with
 | nil => intro us a v y hl ha h; simp only [cvs, Option.some.injEq] at hl; subst hl; simp only [maxA, Option.some.injEq] at h; subst h; exact ⟨y, ha, by simp⟩
 | cons b l ih =>
  intro us a v y hl ha h;obtain ⟨p, q, hp, hq, rfl⟩ := cvs_cons hl;unfold maxA at h
  split at h
  ·rename_i heq; cases heq
  ·rename_i k x k' y' r heq;injection heq with h1 h2;subst h1; subst h2;cases cv_int ha; cases cv_int hp;simp only [brec, iLt_eq] at h;cases hk : kEq k k' with
   | false => rw [hk] at h; cases h
   | true =>
    rw [hk] at h; simp only [cond_true] at h;obtain ⟨z, hz, hr⟩ := ih q _ v _ hq rfl h;refine ⟨z, hz, ?_⟩;simp only [List.foldlM_cons, Sem.run_bind, Builtin.max2, Sem.run_pure, Result.andThen_ok];rw [← hr]
    congr 3
    by_cases hlt : x < y'
    ·rw [if_pos (show y' > x from hlt), decide_eq_true hlt]; rfl
    ·rw [if_neg (show ¬ y' > x from hlt), decide_eq_false hlt]; rfl
  ·cases h
theorem val_run {s : Sem Value} {y : Value} (h : s.run P w = .ok y w) : (do pure (Next.value (← s)) : Sem Next).run P w = .ok (.value y) w := by
 rw [Sem.run_bind, h]; rfl
theorem oraLook_mem {op : BinOp} {x y v : AV} : ∀ {l : List OraE}, oraLook op x y l = some v → ∃ o ∈ l, o.r = v ∧ opN o.op = opN op ∧ 0 < opN op ∧ numSame o.x x = true ∧ numSame o.y y = true ∧ o.cells = none := by
 intro l
 induction l with
 | nil => intro h; cases h
 | cons o r ih =>
  intro h;simp only [oraLook, brec] at h;cases hb : (o.cells.isNone && Nat.beq (opN o.op) (opN op) && Nat.blt 0 (opN op) && numSame o.x x && numSame o.y y) with
  | false =>
   rw [hb] at h;obtain ⟨p, hp, hh⟩ := ih h;exact ⟨p, List.mem_cons_of_mem _ hp, hh⟩
  | true =>
   rw [hb] at h;simp only [cond_true, Option.some.injEq] at h;simp only [Bool.and_eq_true] at hb;exact ⟨o, List.mem_cons_self .., h, nbeq_of hb.1.1.1.2, nblt_of hb.1.1.2, hb.1.2, hb.2, Option.isNone_iff_eq_none.1 hb.1.1.1.1⟩
theorem opN_inj {a b : BinOp} (h : opN a = opN b) (h0 : 0 < opN b) : a = b := by
 cases a <;> cases b <;> first | rfl | (simp [opN] at h; done) | (simp [opN] at h0; done) | (simp [opN] at h h0)
theorem qOra_run {P : Program} {X : XP} (w : World) {op : BinOp} {t : TypeId} {vx v : AV} {my : Option AV} {e : Env} (hO : OraOk X.ora e.sy) (h : qOra X op (some vx) my = some v) {zx zy : Value}
 (hx : cv e vx = some zx) (hy : ∀ a, my = some a → cv e a = some zy) {ox oy : Operand} :
 ∃ z, cv e v = some z ∧ (do eqGuard op t ox oy zx zy; binOp op t zx zy : Sem Value).run P w = .ok z w := by
 have key : ∀ (y : AV), my = some y → oraLook op vx y X.ora = some v → ∃ z, cv e v = some z ∧ (do eqGuard op t ox oy zx zy; binOp op t zx zy : Sem Value).run P w = .ok z w := by
  intro y hmy hl;obtain ⟨o, ho, hr, h1, h2, h3, h4, h5⟩ := oraLook_mem hl;obtain rfl := opN_inj h1 h2;obtain ⟨k, a, k', b, u, rfl, rfl, hu, hc⟩ := (hO o ho e rfl).1 h5 vx y h3 h4 zx zy hx (hy y hmy);obtain ⟨z, hz, hrun⟩ := binInt_run (P := P) w hu t e;refine ⟨z, by rw [← hr, hc]; exact hz, ?_⟩
  rw [Sem.run_bind, eqGuard_plain w (by simp) (by simp), Result.andThen_ok, hrun]
 unfold qOra at h
 split at h
 ·rename_i heq; cases heq; exact key _ rfl h
 ·rename_i heq; cases heq; exact key _ rfl h
 ·cases h
include ok hH in
theorem qop_run (hO : OraOk X.ora e.sy) {ev : Operand → Option AV} {ρ : Operand → Value} (hev : EvOk e ev ρ) (o : Oper) {v : AV} (h : qop X ev H o.op = some v) :
 ∃ y, cv e v = some y ∧ (execOp ρ o).run P w = .ok (.value y) w := by
 unfold qop at h
 split at h
 ·rename_i x ho; exact ⟨_, hev _ _ h, by simp only [execOp, ho]; rfl⟩
 ·rename_i x ho; exact ⟨_, hev _ _ h, by simp only [execOp, ho]; rfl⟩
 ·rename_i c a b ho;cases hc : ev c with
  | none => rw [hc] at h; simp [qPick] at h
  | some vc =>
   rw [hc] at h;have hcc := hev _ _ hc;cases vc with
   | bool t =>
    have hρ := cv_bool hcc;cases t with
    | true => simp only [qPick] at h; exact ⟨_, hev _ _ h, by simp only [execOp, ho, hρ]; rfl⟩
    | false => simp only [qPick] at h; exact ⟨_, hev _ _ h, by simp only [execOp, ho, hρ]; rfl⟩
   | _ => simp [qPick] at h
 ·rename_i t a ho;cases ha : ev a with
  | none => rw [ha] at h; simp [qLoad] at h
  | some va =>
   rw [ha] at h;obtain ⟨y, hy, hr⟩ := qLoad_run ok w hH (hev _ _ ha) h;exact ⟨y, hy, by simp only [execOp, ho]; exact val_run w hr⟩
 ·rename_i x ho;cases hx : ev x with
  | none => rw [hx] at h; simp [qNilCheck] at h
  | some vx =>
   rw [hx] at h;have hc := hev _ _ hx;cases vx with
   | ptr b off =>
    simp only [qNilCheck, Option.some.injEq] at h; subst h;obtain ⟨y, hy, hρ⟩ := cv_ptr hc;exact ⟨_, hc, by simp only [execOp, ho, hρ]; rfl⟩
   | fn f a b =>
    simp only [qNilCheck, Option.some.injEq] at h; subst h;obtain ⟨y, z, _, _, hρ⟩ := cv_fn hc;exact ⟨_, hc, by simp only [execOp, ho, hρ]; rfl⟩
   | yld l =>
    simp only [qNilCheck, Option.some.injEq] at h; subst h;obtain ⟨y, _, hρ⟩ := cv_yld hc;exact ⟨_, hc, by simp only [execOp, ho, hρ]; rfl⟩
   | eptr b k =>
    simp only [qNilCheck, Option.some.injEq] at h; subst h;obtain ⟨y, _, hρ⟩ := cv_eptr hc;exact ⟨_, hc, by simp only [execOp, ho, hρ]; rfl⟩
   | _ => simp [qNilCheck] at h
 ·rename_i op t x y yt ho;cases hx : ev x with
  | none =>
   rw [hx] at h;have : qBinNil X op t none (ev y) y = none := by
    unfold qBinNil
    split
    ·cases isIface (X.tys.get t) <;> rfl
    ·rfl
   have h2 : qBinPtr X op (X.tys.get t) none (ev y) = none := by unfold qBinPtr; split <;> simp_all
   simp [qBin, qOra, orElse, this, h2] at h
  | some vx =>
   rw [hx] at h;cases hb : qBin X op t (some vx) (ev y) with
   | none =>
    rw [hb] at h;simp only [orElse] at h;cases hp : qBinPtr X op (X.tys.get t) (some vx) (ev y) with
    | some up =>
     rw [hp] at h;simp only [Option.some.injEq] at h; subst h;cases hy : ev y with
     | none => rw [hy] at hp; unfold qBinPtr at hp; split at hp <;> simp_all
     | some vy =>
      rw [hy] at hp;obtain ⟨z, hz, hr⟩ := qBinPtr_run ok w (hev _ _ hx) (hev _ _ hy) hp x y;exact ⟨z, hz, by simp only [execOp, ho]; exact val_run w hr⟩
    | none =>
    rw [hp] at h;simp only at h;cases hq : qBinNil X op t (some vx) (ev y) y with
    | none =>
     rw [hq] at h;simp only at h;obtain ⟨z, hz, hr⟩ := qOra_run (P := P) (ox := x) (oy := y) (t := t) w hO h (hev _ _ hx) (fun a ha => hev _ _ ha)
     exact ⟨z, hz, by simp only [execOp, ho]; exact val_run w hr⟩
    | some uq =>
    rw [hq] at h;simp only [Option.some.injEq] at h; subst h;obtain ⟨z, hz, hr⟩ := qBinNil_run (ox := x) ok w hq (hev _ _ hx) (fun a ha => hev _ _ ha)
    exact ⟨z, hz, by simp only [execOp, ho]; exact val_run w hr⟩
   | some u =>
    rw [hb] at h;simp only [orElse, Option.some.injEq] at h; subst h;cases hy : ev y with
    | none => rw [hy] at hb; simp [qBin] at hb
    | some vy =>
     rw [hy] at hb;obtain ⟨z, hz, hr⟩ := binA_run ok w hb (hev _ _ hx) (hev _ _ hy) x y;exact ⟨z, hz, by simp only [execOp, ho]; exact val_run w hr⟩
 ·rename_i op t x ho;cases hx : ev x with
  | none => rw [hx] at h; simp [qUn] at h
  | some vx =>
   rw [hx] at h;have hc := hev _ _ hx;simp only [qUn] at h;unfold unA at h
   split at h
   ·simp only [Option.some.injEq] at h; subst h;have hρ := cv_bool hc;exact ⟨_, rfl, by simp only [execOp, ho, hρ]; rfl⟩
   ·simp only [Option.some.injEq] at h; subst h;have hρ := cv_int hc;refine ⟨_, rfl, ?_⟩;simp only [execOp, ho, hρ];exact val_run w (by simp only [Op.unary, Op.intArith, fwrap_eq, iSub_eq]; rfl)
   ·cases h
 ·rename_i s d x ho;cases hx : ev x with
  | none => rw [hx] at h; unfold qConvert at h; split at h <;> simp_all
  | some vx =>
   rw [hx] at h;obtain ⟨y, hy, hr⟩ := qConvert_run ok w hH (hev _ _ hx) h;exact ⟨y, hy, by simp only [execOp, ho]; exact val_run w hr⟩
 ·rename_i t x ho;cases hx : ev x with
  | none => rw [hx] at h; unfold qIface at h; split at h <;> simp_all
  | some vx =>
   rw [hx] at h;obtain ⟨y, hy, hr⟩ := qIface_run ok w (hev _ _ hx) h;exact ⟨y, hy, by simp only [execOp, ho]; exact val_run w hr⟩
 ·rename_i fn first captured ho
  unfold qMakeFunc at h
  split at h
  ·rename_i f;unfold qFunc at h
   split at h
   ·rename_i a b ha hb;simp only [Option.some.injEq] at h; subst h;have h1 := evals_cvs hev ha;have h2 := evals_cvs hev hb;refine ⟨.func (.func f) (first.map ρ) (captured.map ρ), ?_, by simp only [execOp, ho]; rfl⟩
    simp only [cv, h1, h2]
    congr 2 <;> (apply Array.ext'; simp)
   ·cases h
  ·cases h
 ·rename_i t parts ho;obtain ⟨y, hy, hr⟩ := qBuild_run ok w hev h;exact ⟨y, hy, by simp only [execOp, ho]; exact val_run w hr⟩
 ·rename_i s x f ho;cases hx : ev x with
  | none => rw [hx] at h; unfold qFieldAddr at h; split at h <;> simp_all
  | some vx =>
   rw [hx] at h;obtain ⟨y, hy, hr⟩ := qFieldAddr_run ok w (hev _ _ hx) h;exact ⟨y, hy, by simp only [execOp, ho]; exact val_run w hr⟩
 ·rename_i s x f ho;cases hx : ev x with
  | none => rw [hx] at h; unfold qField at h; split at h <;> simp_all
  | some vx =>
   rw [hx] at h;obtain ⟨y, hy, hr⟩ := qField_run ok w (hev _ _ hx) h;exact ⟨y, hy, by simp only [execOp, ho]; exact val_run w hr⟩
 ·rename_i t x ix ho;cases hx : ev x with
  | none => rw [hx] at h; unfold qIndexAddr at h; split at h <;> simp_all
  | some vx =>
   cases hi : ev ix with
   | none => rw [hi] at h; unfold qIndexAddr at h; split at h <;> simp_all
   | some vi =>
    rw [hx, hi] at h;obtain ⟨y, hy, hr⟩ := qIndexAddr_run ok w (hev _ _ hx) (hev _ _ hi) h;exact ⟨y, hy, by simp only [execOp, ho]; exact val_run w hr⟩
 ·rename_i t x ix ho;cases hx : ev x with
  | none => rw [hx] at h; unfold qIndex at h; split at h <;> simp_all
  | some vx =>
   cases hi : ev ix with
   | none => rw [hi] at h; unfold qIndex at h; split at h <;> simp_all
   | some vi =>
    rw [hx, hi] at h;obtain ⟨y, hy, hr⟩ := qIndex_run ok w (hev _ _ hx) (hev _ _ hi) h;exact ⟨y, hy, by simp only [execOp, ho]; exact val_run w hr⟩
 ·rename_i t x lo hi mx ho;cases hx : ev x with
  | none => rw [hx] at h; simp [qSlice] at h
  | some vx =>
   rw [hx] at h;simp only [qSlice] at h;obtain ⟨y, hy, hr⟩ := qSlice_run ok w hH hev (hev _ _ hx) h;exact ⟨y, hy, by simp only [execOp, ho]; exact val_run w hr⟩
 ·rename_i x i ho;cases hx : ev x with
  | none => rw [hx] at h; simp [qExtract] at h
  | some vx =>
   rw [hx] at h;obtain ⟨y, hy, hr⟩ := qExtract_run (P := P) w (hev _ _ hx) h;exact ⟨y, hy, by simp only [execOp, ho]; exact val_run w hr⟩
 ·rename_i x xt t ho;cases hx : ev x with
  | none => rw [hx] at h; cases ht : X.tys.get t <;> rw [ht] at h <;> simp [qAssert] at h
  | some vx =>
   rw [hx] at h;obtain ⟨y, hy, hr⟩ := qAssert_run ok w (hev _ _ hx) h xt;exact ⟨y, hy, by simp only [execOp, ho]; exact val_run w hr⟩
 ·rename_i x xt t ho;cases hx : ev x with
  | none => rw [hx] at h; cases ht : X.tys.get t <;> rw [ht] at h <;> simp [qAssertV] at h
  | some vx =>
   rw [hx] at h;obtain ⟨y, hy, hr⟩ := qAssertV_run ok w (hev _ _ hx) h xt;exact ⟨y, hy, by simp only [execOp, ho]; exact val_run w hr⟩
 ·rename_i it ho;cases hx : ev it with
  | none => rw [hx] at h; simp [qEntry] at h
  | some vx =>
   rw [hx] at h;obtain ⟨y, hy, hr⟩ := qEntry_run (P := P) w hH (hev _ _ hx) h;exact ⟨y, hy, by simp only [execOp, ho]; exact val_run w hr⟩
 ·rename_i t x k b ho;cases hx : ev x with
  | none => rw [hx] at h; unfold qLookup at h; split at h <;> simp_all
  | some vx =>
   cases hk : ev k with
   | none => rw [hk] at h; unfold qLookup at h; split at h <;> simp_all
   | some vk =>
    rw [hx, hk] at h;obtain ⟨y, hy, hr⟩ := qLookup_run ok w hH (hev _ _ hx) (hev _ _ hk) h;exact ⟨y, hy, by simp only [execOp, ho]; exact val_run w hr⟩
 ·rename_i c ho;obtain ⟨callee, args, ts⟩ := c;simp only at h;cases callee with
  | builtin b =>
   simp only [qCall] at h;have key : ∀ {s : Sem Value} {y : Value}, (∀ cs, builtin b ts o.type cs (args.map ρ) = do pure (Next.value (← s))) → s.run P w = .ok y w → (execOp ρ o).run P w = .ok (.value y) w := by
    intro s y hs hr;simp only [execOp, ho, resolve, Sem.run_bind, Sem.run_pure, Result.andThen_ok, invoke];rw [hs _]; exact val_run w hr
   unfold qBuiltin at h
   split at h
   ·obtain ⟨y, hy, hr⟩ := qSlData_run (P := P) w hH hev h o.type;exact ⟨y, hy, key (fun _ => rfl) hr⟩
   ·obtain ⟨y, hy, hr⟩ := qLen_run ok w hH hev h o.type;exact ⟨y, hy, key (fun _ => rfl) hr⟩
   ·obtain ⟨y, hy, hr⟩ := qCap_run ok w hev h o.type;exact ⟨y, hy, key (fun _ => rfl) hr⟩
   ·unfold qMin at h
    split at h
    ·rename_i a r ha;have hc := evals_cvs hev ha;obtain ⟨p, q, hp, hq, he⟩ := cvs_cons hc;obtain ⟨z, hz, hr⟩ := minA_run (P := P) w r q a v p hq hp h;refine ⟨z, hz, key (fun _ => rfl) ?_⟩
     simp only [Builtin.min_];have : (args.map ρ).toList = p :: q := by simpa using he
     rw [this]; exact hr
    ·cases h
   ·unfold qMax at h
    split at h
    ·rename_i a r ha;have hc := evals_cvs hev ha;obtain ⟨p, q, hp, hq, he⟩ := cvs_cons hc;obtain ⟨z, hz, hr⟩ := maxA_run (P := P) w r q a v p hq hp h;refine ⟨z, hz, key (fun _ => rfl) ?_⟩
     simp only [Builtin.max_];have : (args.map ρ).toList = p :: q := by simpa using he
     rw [this]; exact hr
    ·cases h
   ·cases h
  | _ => simp [qCall] at h
 ·cases h
end
end
end Go.X
