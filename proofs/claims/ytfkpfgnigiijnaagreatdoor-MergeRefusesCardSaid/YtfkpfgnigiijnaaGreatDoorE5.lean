/- The operations that leave memory alone: the rest, and all of them together. -/
import Derived.Test.YtfkpfgnigiijnaaGreatDoorE4
set_option linter.unusedVariables false
namespace Go.X
noncomputable section
set_option linter.unusedSectionVars false
section
variable {P : Program} {X : XP} (ok : XPok P X) (w : World) {e : Env} {L : Zad} {H : AHeap} {nx : Nat} {NG : GP} (hH : HR NG e L H.objs.get nx w)
include ok in
theorem Zgg {s f : Nat} {a v : AV} {va : Value} (ha : cv e a = some va) (h : ZbL f (X.tys.get s) (some a) = some v) : ∃ y, cv e v = some y ∧ (Instr.fieldAt s va f).run P w = .ok y w := by
 cases ht : X.tys.get s with
 | none => rw [ht] at h; simp [ZbL] at h
 | some ti =>
  rw [ht] at h;have hk := ok.tys s ti ht;cases a with
  | ptr b off =>
   simp only [ZbL] at h;unfold Zfl at h
   split at h
   ·rename_i gs htk;cases hg : gs[f]? with
    | none => rw [hg] at h; simp [Zdm] at h
    | some g =>
     rw [hg] at h;simp only [Zdm, Zag] at h;cases hb : Nat.blt 0 g.size with
     | false => rw [hb] at h; cases h
     | true =>
      rw [hb] at h; simp only [cond_true, Option.some.injEq] at h; subst h;have hpos := Zaj hb;obtain ⟨fs, hu, hm⟩ := ZfB hk htk;obtain ⟨fl, hfl, h1, h2, h3⟩ := Zr2 w hk hu hm hg;obtain ⟨x, hx, rfl⟩ := Zba ha;refine ⟨.pointer (some ⟨x.1, off + g.off, none⟩), by simp only [cv, hx], ?_⟩
      simp only [Instr.fieldAt, Sem.run_bind, run_underlying hu, Result.andThen_ok, hfl, Instr.sureAddr, Sem.run_pure, fieldPlace, h3, if_neg (show ¬ g.size = 0 by omega), ZaE, h1]
   ·cases h
  | _ => simp [ZbL] at h
include ok in
theorem Zmk {s f : Nat} {a v : AV} {va : Value} (ha : cv e a = some va) (h : Zgk X f (X.tys.get s) (some a) = some v) : ∃ y, cv e v = some y ∧ (Instr.field s va f).run P w = .ok y w := by
 cases ht : X.tys.get s with
 | none => rw [ht] at h; simp [Zgk] at h
 | some ti =>
  rw [ht] at h;have hk := ok.tys s ti ht;cases a with
  | agg vs =>
   simp only [Zgk] at h;unfold Zny at h
   split at h
   ·rename_i gs htk;cases hg : gs[f]? with
    | none => rw [hg] at h; simp [Zjt] at h
    | some g =>
     rw [hg] at h;simp only [Zjt] at h;obtain ⟨fs, hu, hm⟩ := ZfB hk htk;obtain ⟨fl, hfl, h1, h2, h3⟩ := Zr2 w hk hu hm hg;obtain ⟨us, hus, rfl⟩ := Zfy ha;obtain ⟨y, hy, hr⟩ := Zlh ok w hus h;refine ⟨y, hy, ?_⟩;simp only [Instr.field, Sem.run_bind, run_underlying hu, Result.andThen_ok, hfl, asAgg, Sem.run_pure, h1, h2, hr]
   ·cases h
  | _ => simp [Zgk] at h
theorem Ziw {b off n i : Nat} {o : Option TyI} {v : AV} (h : Zh3 b off n i o = some v) : ∃ ei, o = some ei ∧ i < n ∧ v = .ptr b (off + i * ei.size) := by
 cases o with
 | none => simp [Zh3] at h
 | some ei =>
  simp only [Zh3, Zag] at h;cases hb : Nat.blt i n with
  | false => rw [hb] at h; cases h
  | true => rw [hb] at h; simp only [cond_true, Option.some.injEq] at h; exact ⟨ei, rfl, Zaj hb, h.symm⟩
theorem Zqj {b lo i : Nat} {o : Option TyI} {v : AV} (h : ZpX b lo i o = some v) : ∃ ei, o = some ei ∧ i < lo ∧ ei.size = 1 ∧ v = .eptr b i := by
 cases o with
 | none => simp [ZpX] at h
 | some ei =>
  simp only [ZpX, Zag] at h;cases hb : (Nat.blt i lo && Nat.beq ei.size 1) with
  | false => rw [hb] at h; cases h
  | true =>
   rw [hb] at h; simp only [cond_true, Option.some.injEq] at h;simp only [Bool.and_eq_true] at hb;exact ⟨ei, rfl, Zaj hb.1, Zaa hb.2, h.symm⟩
include ok in
theorem Zgh {t : Nat} {a ix v : AV} {va vi : Value} (ha : cv e a = some va) (hi : cv e ix = some vi) (h : Zcb X (X.tys.get t) (some a) (some ix) = some v) :
 ∃ y, cv e v = some y ∧ (Instr.indexAt t va vi).run P w = .ok y w := by
 unfold Zcb at h
 split at h
 ·rename_i ti v' k i ht ha' hix;simp only [Option.some.injEq] at ha' hix;subst ha' hix;have hk := ok.tys t ti ht;cases ZaL hi;unfold Zfm at h
  split at h
  ·rename_i n el b off htk;obtain ⟨ei, hel, hlt, rfl⟩ := Ziw h;obtain ⟨x, hx, rfl⟩ := Zba ha;refine ⟨.pointer (some ⟨x.1, off + i * ei.size, none⟩), by simp only [cv, hx], ?_⟩
   have hu := Zgw hk htk;have hcond : (0 : Int) ≤ Int.ofNat i ∧ Int.ofNat i < (n : Int) := by constructor <;> simp <;> omega
   simp [Instr.indexAt, asIntOf, run_underlying hu, Instr.sureAddr, Zae w (ok.tys el ei hel), ZaE];omega
  ·rename_i el b off len c htk;obtain ⟨ei, hel, hlt, rfl⟩ := Ziw h;obtain ⟨x, hx, rfl⟩ := Zbr ha;refine ⟨.pointer (some ⟨x.1, off + i * ei.size, none⟩), by simp only [cv, hx], ?_⟩
   have hu := Zas hk htk;have hcond : (0 : Int) ≤ Int.ofNat i ∧ Int.ofNat i < (len : Int) := by constructor <;> simp <;> omega
   simp [Instr.indexAt, asIntOf, run_underlying hu, Zae w (ok.tys el ei hel), ZaE];omega
  ·rename_i el b i0 lo hi0 htk;obtain ⟨ei, hel, hlt, h1, rfl⟩ := Zqj h;obtain ⟨x, n, c, hx, _, rfl, hlo, _⟩ := Zij ha;refine ⟨.pointer (some ⟨x.1, x.2 + i, none⟩), by simp only [cv, hx], ?_⟩
   have hu := Zas hk htk;have hcond : (0 : Int) ≤ Int.ofNat i ∧ Int.ofNat i < (n : Int) := by constructor <;> simp <;> omega
   simp [Instr.indexAt, asIntOf, run_underlying hu, Zae w (ok.tys el ei hel), ZaE, h1];omega
  ·cases h
 ·cases h
include ok in
theorem Zml {t : Nat} {a ix v : AV} {va vi : Value} (ha : cv e a = some va) (hi : cv e ix = some vi) (h : Zh4 X (X.tys.get t) (some a) (some ix) = some v) :
 ∃ y, cv e v = some y ∧ (Instr.index t va vi).run P w = .ok y w := by
 unfold Zh4 at h
 split at h
 ·rename_i ti v' k i ht ha' hix;simp only [Option.some.injEq] at ha' hix;subst ha' hix;have hk := ok.tys t ti ht;cases ZaL hi;unfold Znz at h
  split at h
  ·rename_i s htk;obtain ⟨hs, rfl⟩ := Za9 ha;have hu := ZcQ hk htk;cases hb : s[i]? with
   | none => rw [hb] at h; cases h
   | some b =>
    rw [hb] at h; simp only [Option.some.injEq] at h; subst h;refine ⟨_, rfl, ?_⟩;have hb256 := hs b (List.mem_of_getElem? hb);have hlt : i < s.length := (List.getElem?_eq_some_iff.1 hb).1;have hget : (bytesOf s)[i]? = some (UInt8.ofNat b) := by
     have hsz : i < (bytesOf s).size := by rw [Zai]; exact hlt
     rw [getElem?_pos (bytesOf s) i hsz]
     congr 1
     show (bytesOf s).data[i] = _;simp only [bytesOf, List.getElem_toArray, List.getElem_map]
     congr 1
     exact (List.getElem?_eq_some_iff.1 hb).2
    simp [Instr.index, asIntOf, run_underlying hu, hget];omega
  ·rename_i n el vs htk;obtain ⟨us, hus, rfl⟩ := Zfy ha;have hu := Zgw hk htk;cases hel : X.tys.get el with
   | none => rw [hel] at h; simp [Zss] at h
   | some ei =>
    rw [hel] at h;simp only [Zss, Zag] at h;cases hb : Nat.blt i n with
    | false => rw [hb] at h; cases h
    | true =>
     rw [hb] at h; simp only [cond_true] at h;have hlt := Zaj hb;obtain ⟨y, hy, hr⟩ := Zlh ok w (t := el) (off := i * ei.size) hus (by rw [hel]; exact h)
     refine ⟨y, hy, ?_⟩;have hcond : (0 : Int) ≤ Int.ofNat i ∧ Int.ofNat i < (n : Int) := by constructor <;> simp <;> omega
     simp only [Instr.index, asIntOf, Sem.run_bind, Sem.run_pure, Result.andThen_ok, run_underlying hu, if_pos hcond, Zae w (ok.tys el ei hel)];exact hr
  ·cases h
 ·cases h
include ok in
theorem ZjR {t : TypeId} {a v : AV} {va : Value} (ha : cv e a = some va) (h : Zfn t (X.tys.get t) (some a) = some v) (xt : TypeId) : ∃ y, cv e v = some y ∧ (Instr.typeAssert va xt t true).run P w = .ok y w := by
 cases ht : X.tys.get t with
 | none => rw [ht] at h; simp [Zfn] at h
 | some ti =>
  rw [ht] at h;have hk := ok.tys t ti ht;unfold Zfn at h
  split at h
  ·rename_i ti' t' u h1 h2;cases h1; cases h2;simp only [Zag] at h;cases hc : (Za5 ti.k && Nat.beq t' t) with
   | false => rw [hc] at h; cases h
   | true =>
    rw [hc] at h; simp only [cond_true, Option.some.injEq] at h; subst h;simp only [Bool.and_eq_true] at hc;obtain rfl := Zaa hc.2;have hc1 := hc.1;simp only [cv] at ha;cases hu : cv e u with
    | none => rw [hu] at ha; cases ha
    | some z =>
     rw [hu] at ha; simp only [Option.some.injEq] at ha; subst ha;obtain ⟨d, hd, hdk⟩ := hk.und;refine ⟨.tuple #[z, .bool true], by simp only [cv, cvs, hu], ?_⟩
     cases d <;> cases htk : ti.k <;> rw [htk] at hdk hc1 <;> simp [Zcl, Za5] at hdk hc1 <;> simp [Instr.typeAssert, run_underlying hd]
  ·cases h
theorem Zix {i : Nat} {a v : AV} {va : Value} (ha : cv e a = some va) (h : ZdH i (some a) = some v) : ∃ y, cv e v = some y ∧ (Instr.extract va i).run P w = .ok y w := by
 cases a with
 | tup vs =>
  simp only [ZdH] at h;obtain ⟨us, hus, rfl⟩ := Zr0 ha;obtain ⟨y, hy, hl⟩ := Zbs hus _ _ h;exact ⟨y, hy, by simp [Instr.extract, hl]⟩
 | _ => simp [ZdH] at h
theorem ZdT {ev : Operand → Option AV} {ρ : Operand → Value} (hev : ZdS e ev ρ) {x : Option Operand} {r : Option Nat} (h : Zdf ev x = some r) :
 (x = none ∧ r = none) ∨ ∃ o k n, x = some o ∧ r = some n ∧ ρ o = .int k (n : Int) := by
 cases x with
 | none => simp only [Zdf, Option.some.injEq] at h; exact .inl ⟨rfl, h.symm⟩
 | some o =>
  simp only [Zdf] at h;cases ho : ev o with
  | none => rw [ho] at h; cases h
  | some v =>
   rw [ho] at h;simp only [Option.map_eq_some_iff] at h;obtain ⟨n, hn, rfl⟩ := h;unfold Zrv at hn
   split at hn
   ·rename_i k m;simp only [Option.some.injEq] at hn; subst hn;exact .inr ⟨o, k, m, rfl, rfl, by have := hev o _ ho; exact (ZaL this)⟩
   ·cases hn
theorem Zat {x : Value} {k : IntKind} {n y : Nat} (hx : x = .int k (n : Int)) (h : n ≤ y) (c : BoundsCode) : (Instr.sliceBound x y c).run P w = .ok n w := by
 subst hx;have : (0 : Int) ≤ (n : Int) ∧ (n : Int) ≤ (y : Int) := by omega
 simp [Instr.sliceBound, asIntOf, this]
theorem Zav {ev : Operand → Option AV} {ρ : Operand → Value} (hev : ZdS e ev ρ) {lo hi mx : Option Operand} {l h m : Option Nat} (hl : Zdf ev lo = some l) (hh : Zdf ev hi = some h) (hm : Zdf ev mx = some m)
 (isSlice : Bool) (len cap : Nat) (h1 : m.getD cap ≤ cap) (h2 : h.getD len ≤ m.getD cap) (h3 : l.getD 0 ≤ h.getD len) (hmh : m.isSome = true → h.isSome = true) :
 (Instr.sliceBounds isSlice len cap (lo.map ρ) (hi.map ρ) (mx.map ρ)).run P w = .ok (l.getD 0, h.getD len, m.getD cap) w := by
 rcases ZdT hev hm with ⟨rfl, rfl⟩ | ⟨om, km, nm, rfl, rfl, hom⟩ <;> rcases ZdT hev hh with ⟨rfl, rfl⟩ | ⟨oh, kh, nh, rfl, rfl, hoh⟩ <;> rcases ZdT hev hl with ⟨rfl, rfl⟩ | ⟨ol, kl, nl, rfl, rfl, hol⟩ <;>
  simp only [Option.getD_none, Option.getD_some] at h1 h2 h3 <;>
  first
   | (simp at hmh; done)
   | (simp [Instr.sliceBounds]; done)
   | (simp [Instr.sliceBounds, Zat w hol h3]; done)
   | (simp [Instr.sliceBounds, Zat w hoh h2]; done)
   | (simp [Instr.sliceBounds, Zat w hoh h2, Zat w hol h3]; done)
   | (simp [Instr.sliceBounds, Zat w hom h1, Zat w hoh h2]; done)
   | (simp [Instr.sliceBounds, Zat w hom h1, Zat w hoh h2, Zat w hol h3]; done)
theorem ZfD (s : List Nat) (l h : Nat) : (bytesOf s).extract l h = bytesOf ((s.take h).drop l) := by
 apply ByteArray.ext;simp [bytesOf, List.extract_eq_take_drop, List.map_take, List.map_drop];rw [List.drop_take]
theorem Zlm {es b off c l h m : Nat} {v : AV} (hh : ZpV es b off c l h m = some v) : l ≤ h ∧ h ≤ m ∧ m ≤ c ∧ v = .sl b (if m = l then off else off + l * es) (h - l) (.fix (m - l)) := by
 simp only [ZpV, Zag] at hh;cases hb : (Nat.ble l h && Nat.ble h m && Nat.ble m c) with
 | false => rw [hb] at hh; cases hh
 | true =>
  rw [hb] at hh;simp only [Bool.and_eq_true] at hb;simp only [cond_true, Option.some.injEq] at hh;refine ⟨Zaf hb.1.1, Zaf hb.1.2, Zaf hb.2, ?_⟩;rw [← hh]
  congr 1
  by_cases e1 : m = l
  ·rw [Zbp e1, if_pos e1]; rfl
  ·rw [Zbf e1, if_neg e1]; rfl
include ok hH in
theorem Zmm {t : Nat} {ev : Operand → Option AV} {ρ : Operand → Value} (hev : ZdS e ev ρ) {a v : AV} {va : Value} (ha : cv e a = some va) {lo hi mx : Option Operand} (h : Znp X ev H t a lo hi mx = some v) :
 ∃ y, cv e v = some y ∧ (Instr.sliceAt t va (lo.map ρ) (hi.map ρ) (mx.map ρ)).run P w = .ok y w := by
 unfold Znp Zno at h
 split at h
 ·rename_i ti l hh m ht hl hhi hmx;have hk := ok.tys t ti ht;simp only [Zag] at h;cases hb : (m.isNone || hh.isSome) with
  | false => rw [hb] at h; cases h
  | true =>
   rw [hb] at h; simp only [cond_true] at h;have hmh : m.isSome = true → hh.isSome = true := by
    intro hm; cases m with
    | none => cases hm
    | some m => simpa using hb
   unfold Znn at h
   split at h
   ·rename_i s htk;obtain ⟨hs, rfl⟩ := Za9 ha;have hu := ZcQ hk htk;simp only [Zun, Zag] at h;cases hc : (m.isNone && Nat.ble (l.getD 0) (hh.getD s.length) && Nat.ble (hh.getD s.length) s.length) with
    | false => rw [hc] at h; cases h
    | true =>
     rw [hc] at h; simp only [cond_true, Option.some.injEq] at h; subst h;simp only [Bool.and_eq_true] at hc;obtain ⟨⟨c1, c2⟩, c3⟩ := hc;have hmn : m = none := by cases m <;> simp at c1; rfl
     subst hmn;have hmx' : mx = none := by rcases ZdT hev hmx with ⟨rfl, _⟩ | ⟨_, _, _, _, h, _⟩; rfl; cases h
     subst hmx';refine ⟨_, ZcN e (fun b hb => hs b (List.mem_of_mem_take (List.mem_of_mem_drop hb))), ?_⟩
     have hbd := Zav (P := P) w hev hl hhi hmx false (bytesOf s).size (bytesOf s).size (by simp) (by simp only [Zai]; exact Zaf c3) (by simp only [Zai]; exact Zaf c2) (by simp)
     simp only [Option.map_none, Zai] at hbd;simp [Instr.sliceAt, Instr.slice, run_underlying hu, hbd, ZfD, Zai]
   ·rename_i el htk;simp only [cv, Option.some.injEq] at ha; subst ha;simp only [Zag] at h;have hu := Zas hk htk;cases hc : (Nat.beq (l.getD 0) 0 && Nat.beq (hh.getD 0) 0 && Nat.beq (m.getD 0) 0 && (X.tys.get el).isSome) with
    | false => rw [hc] at h; cases h
    | true =>
     rw [hc] at h; simp only [cond_true, Option.some.injEq] at h; subst h;simp only [Bool.and_eq_true] at hc;obtain ⟨⟨⟨c1, c2⟩, c3⟩, c4⟩ := hc;have c1 := Zaa c1; have c2 := Zaa c2; have c3 := Zaa c3;obtain ⟨ei, hel⟩ := Option.isSome_iff_exists.1 c4;have hbd := Zav (P := P) w hev hl hhi hmx true 0 0 (by omega) (by omega) (by omega) hmh
     rw [c1, c2, c3] at hbd;refine ⟨_, rfl, ?_⟩;simp [Instr.sliceAt, Instr.slice, run_underlying hu, hbd, Zae w (ok.tys el ei hel)]
   ·rename_i el b off len cap htk;have hu := Zas hk htk;obtain ⟨x, hx, rfl⟩ := Zbr ha;cases hel : X.tys.get el with
    | none => rw [hel] at h; simp [ZvY] at h
    | some ei =>
     rw [hel] at h;have hsz := Zae w (ok.tys el ei hel);cases cap with
     | fix c =>
      simp only [ZvY] at h;obtain ⟨g1, g2, g3, rfl⟩ := Zlm h;have hbd := Zav (P := P) w hev hl hhi hmx true len c g3 g2 g1 hmh;refine ⟨.slice (some ⟨x.1, if m.getD c = l.getD 0 then off else off + l.getD 0 * ei.size, none⟩) (hh.getD len - l.getD 0) (m.getD c - l.getD 0), by simp only [cv, hx, Cap.val], ?_⟩
      simp only [Instr.sliceAt, Sem.run_bind, run_underlying hu, Result.andThen_ok, Instr.slice, Cap.val, hbd, hsz, Sem.run_pure, Option.map_some, ZaE]
      congr 2
      split <;> rfl
     | opn k =>
      simp only [ZvY] at h;cases hob : H.objs.get b with
      | none => rw [hob] at h; cases m <;> simp [Zsp] at h
      | some ob =>
       rw [hob] at h;unfold Zsp at h
       split at h
       ·rename_i mm el' ro lo' hi' es' cells hob';simp only [Option.some.injEq] at hob'; subst hob';simp only [Zag] at h;cases hc : (Nat.ble (l.getD 0) (hh.getD len) && Nat.ble (hh.getD len) mm && Nat.ble (k + mm) lo') with
        | false => rw [hc] at h; cases h
        | true =>
         rw [hc] at h; simp only [cond_true, Option.some.injEq] at h;simp only [Bool.and_eq_true] at hc;have g1 := Zaf hc.1.1; have g2 := Zaf hc.1.2; have g3 := Zaf hc.2;obtain ⟨x', hx', c, fz, _, _, ⟨_, hlo, _⟩, _⟩ := hH.live b _ hob;rw [hx] at hx'; cases hx';subst h;have hbd := Zav (P := P) w hev hl hhi hmx true len (x.2 - k) (by simp; omega) (by simpa using g2) g1 hmh
         simp only [Option.getD_some] at hbd;refine ⟨.slice (some ⟨x.1, if mm = l.getD 0 then off else off + l.getD 0 * ei.size, none⟩) (hh.getD len - l.getD 0) (mm - l.getD 0), ?_, ?_⟩
         ·simp only [cv, hx, Cap.val]
          congr 4
          by_cases e1 : mm = l.getD 0
          ·rw [Zbp e1, if_pos e1]; rfl
          ·rw [Zbf e1, if_neg e1]; rfl
         ·simp only [Instr.sliceAt, Sem.run_bind, run_underlying hu, Result.andThen_ok, Instr.slice, Cap.val, hbd, hsz, Sem.run_pure, Option.map_some, ZaE]
          congr 2
          split <;> rfl
       ·rename_i el' ro lo' hi' es' cells hob';simp only [Option.some.injEq] at hob'; subst hob';simp only [Zag] at h;cases hce : (Zso hi' (k + l.getD 0) && Nat.beq (hh.getD len) (l.getD 0) && Nat.ble (k + l.getD 0) lo') with
        | true =>
         rw [hce] at h; simp only [cond_true, Option.some.injEq] at h;simp only [Bool.and_eq_true] at hce;have g1 := Zaa hce.1.2; have g2 := Zaf hce.2;obtain ⟨x', hx', c, fz, _, _, ⟨_, hlo, hhi2⟩, _⟩ := hH.live b _ hob;rw [hx] at hx'; cases hx';subst h;have hk2 : x.2 = k + l.getD 0 := by
          have h1 := hce.1.1;unfold Zso at h1
          split at h1
          ·have := Zaa h1;have := hhi2 _ rfl;omega
          ·cases h1
         have hbd := Zav (P := P) w hev hl hhi hmx true len (x.2 - k) (by simp) (by simp; omega) (by omega) hmh
         simp only [Option.getD_none] at hbd;refine ⟨.slice (some ⟨x.1, off, none⟩) 0 0, by simp only [cv, hx, Cap.val], ?_⟩
         simp only [Instr.sliceAt, Sem.run_bind, run_underlying hu, Result.andThen_ok, Instr.slice, Cap.val, hbd, hsz, Sem.run_pure, Option.map_some, ZaE];rw [if_pos (by omega)]
         congr 2 <;> omega
        | false =>
        rw [hce] at h; simp only [cond_false, Zrw, Zag] at h;cases hc : (Nat.ble (l.getD 0) (hh.getD len) && Nat.ble (k + hh.getD len) lo' && (Nat.blt (k + l.getD 0) lo' || Nat.beq (l.getD 0) 0)) with
        | false => rw [hc] at h; cases h
        | true =>
         rw [hc] at h; simp only [cond_true, Option.some.injEq] at h;simp only [Bool.and_eq_true, Bool.or_eq_true] at hc;have g1 := Zaf hc.1.1; have g2 := Zaf hc.1.2;obtain ⟨x', hx', c, fz, _, _, ⟨_, hlo, _⟩, _⟩ := hH.live b _ hob;rw [hx] at hx'; cases hx';subst h;have hbd := Zav (P := P) w hev hl hhi hmx true len (x.2 - k) (by simp) (by simp; omega) g1 hmh
         simp only [Option.getD_none] at hbd;refine ⟨.slice (some ⟨x.1, off + l.getD 0 * ei.size, none⟩) (hh.getD len - l.getD 0) (x.2 - (k + l.getD 0)), by simp only [cv, hx, Cap.val], ?_⟩
         simp only [Instr.sliceAt, Sem.run_bind, run_underlying hu, Result.andThen_ok, Instr.slice, Cap.val, hbd, hsz, Sem.run_pure, Option.map_some, ZaE]
         congr 2
         ·by_cases e1 : x.2 - k = l.getD 0
          ·rw [if_pos e1];rcases hc.2 with h1 | h1
           ·have := Zaj h1; omega
           ·rw [Zaa h1]; simp
          ·rw [if_neg e1]
         ·omega
       ·cases h
   ·rename_i n el b off htk;have hu := Zgw hk htk;obtain ⟨x, hx, rfl⟩ := Zba ha;cases hel : X.tys.get el with
    | none => rw [hel] at h; simp [Zsq] at h
    | some ei =>
     rw [hel] at h;have hsz := Zae w (ok.tys el ei hel);simp only [Zsq] at h;obtain ⟨g1, g2, g3, rfl⟩ := Zlm h;have hbd := Zav (P := P) w hev hl hhi hmx false n n g3 g2 g1 hmh;refine ⟨.slice (some ⟨x.1, if m.getD n = l.getD 0 then off else off + l.getD 0 * ei.size, none⟩) (hh.getD n - l.getD 0) (m.getD n - l.getD 0), by simp only [cv, hx, Cap.val], ?_⟩
     simp only [Instr.sliceAt, Sem.run_bind, run_underlying hu, Result.andThen_ok, Instr.sureAddr, hbd, hsz, Sem.run_pure, ZaE]
     congr 3
     split <;> rfl
   ·cases h
 ·cases h
theorem Zce {ev : Operand → Option AV} {ρ : Operand → Value} (hev : ZdS e ev ρ) {args : Array Operand} {v : AV} (h : Zbj ev args.toList = some [v]) : ∃ y, cv e v = some y ∧ args.map ρ = #[y] := by
 have := Zbe hev h;obtain ⟨y, z, hy, hz, he⟩ := Zah this;simp only [cvs, Option.some.injEq] at hz; subst hz;refine ⟨y, hy, ?_⟩;apply Array.ext';simpa using he
include ok hH in
theorem Zqk {ev : Operand → Option AV} {ρ : Operand → Value} (hev : ZdS e ev ρ) {args : Array Operand} {ts : Array TypeId} {v : AV} (h : Zwl X H (ty0 X ts 0) (Zbj ev args.toList) = some v) (ty : TypeId) :
 ∃ y, cv e v = some y ∧ (Builtin.len_ ts ty (args.map ρ)).run P w = .ok y w := by
 unfold Zwl at h
 split at h
 ·rename_i ti a h0 ha;obtain ⟨y, hy, hargs⟩ := Zce hev ha;unfold ty0 at h0;cases ht0 : ts[0]? with
  | none => rw [ht0] at h0; cases h0
  | some t =>
   rw [ht0] at h0;simp only at h0;have hk := ok.tys t ti h0;rw [hargs];unfold Zur at h
   split at h
   ·rename_i kt et htk;simp only [cv, Option.some.injEq] at hy; subst hy;simp only [Option.some.injEq] at h; subst h;exact ⟨_, rfl, by simp [Builtin.len_, ht0, run_underlying (ZfC hk htk), goInt]⟩
   ·rename_i kt et b htk;obtain ⟨x, hx, rfl⟩ := Zdg hy;unfold Zrz at h
    split at h
    ·rename_i es c hb;simp only [Option.some.injEq] at h; subst h;obtain ⟨x', hx', xs, g1, g2⟩ := hH.live _ _ hb;rw [hx] at hx'; cases hx';have hl := g2.length;simp at hl;exact ⟨_, rfl, by simp only [Builtin.len_, ht0, List.getElem?_toArray, List.getElem?_cons_zero, Sem.run_bind, run_underlying (ZfC hk htk), Result.andThen_ok, Za2 (P := P) w g1, Sem.run_pure, goInt, hl]; rfl⟩
    ·cases h
   ·rename_i s htk;obtain ⟨_, rfl⟩ := Za9 hy;simp only [Option.some.injEq] at h; subst h;exact ⟨_, rfl, by simp [Builtin.len_, ht0, run_underlying (ZcQ hk htk), goInt, Zai]⟩
   ·rename_i i lo hi htk;obtain ⟨s, hs, rfl, h1⟩ := ZsR (show (RC.strLen lo hi).val (e.sy i) = some _ from hy)
    simp only [Option.some.injEq] at h; subst h;exact ⟨_, show (RC.lenOf lo hi).val (e.sy i) = _ by rw [hs]; simp only [RC.val, if_pos h1]; rfl, by simp [Builtin.len_, ht0, run_underlying (ZcQ hk htk), goInt]⟩
   ·rename_i n el htk;simp only [Option.some.injEq] at h; subst h;exact ⟨_, rfl, by simp [Builtin.len_, ht0, run_underlying (Zgw hk htk), goInt]⟩
   ·rename_i el htk;unfold Zry at h
    split at h
    ·rename_i n el' size bytes zero cmp heq;simp only [Option.some.injEq] at h; subst h;exact ⟨_, rfl, by simp [Builtin.len_, ht0, run_underlying (ZfA hk htk), run_underlying (Zgw (ok.tys el _ heq) rfl), goInt]⟩
    ·cases h
   ·rename_i el htk;simp only [cv, Option.some.injEq] at hy; subst hy;simp only [Option.some.injEq] at h; subst h;exact ⟨_, rfl, by simp [Builtin.len_, ht0, run_underlying (Zas hk htk), goInt]⟩
   ·rename_i el b off n c htk;obtain ⟨x, hx, rfl⟩ := Zbr hy;simp only [Option.some.injEq] at h; subst h;exact ⟨_, rfl, by simp [Builtin.len_, ht0, run_underlying (Zas hk htk), goInt]⟩
   ·rename_i el i lo hi htk;obtain ⟨a, n, c, hs, rfl, h1⟩ := ZuZ (show (RC.slLen lo hi).val (e.sy i) = some _ from hy)
    simp only [Option.some.injEq] at h; subst h;exact ⟨_, show (RC.lenOf lo hi).val (e.sy i) = _ by rw [hs]; simp only [RC.val, if_pos h1]; rfl, by simp [Builtin.len_, ht0, run_underlying (Zas hk htk), goInt]⟩
   ·rename_i el b i lo hi htk;obtain ⟨x, n, c, _, hs, rfl, h1⟩ := Zij hy;simp only [Option.some.injEq] at h; subst h;exact ⟨_, show (RC.lenOf lo hi).val (e.sy i) = _ by rw [hs]; simp only [RC.val, if_pos h1]; rfl, by simp [Builtin.len_, ht0, run_underlying (Zas hk htk), goInt]⟩
   ·cases h
 ·cases h
theorem ZeO (ts : Array TypeId) (ty : TypeId) (a : Addr) (n c : Nat) (h : c ≠ 0) : (Builtin.unsafeSliceData_ ts ty #[.slice (some a) n c]).run P w = .ok (.pointer (some a)) w := by
 have : Builtin.unsafeSliceData_ ts ty #[.slice (some a) n c] = (if c ≠ 0 then pure (.pointer (some a)) else (do if (← viewAt a.block).isSome then pure (.pointer (some a)) else pure (.pointer (some ⟨← newObj (.view a (← elemOf ty)), 0, none⟩)))) := rfl
 rw [this, if_pos h]; rfl
include hH in
theorem ZjS {ev : Operand → Option AV} {ρ : Operand → Value} (hev : ZdS e ev ρ) {args : Array Operand} {ts : Array TypeId} {v : AV} (h : Zju H (Zbj ev args.toList) = some v) (ty : TypeId) :
 ∃ y, cv e v = some y ∧ (Builtin.unsafeSliceData_ ts ty (args.map ρ)).run P w = .ok y w := by
 unfold Zju at h
 split at h
 ·rename_i ha;obtain ⟨y, hy, hargs⟩ := Zce hev ha;simp only [cv, Option.some.injEq] at hy; subst hy;simp only [Option.some.injEq] at h; subst h;rw [hargs];exact ⟨_, rfl, rfl⟩
 ·rename_i b off n c ha;obtain ⟨y, hy, hargs⟩ := Zce hev ha;obtain ⟨x, hx, rfl⟩ := Zbr hy;simp only [Zag] at h
  by_cases h0 : c = 0
  ·rw [Zbp h0] at h; cases h
  ·rw [Zbf h0] at h; simp only [cond_false, Option.some.injEq] at h; subst h;rw [hargs];exact ⟨.pointer (some ⟨x.1, off, none⟩), by simp only [cv, hx], ZeO w ts ty _ _ _ h0⟩
 ·rename_i b off n k ha;obtain ⟨y, hy, hargs⟩ := Zce hev ha;obtain ⟨x, hx, rfl⟩ := Zbr hy;unfold ZrA at h
  split at h
  ·rename_i el ro lo hi es cells hb;simp only [Zag] at h;cases hc : Nat.blt k lo with
   | false => rw [hc] at h; cases h
   | true =>
    rw [hc] at h; simp only [cond_true, Option.some.injEq] at h; subst h;have hlt := Zaj hc;obtain ⟨x', hx', c, fz, g1, g2, g3, g4⟩ := hH.live _ _ hb;rw [hx] at hx'; cases hx';have h0 : ¬ x.2 - k = 0 := by have := g3.2.1; omega
    rw [hargs];exact ⟨.pointer (some ⟨x.1, off, none⟩), by simp only [cv, hx], ZeO w ts ty _ _ _ h0⟩
  ·cases h
 ·cases h
include ok in
theorem Zql {ev : Operand → Option AV} {ρ : Operand → Value} (hev : ZdS e ev ρ) {args : Array Operand} {ts : Array TypeId} {v : AV} (h : Zwm (ty0 X ts 0) (Zbj ev args.toList) = some v) (ty : TypeId) :
 ∃ y, cv e v = some y ∧ (Builtin.cap_ ts ty (args.map ρ)).run P w = .ok y w := by
 unfold Zwm at h
 split at h
 ·rename_i ti a h0 ha;obtain ⟨y, hy, hargs⟩ := Zce hev ha;unfold ty0 at h0;cases ht0 : ts[0]? with
  | none => rw [ht0] at h0; cases h0
  | some t =>
   rw [ht0] at h0;simp only at h0;have hk := ok.tys t ti h0;rw [hargs];unfold Zus at h
   split at h
   ·rename_i el htk;simp only [cv, Option.some.injEq] at hy; subst hy;simp only [Option.some.injEq] at h; subst h;exact ⟨_, rfl, by simp [Builtin.cap_, ht0, run_underlying (Zas hk htk), goInt]⟩
   ·rename_i el b off n c htk;obtain ⟨x, hx, rfl⟩ := Zbr hy;simp only [Option.some.injEq] at h; subst h;exact ⟨_, rfl, by simp [Builtin.cap_, ht0, run_underlying (Zas hk htk), goInt, Cap.val]⟩
   ·rename_i el b off n k htk;obtain ⟨x, hx, rfl⟩ := Zbr hy;simp only [Option.some.injEq] at h; subst h;exact ⟨.int .i64 ((x.2 - k : Nat) : Int), by simp only [cv, hx], by simp [Builtin.cap_, ht0, run_underlying (Zas hk htk), goInt, Cap.val]⟩
   ·cases h
 ·cases h
theorem Zqm : ∀ (l : List AV) (us : List Value) (a v : AV) (y : Value), cvs e l = some us → cv e a = some y → Zuo a l = some v → ∃ z, cv e v = some z ∧ (us.foldlM Builtin.min2 y).run P w = .ok z w := by
 intro l
 induction l with
 | nil => intro us a v y hl ha h; simp only [cvs, Option.some.injEq] at hl; subst hl; simp only [Zuo, Option.some.injEq] at h; subst h; exact ⟨y, ha, by simp⟩
 | cons b l ih =>
  intro us a v y hl ha h;obtain ⟨p, q, hp, hq, rfl⟩ := Zah hl;unfold Zuo at h
  split at h
  ·rename_i heq; cases heq
  ·rename_i k x k' y' r heq;injection heq with h1 h2;subst h1; subst h2;cases ZaL ha; cases ZaL hp;simp only [Zag, ZeI] at h;cases hk : kEq k k' with
   | false => rw [hk] at h; cases h
   | true =>
    rw [hk] at h; simp only [cond_true] at h;obtain ⟨z, hz, hr⟩ := ih q _ v _ hq rfl h;refine ⟨z, hz, ?_⟩;simp only [List.foldlM_cons, Sem.run_bind, Builtin.min2, Sem.run_pure, Result.andThen_ok];rw [← hr]
    congr 3
    by_cases hlt : y' < x
    ·rw [if_pos hlt, decide_eq_true hlt]; rfl
    ·rw [if_neg hlt, decide_eq_false hlt]; rfl
  ·cases h
theorem Zqn : ∀ (l : List AV) (us : List Value) (a v : AV) (y : Value), cvs e l = some us → cv e a = some y → Zup a l = some v → ∃ z, cv e v = some z ∧ (us.foldlM Builtin.max2 y).run P w = .ok z w := by
 intro l
 induction l with
 | nil => intro us a v y hl ha h; simp only [cvs, Option.some.injEq] at hl; subst hl; simp only [Zup, Option.some.injEq] at h; subst h; exact ⟨y, ha, by simp⟩
 | cons b l ih =>
  intro us a v y hl ha h;obtain ⟨p, q, hp, hq, rfl⟩ := Zah hl;unfold Zup at h
  split at h
  ·rename_i heq; cases heq
  ·rename_i k x k' y' r heq;injection heq with h1 h2;subst h1; subst h2;cases ZaL ha; cases ZaL hp;simp only [Zag, ZeI] at h;cases hk : kEq k k' with
   | false => rw [hk] at h; cases h
   | true =>
    rw [hk] at h; simp only [cond_true] at h;obtain ⟨z, hz, hr⟩ := ih q _ v _ hq rfl h;refine ⟨z, hz, ?_⟩;simp only [List.foldlM_cons, Sem.run_bind, Builtin.max2, Sem.run_pure, Result.andThen_ok];rw [← hr]
    congr 3
    by_cases hlt : x < y'
    ·rw [if_pos (show y' > x from hlt), decide_eq_true hlt]; rfl
    ·rw [if_neg (show ¬ y' > x from hlt), decide_eq_false hlt]; rfl
  ·cases h
theorem ZaF {s : Sem Value} {y : Value} (h : s.run P w = .ok y w) : (do pure (Next.value (← s)) : Sem Next).run P w = .ok (.value y) w := by
 rw [Sem.run_bind, h]; rfl
theorem ZjT {op : BinOp} {x y v : AV} : ∀ {l : List OraE}, Zeg op x y l = some v → ∃ o ∈ l, o.r = v ∧ opN o.op = opN op ∧ 0 < opN op ∧ ZcF o.x x = true ∧ ZcF o.y y = true ∧ o.cells = none := by
 intro l
 induction l with
 | nil => intro h; cases h
 | cons o r ih =>
  intro h;simp only [Zeg, Zag] at h;cases hb : (o.cells.isNone && Nat.beq (opN o.op) (opN op) && Nat.blt 0 (opN op) && ZcF o.x x && ZcF o.y y) with
  | false =>
   rw [hb] at h;obtain ⟨p, hp, hh⟩ := ih h;exact ⟨p, List.mem_cons_of_mem _ hp, hh⟩
  | true =>
   rw [hb] at h;simp only [cond_true, Option.some.injEq] at h;simp only [Bool.and_eq_true] at hb;exact ⟨o, List.mem_cons_self .., h, Zaa hb.1.1.1.2, Zaj hb.1.1.2, hb.1.2, hb.2, Option.isNone_iff_eq_none.1 hb.1.1.1.1⟩
theorem ZsU {a b : BinOp} (h : opN a = opN b) (h0 : 0 < opN b) : a = b := by
 cases a <;> cases b <;> first | rfl | (simp [opN] at h; done) | (simp [opN] at h0; done) | (simp [opN] at h h0)
theorem Zqo {P : Program} {X : XP} (w : World) {op : BinOp} {t : TypeId} {vx v : AV} {my : Option AV} {e : Env} (hO : Zge X.ora e.sy) (h : Zv1 X op (some vx) my = some v) {zx zy : Value}
 (hx : cv e vx = some zx) (hy : ∀ a, my = some a → cv e a = some zy) {ox oy : Operand} :
 ∃ z, cv e v = some z ∧ (do eqGuard op t ox oy zx zy; binOp op t zx zy : Sem Value).run P w = .ok z w := by
 have key : ∀ (y : AV), my = some y → Zeg op vx y X.ora = some v → ∃ z, cv e v = some z ∧ (do eqGuard op t ox oy zx zy; binOp op t zx zy : Sem Value).run P w = .ok z w := by
  intro y hmy hl;obtain ⟨o, ho, hr, h1, h2, h3, h4, h5⟩ := ZjT hl;obtain rfl := ZsU h1 h2;obtain ⟨k, a, k', b, u, rfl, rfl, hu, hc⟩ := (hO o ho e rfl).1 h5 vx y h3 h4 zx zy hx (hy y hmy);obtain ⟨z, hz, hrun⟩ := Zax (P := P) w hu t e;refine ⟨z, by rw [← hr, hc]; exact hz, ?_⟩
  rw [Sem.run_bind, Zaz w (by simp) (by simp), Result.andThen_ok, hrun]
 unfold Zv1 at h
 split at h
 ·rename_i heq; cases heq; exact key _ rfl h
 ·rename_i heq; cases heq; exact key _ rfl h
 ·cases h
include ok hH in
theorem ZjU (hO : Zge X.ora e.sy) {ev : Operand → Option AV} {ρ : Operand → Value} (hev : ZdS e ev ρ) (o : Oper) {v : AV} (h : qop X ev H o.op = some v) :
 ∃ y, cv e v = some y ∧ (execOp ρ o).run P w = .ok (.value y) w := by
 unfold qop at h
 split at h
 ·rename_i x ho; exact ⟨_, hev _ _ h, by simp only [execOp, ho]; rfl⟩
 ·rename_i x ho; exact ⟨_, hev _ _ h, by simp only [execOp, ho]; rfl⟩
 ·rename_i c a b ho;cases hc : ev c with
  | none => rw [hc] at h; simp [Znq] at h
  | some vc =>
   rw [hc] at h;have hcc := hev _ _ hc;cases vc with
   | bool t =>
    have hρ := ZcO hcc;cases t with
    | true => simp only [Znq] at h; exact ⟨_, hev _ _ h, by simp only [execOp, ho, hρ]; rfl⟩
    | false => simp only [Znq] at h; exact ⟨_, hev _ _ h, by simp only [execOp, ho, hρ]; rfl⟩
   | _ => simp [Znq] at h
 ·rename_i t a ho;cases ha : ev a with
  | none => rw [ha] at h; simp [Zl4] at h
  | some va =>
   rw [ha] at h;obtain ⟨y, hy, hr⟩ := Zov ok w hH (hev _ _ ha) h;exact ⟨y, hy, by simp only [execOp, ho]; exact ZaF w hr⟩
 ·rename_i x ho;cases hx : ev x with
  | none => rw [hx] at h; simp [ZbP] at h
  | some vx =>
   rw [hx] at h;have hc := hev _ _ hx;cases vx with
   | ptr b off =>
    simp only [ZbP, Option.some.injEq] at h; subst h;obtain ⟨y, hy, hρ⟩ := Zba hc;exact ⟨_, hc, by simp only [execOp, ho, hρ]; rfl⟩
   | fn f a b =>
    simp only [ZbP, Option.some.injEq] at h; subst h;obtain ⟨y, z, _, _, hρ⟩ := Zhh hc;exact ⟨_, hc, by simp only [execOp, ho, hρ]; rfl⟩
   | yld l =>
    simp only [ZbP, Option.some.injEq] at h; subst h;obtain ⟨y, _, hρ⟩ := Zfx hc;exact ⟨_, hc, by simp only [execOp, ho, hρ]; rfl⟩
   | eptr b k =>
    simp only [ZbP, Option.some.injEq] at h; subst h;obtain ⟨y, _, hρ⟩ := Zfv hc;exact ⟨_, hc, by simp only [execOp, ho, hρ]; rfl⟩
   | _ => simp [ZbP] at h
 ·rename_i op t x y yt ho;cases hx : ev x with
  | none =>
   rw [hx] at h;have : Zef X op t none (ev y) y = none := by
    unfold Zef
    split
    ·cases isIface (X.tys.get t) <;> rfl
    ·rfl
   have h2 : ZcE X op (X.tys.get t) none (ev y) = none := by unfold ZcE; split <;> simp_all
   simp [ZvZ, Zv1, orElse, this, h2] at h
  | some vx =>
   rw [hx] at h;cases hb : ZvZ X op t (some vx) (ev y) with
   | none =>
    rw [hb] at h;simp only [orElse] at h;cases hp : ZcE X op (X.tys.get t) (some vx) (ev y) with
    | some up =>
     rw [hp] at h;simp only [Option.some.injEq] at h; subst h;cases hy : ev y with
     | none => rw [hy] at hp; unfold ZcE at hp; split at hp <;> simp_all
     | some vy =>
      rw [hy] at hp;obtain ⟨z, hz, hr⟩ := ZjQ ok w (hev _ _ hx) (hev _ _ hy) hp x y;exact ⟨z, hz, by simp only [execOp, ho]; exact ZaF w hr⟩
    | none =>
    rw [hp] at h;simp only at h;cases hq : Zef X op t (some vx) (ev y) y with
    | none =>
     rw [hq] at h;simp only at h;obtain ⟨z, hz, hr⟩ := Zqo (P := P) (ox := x) (oy := y) (t := t) w hO h (hev _ _ hx) (fun a ha => hev _ _ ha)
     exact ⟨z, hz, by simp only [execOp, ho]; exact ZaF w hr⟩
    | some uq =>
    rw [hq] at h;simp only [Option.some.injEq] at h; subst h;obtain ⟨z, hz, hr⟩ := ZjM (ox := x) ok w hq (hev _ _ hx) (fun a ha => hev _ _ ha)
    exact ⟨z, hz, by simp only [execOp, ho]; exact ZaF w hr⟩
   | some u =>
    rw [hb] at h;simp only [orElse, Option.some.injEq] at h; subst h;cases hy : ev y with
    | none => rw [hy] at hb; simp [ZvZ] at hb
    | some vy =>
     rw [hy] at hb;obtain ⟨z, hz, hr⟩ := Zqh ok w hb (hev _ _ hx) (hev _ _ hy) x y;exact ⟨z, hz, by simp only [execOp, ho]; exact ZaF w hr⟩
 ·rename_i op t x ho;cases hx : ev x with
  | none => rw [hx] at h; simp [qUn] at h
  | some vx =>
   rw [hx] at h;have hc := hev _ _ hx;simp only [qUn] at h;unfold unA at h
   split at h
   ·simp only [Option.some.injEq] at h; subst h;have hρ := ZcO hc;exact ⟨_, rfl, by simp only [execOp, ho, hρ]; rfl⟩
   ·simp only [Option.some.injEq] at h; subst h;have hρ := ZaL hc;refine ⟨_, rfl, ?_⟩;simp only [execOp, ho, hρ];exact ZaF w (by simp only [Op.unary, Op.intArith, Zbx, Zok]; rfl)
   ·cases h
 ·rename_i s d x ho;cases hx : ev x with
  | none => rw [hx] at h; unfold Zbv at h; split at h <;> simp_all
  | some vx =>
   rw [hx] at h;obtain ⟨y, hy, hr⟩ := ZeM ok w hH (hev _ _ hx) h;exact ⟨y, hy, by simp only [execOp, ho]; exact ZaF w hr⟩
 ·rename_i t x ho;cases hx : ev x with
  | none => rw [hx] at h; unfold ZhZ at h; split at h <;> simp_all
  | some vx =>
   rw [hx] at h;obtain ⟨y, hy, hr⟩ := Zmg ok w (hev _ _ hx) h;exact ⟨y, hy, by simp only [execOp, ho]; exact ZaF w hr⟩
 ·rename_i fn first captured ho
  unfold Zh5 at h
  split at h
  ·rename_i f;unfold Zuq at h
   split at h
   ·rename_i a b ha hb;simp only [Option.some.injEq] at h; subst h;have h1 := Zbe hev ha;have h2 := Zbe hev hb;refine ⟨.func (.func f) (first.map ρ) (captured.map ρ), ?_, by simp only [execOp, ho]; rfl⟩
    simp only [cv, h1, h2]
    congr 2 <;> (apply Array.ext'; simp)
   ·cases h
  ·cases h
 ·rename_i t parts ho;obtain ⟨y, hy, hr⟩ := Zmh ok w hev h;exact ⟨y, hy, by simp only [execOp, ho]; exact ZaF w hr⟩
 ·rename_i s x f ho;cases hx : ev x with
  | none => rw [hx] at h; unfold ZbL at h; split at h <;> simp_all
  | some vx =>
   rw [hx] at h;obtain ⟨y, hy, hr⟩ := Zgg ok w (hev _ _ hx) h;exact ⟨y, hy, by simp only [execOp, ho]; exact ZaF w hr⟩
 ·rename_i s x f ho;cases hx : ev x with
  | none => rw [hx] at h; unfold Zgk at h; split at h <;> simp_all
  | some vx =>
   rw [hx] at h;obtain ⟨y, hy, hr⟩ := Zmk ok w (hev _ _ hx) h;exact ⟨y, hy, by simp only [execOp, ho]; exact ZaF w hr⟩
 ·rename_i t x ix ho;cases hx : ev x with
  | none => rw [hx] at h; unfold Zcb at h; split at h <;> simp_all
  | some vx =>
   cases hi : ev ix with
   | none => rw [hi] at h; unfold Zcb at h; split at h <;> simp_all
   | some vi =>
    rw [hx, hi] at h;obtain ⟨y, hy, hr⟩ := Zgh ok w (hev _ _ hx) (hev _ _ hi) h;exact ⟨y, hy, by simp only [execOp, ho]; exact ZaF w hr⟩
 ·rename_i t x ix ho;cases hx : ev x with
  | none => rw [hx] at h; unfold Zh4 at h; split at h <;> simp_all
  | some vx =>
   cases hi : ev ix with
   | none => rw [hi] at h; unfold Zh4 at h; split at h <;> simp_all
   | some vi =>
    rw [hx, hi] at h;obtain ⟨y, hy, hr⟩ := Zml ok w (hev _ _ hx) (hev _ _ hi) h;exact ⟨y, hy, by simp only [execOp, ho]; exact ZaF w hr⟩
 ·rename_i t x lo hi mx ho;cases hx : ev x with
  | none => rw [hx] at h; simp [ZnA] at h
  | some vx =>
   rw [hx] at h;simp only [ZnA] at h;obtain ⟨y, hy, hr⟩ := Zmm ok w hH hev (hev _ _ hx) h;exact ⟨y, hy, by simp only [execOp, ho]; exact ZaF w hr⟩
 ·rename_i x i ho;cases hx : ev x with
  | none => rw [hx] at h; simp [ZdH] at h
  | some vx =>
   rw [hx] at h;obtain ⟨y, hy, hr⟩ := Zix (P := P) w (hev _ _ hx) h;exact ⟨y, hy, by simp only [execOp, ho]; exact ZaF w hr⟩
 ·rename_i x xt t ho;cases hx : ev x with
  | none => rw [hx] at h; cases ht : X.tys.get t <;> rw [ht] at h <;> simp [Zfn] at h
  | some vx =>
   rw [hx] at h;obtain ⟨y, hy, hr⟩ := ZjR ok w (hev _ _ hx) h xt;exact ⟨y, hy, by simp only [execOp, ho]; exact ZaF w hr⟩
 ·rename_i x xt t ho;cases hx : ev x with
  | none => rw [hx] at h; cases ht : X.tys.get t <;> rw [ht] at h <;> simp [ZdI] at h
  | some vx =>
   rw [hx] at h;obtain ⟨y, hy, hr⟩ := Ziv ok w (hev _ _ hx) h xt;exact ⟨y, hy, by simp only [execOp, ho]; exact ZaF w hr⟩
 ·rename_i it ho;cases hx : ev it with
  | none => rw [hx] at h; simp [ZkM] at h
  | some vx =>
   rw [hx] at h;obtain ⟨y, hy, hr⟩ := Zmj (P := P) w hH (hev _ _ hx) h;exact ⟨y, hy, by simp only [execOp, ho]; exact ZaF w hr⟩
 ·rename_i t x k b ho;cases hx : ev x with
  | none => rw [hx] at h; unfold Zfo at h; split at h <;> simp_all
  | some vx =>
   cases hk : ev k with
   | none => rw [hk] at h; unfold Zfo at h; split at h <;> simp_all
   | some vk =>
    rw [hx, hk] at h;obtain ⟨y, hy, hr⟩ := ZjP ok w hH (hev _ _ hx) (hev _ _ hk) h;exact ⟨y, hy, by simp only [execOp, ho]; exact ZaF w hr⟩
 ·rename_i c ho;obtain ⟨callee, args, ts⟩ := c;simp only at h;cases callee with
  | builtin b =>
   simp only [Zst] at h;have key : ∀ {s : Sem Value} {y : Value}, (∀ cs, builtin b ts o.type cs (args.map ρ) = do pure (Next.value (← s))) → s.run P w = .ok y w → (execOp ρ o).run P w = .ok (.value y) w := by
    intro s y hs hr;simp only [execOp, ho, resolve, Sem.run_bind, Sem.run_pure, Result.andThen_ok, invoke];rw [hs _]; exact ZaF w hr
   unfold ZkK at h
   split at h
   ·obtain ⟨y, hy, hr⟩ := ZjS (P := P) w hH hev h o.type;exact ⟨y, hy, key (fun _ => rfl) hr⟩
   ·obtain ⟨y, hy, hr⟩ := Zqk ok w hH hev h o.type;exact ⟨y, hy, key (fun _ => rfl) hr⟩
   ·obtain ⟨y, hy, hr⟩ := Zql ok w hev h o.type;exact ⟨y, hy, key (fun _ => rfl) hr⟩
   ·unfold Zw0 at h
    split at h
    ·rename_i a r ha;have hc := Zbe hev ha;obtain ⟨p, q, hp, hq, he⟩ := Zah hc;obtain ⟨z, hz, hr⟩ := Zqm (P := P) w r q a v p hq hp h;refine ⟨z, hz, key (fun _ => rfl) ?_⟩
     simp only [Builtin.min_];have : (args.map ρ).toList = p :: q := by simpa using he
     rw [this]; exact hr
    ·cases h
   ·unfold Zw1 at h
    split at h
    ·rename_i a r ha;have hc := Zbe hev ha;obtain ⟨p, q, hp, hq, he⟩ := Zah hc;obtain ⟨z, hz, hr⟩ := Zqn (P := P) w r q a v p hq hp h;refine ⟨z, hz, key (fun _ => rfl) ?_⟩
     simp only [Builtin.max_];have : (args.map ρ).toList = p :: q := by simpa using he
     rw [this]; exact hr
    ·cases h
   ·cases h
  | _ => simp [Zst] at h
 ·cases h
end
end
end Go.X
