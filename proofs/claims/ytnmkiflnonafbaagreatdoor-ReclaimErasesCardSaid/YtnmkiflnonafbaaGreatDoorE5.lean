/- The operations that leave memory alone: the rest, and all of them together. -/
import Derived.Test.YtnmkiflnonafbaaGreatDoorE4
set_option linter.unusedVariables false
set_option linter.unusedSimpArgs false
namespace Go.X
noncomputable section
set_option linter.unusedSectionVars false
section
variable {P : Program} {X : XP} (ok : XPok P X) (w : World) {e : Env} {L : Zag} {H : AHeap} {nx NG : Nat} (hH : HR NG e L H.objs.get nx w)
include ok in
theorem Zfd {s f : Nat} {a v : AV} {va : Value} (ha : cv e a = some va) (h : Zbo f (X.tys.get s) (some a) = some v) : ∃ y, cv e v = some y ∧ (Instr.fieldAt s va f).run P w = .ok y w := by
 cases ht : X.tys.get s with
 | none => rw [ht] at h; simp [Zbo] at h
 | some ti =>
  rw [ht] at h;have hk := ok.tys s ti ht;cases a with
  | ptr b off =>
   simp only [Zbo] at h;unfold Zet at h
   split at h
   ·rename_i gs htk;cases hg : gs[f]? with
    | none => rw [hg] at h; simp [ZcP] at h
    | some g =>
     rw [hg] at h;simp only [ZcP, Zaw] at h;cases hb : Nat.blt 0 g.size with
     | false => rw [hb] at h; cases h
     | true =>
      rw [hb] at h; simp only [cond_true, Option.some.injEq] at h; subst h;have hpos := ZaF hb;obtain ⟨fs, hu, hm⟩ := ZeG hk htk;obtain ⟨fl, hfl, h1, h2, h3⟩ := Zor w hk hu hm hg;obtain ⟨x, hx, rfl⟩ := Zbz ha;refine ⟨.pointer (some ⟨x.1, off + g.off, none⟩), by simp only [cv, hx], ?_⟩
      simp only [Instr.fieldAt, Sem.run_bind, run_underlying hu, Result.andThen_ok, hfl, Instr.sureAddr, Sem.run_pure, fieldPlace, h3, if_neg (show ¬ g.size = 0 by omega), ZaE, h1]
   ·cases h
  | _ => simp [Zbo] at h
include ok in
theorem Zj7 {s f : Nat} {a v : AV} {va : Value} (ha : cv e a = some va) (h : Zfh X f (X.tys.get s) (some a) = some v) : ∃ y, cv e v = some y ∧ (Instr.field s va f).run P w = .ok y w := by
 cases ht : X.tys.get s with
 | none => rw [ht] at h; simp [Zfh] at h
 | some ti =>
  rw [ht] at h;have hk := ok.tys s ti ht;cases a with
  | agg vs =>
   simp only [Zfh] at h;unfold ZkY at h
   split at h
   ·rename_i gs htk;cases hg : gs[f]? with
    | none => rw [hg] at h; simp [ZhR] at h
    | some g =>
     rw [hg] at h;simp only [ZhR] at h;obtain ⟨fs, hu, hm⟩ := ZeG hk htk;obtain ⟨fl, hfl, h1, h2, h3⟩ := Zor w hk hu hm hg;obtain ⟨us, hus, rfl⟩ := ZeF ha;obtain ⟨y, hy, hr⟩ := Zji ok w hus h;refine ⟨y, hy, ?_⟩;simp only [Instr.field, Sem.run_bind, run_underlying hu, Result.andThen_ok, hfl, asAgg, Sem.run_pure, h1, h2, hr]
   ·cases h
  | _ => simp [Zfh] at h
theorem Zg8 {b off n i : Nat} {o : Option TyI} {v : AV} (h : ZgI b off n i o = some v) : ∃ ei, o = some ei ∧ i < n ∧ v = .ptr b (off + i * ei.size) := by
 cases o with
 | none => simp [ZgI] at h
 | some ei =>
  simp only [ZgI, Zaw] at h;cases hb : Nat.blt i n with
  | false => rw [hb] at h; cases h
  | true => rw [hb] at h; simp only [cond_true, Option.some.injEq] at h; exact ⟨ei, rfl, ZaF hb, h.symm⟩
include ok in
theorem Zfe {t : Nat} {a ix v : AV} {va vi : Value} (ha : cv e a = some va) (hi : cv e ix = some vi) (h : ZbZ X (X.tys.get t) (some a) (some ix) = some v) :
 ∃ y, cv e v = some y ∧ (Instr.indexAt t va vi).run P w = .ok y w := by
 unfold ZbZ at h
 split at h
 ·rename_i ti v' k i ht ha' hix;simp only [Option.some.injEq] at ha' hix;subst ha' hix;have hk := ok.tys t ti ht;cases Za8 hi;unfold Zeu at h
  split at h
  ·rename_i n el b off htk;obtain ⟨ei, hel, hlt, rfl⟩ := Zg8 h;obtain ⟨x, hx, rfl⟩ := Zbz ha;refine ⟨.pointer (some ⟨x.1, off + i * ei.size, none⟩), by simp only [cv, hx], ?_⟩
   have hu := Zfz hk htk;have hcond : (0 : Int) ≤ Int.ofNat i ∧ Int.ofNat i < (n : Int) := by constructor <;> simp <;> omega
   simp [Instr.indexAt, asIntOf, run_underlying hu, Instr.sureAddr, Zae w (ok.tys el ei hel), ZaE];omega
  ·rename_i el b off len c htk;obtain ⟨ei, hel, hlt, rfl⟩ := Zg8 h;obtain ⟨x, hx, rfl⟩ := Zbk ha;refine ⟨.pointer (some ⟨x.1, off + i * ei.size, none⟩), by simp only [cv, hx], ?_⟩
   have hu := Zay hk htk;have hcond : (0 : Int) ≤ Int.ofNat i ∧ Int.ofNat i < (len : Int) := by constructor <;> simp <;> omega
   simp [Instr.indexAt, asIntOf, run_underlying hu, Zae w (ok.tys el ei hel), ZaE];omega
  ·cases h
 ·cases h
include ok in
theorem Zj8 {t : Nat} {a ix v : AV} {va vi : Value} (ha : cv e a = some va) (hi : cv e ix = some vi) (h : ZgJ X (X.tys.get t) (some a) (some ix) = some v) :
 ∃ y, cv e v = some y ∧ (Instr.index t va vi).run P w = .ok y w := by
 unfold ZgJ at h
 split at h
 ·rename_i ti v' k i ht ha' hix;simp only [Option.some.injEq] at ha' hix;subst ha' hix;have hk := ok.tys t ti ht;cases Za8 hi;unfold ZkZ at h
  split at h
  ·rename_i s htk;obtain ⟨hs, rfl⟩ := Zbh ha;have hu := Zdj hk htk;cases hb : s[i]? with
   | none => rw [hb] at h; cases h
   | some b =>
    rw [hb] at h; simp only [Option.some.injEq] at h; subst h;refine ⟨_, rfl, ?_⟩;have hb256 := hs b (List.mem_of_getElem? hb);have hlt : i < s.length := (List.getElem?_eq_some_iff.1 hb).1;have hget : (bytesOf s)[i]? = some (UInt8.ofNat b) := by
     have hsz : i < (bytesOf s).size := by rw [Zai]; exact hlt
     rw [getElem?_pos (bytesOf s) i hsz]
     congr 1
     show (bytesOf s).data[i] = _;simp only [bytesOf, List.getElem_toArray, List.getElem_map]
     congr 1
     exact (List.getElem?_eq_some_iff.1 hb).2
    simp [Instr.index, asIntOf, run_underlying hu, hget];omega
  ·rename_i n el vs htk;obtain ⟨us, hus, rfl⟩ := ZeF ha;have hu := Zfz hk htk;cases hel : X.tys.get el with
   | none => rw [hel] at h; simp [ZoI] at h
   | some ei =>
    rw [hel] at h;simp only [ZoI, Zaw] at h;cases hb : Nat.blt i n with
    | false => rw [hb] at h; cases h
    | true =>
     rw [hb] at h; simp only [cond_true] at h;have hlt := ZaF hb;obtain ⟨y, hy, hr⟩ := Zji ok w (t := el) (off := i * ei.size) hus (by rw [hel]; exact h)
     refine ⟨y, hy, ?_⟩;have hcond : (0 : Int) ≤ Int.ofNat i ∧ Int.ofNat i < (n : Int) := by constructor <;> simp <;> omega
     simp only [Instr.index, asIntOf, Sem.run_bind, Sem.run_pure, Result.andThen_ok, run_underlying hu, if_pos hcond, Zae w (ok.tys el ei hel)];exact hr
  ·cases h
 ·cases h
theorem Zg9 {i : Nat} {a v : AV} {va : Value} (ha : cv e a = some va) (h : Zc8 i (some a) = some v) : ∃ y, cv e v = some y ∧ (Instr.extract va i).run P w = .ok y w := by
 cases a with
 | tup vs =>
  simp only [Zc8] at h;obtain ⟨us, hus, rfl⟩ := Zoq ha;obtain ⟨y, hy, hl⟩ := Zby hus _ _ h;exact ⟨y, hy, by simp [Instr.extract, hl]⟩
 | _ => simp [Zc8] at h
theorem Zdk {ev : Operand → Option AV} {ρ : Operand → Value} (hev : Ze9 e ev ρ) {x : Option Operand} {r : Option Nat} (h : ZcH ev x = some r) :
 (x = none ∧ r = none) ∨ ∃ o k n, x = some o ∧ r = some n ∧ ρ o = .int k (n : Int) := by
 cases x with
 | none => simp only [ZcH, Option.some.injEq] at h; exact .inl ⟨rfl, h.symm⟩
 | some o =>
  simp only [ZcH] at h;cases ho : ev o with
  | none => rw [ho] at h; cases h
  | some v =>
   rw [ho] at h;simp only [Option.map_eq_some_iff] at h;obtain ⟨n, hn, rfl⟩ := h;unfold Zn6 at hn
   split at hn
   ·rename_i k m;simp only [Option.some.injEq] at hn; subst hn;exact .inr ⟨o, k, m, rfl, rfl, by have := hev o _ ho; exact (Za8 this)⟩
   ·cases hn
theorem Zaq {x : Value} {k : IntKind} {n y : Nat} (hx : x = .int k (n : Int)) (h : n ≤ y) (c : BoundsCode) : (Instr.sliceBound x y c).run P w = .ok n w := by
 subst hx;have : (0 : Int) ≤ (n : Int) ∧ (n : Int) ≤ (y : Int) := by omega
 simp [Instr.sliceBound, asIntOf, this]
theorem Zar {ev : Operand → Option AV} {ρ : Operand → Value} (hev : Ze9 e ev ρ) {lo hi mx : Option Operand} {l h m : Option Nat} (hl : ZcH ev lo = some l) (hh : ZcH ev hi = some h) (hm : ZcH ev mx = some m)
 (isSlice : Bool) (len cap : Nat) (h1 : m.getD cap ≤ cap) (h2 : h.getD len ≤ m.getD cap) (h3 : l.getD 0 ≤ h.getD len) (hmh : m.isSome = true → h.isSome = true) :
 (Instr.sliceBounds isSlice len cap (lo.map ρ) (hi.map ρ) (mx.map ρ)).run P w = .ok (l.getD 0, h.getD len, m.getD cap) w := by
 rcases Zdk hev hm with ⟨rfl, rfl⟩ | ⟨om, km, nm, rfl, rfl, hom⟩ <;> rcases Zdk hev hh with ⟨rfl, rfl⟩ | ⟨oh, kh, nh, rfl, rfl, hoh⟩ <;> rcases Zdk hev hl with ⟨rfl, rfl⟩ | ⟨ol, kl, nl, rfl, rfl, hol⟩ <;>
  simp only [Option.getD_none, Option.getD_some] at h1 h2 h3 <;>
  first
   | (simp at hmh; done)
   | (simp [Instr.sliceBounds]; done)
   | (simp [Instr.sliceBounds, Zaq w hol h3]; done)
   | (simp [Instr.sliceBounds, Zaq w hoh h2]; done)
   | (simp [Instr.sliceBounds, Zaq w hoh h2, Zaq w hol h3]; done)
   | (simp [Instr.sliceBounds, Zaq w hom h1, Zaq w hoh h2]; done)
   | (simp [Instr.sliceBounds, Zaq w hom h1, Zaq w hoh h2, Zaq w hol h3]; done)
theorem ZeI (s : List Nat) (l h : Nat) : (bytesOf s).extract l h = bytesOf ((s.take h).drop l) := by
 apply ByteArray.ext;simp [bytesOf, List.extract_eq_take_drop, List.map_take, List.map_drop];rw [List.drop_take]
theorem Zjm {es b off c l h m : Nat} {v : AV} (hh : ZmO es b off c l h m = some v) : l ≤ h ∧ h ≤ m ∧ m ≤ c ∧ v = .sl b (if m = l then off else off + l * es) (h - l) (.fix (m - l)) := by
 simp only [ZmO, Zaw] at hh;cases hb : (Nat.ble l h && Nat.ble h m && Nat.ble m c) with
 | false => rw [hb] at hh; cases hh
 | true =>
  rw [hb] at hh;simp only [Bool.and_eq_true] at hb;simp only [cond_true, Option.some.injEq] at hh;refine ⟨Zak hb.1.1, Zak hb.1.2, Zak hb.2, ?_⟩;rw [← hh]
  congr 1
  by_cases e1 : m = l
  ·rw [ZbK e1, if_pos e1]; rfl
  ·rw [Zbx e1, if_neg e1]; rfl
include ok hH in
theorem Zj9 {t : Nat} {ev : Operand → Option AV} {ρ : Operand → Value} (hev : Ze9 e ev ρ) {a v : AV} {va : Value} (ha : cv e a = some va) {lo hi mx : Option Operand} (h : ZkT X ev H t a lo hi mx = some v) :
 ∃ y, cv e v = some y ∧ (Instr.sliceAt t va (lo.map ρ) (hi.map ρ) (mx.map ρ)).run P w = .ok y w := by
 unfold ZkT ZkS at h
 split at h
 ·rename_i ti l hh m ht hl hhi hmx;have hk := ok.tys t ti ht;simp only [Zaw] at h;cases hb : (m.isNone || hh.isSome) with
  | false => rw [hb] at h; cases h
  | true =>
   rw [hb] at h; simp only [cond_true] at h;have hmh : m.isSome = true → hh.isSome = true := by
    intro hm; cases m with
    | none => cases hm
    | some m => simpa using hb
   unfold ZkR at h
   split at h
   ·rename_i s htk;obtain ⟨hs, rfl⟩ := Zbh ha;have hu := Zdj hk htk;simp only [Zp1, Zaw] at h;cases hc : (m.isNone && Nat.ble (l.getD 0) (hh.getD s.length) && Nat.ble (hh.getD s.length) s.length) with
    | false => rw [hc] at h; cases h
    | true =>
     rw [hc] at h; simp only [cond_true, Option.some.injEq] at h; subst h;simp only [Bool.and_eq_true] at hc;obtain ⟨⟨c1, c2⟩, c3⟩ := hc;have hmn : m = none := by cases m <;> simp at c1; rfl
     subst hmn;have hmx' : mx = none := by rcases Zdk hev hmx with ⟨rfl, _⟩ | ⟨_, _, _, _, h, _⟩; rfl; cases h
     subst hmx';refine ⟨_, Zdi e (fun b hb => hs b (List.mem_of_mem_take (List.mem_of_mem_drop hb))), ?_⟩
     have hbd := Zar (P := P) w hev hl hhi hmx false (bytesOf s).size (bytesOf s).size (by simp) (by simp only [Zai]; exact Zak c3) (by simp only [Zai]; exact Zak c2) (by simp)
     simp only [Option.map_none, Zai] at hbd;simp [Instr.sliceAt, Instr.slice, run_underlying hu, hbd, ZeI, Zai]
   ·rename_i el htk;simp only [cv, Option.some.injEq] at ha; subst ha;simp only [Zaw] at h;have hu := Zay hk htk;cases hc : (Nat.beq (l.getD 0) 0 && Nat.beq (hh.getD 0) 0 && Nat.beq (m.getD 0) 0 && (X.tys.get el).isSome) with
    | false => rw [hc] at h; cases h
    | true =>
     rw [hc] at h; simp only [cond_true, Option.some.injEq] at h; subst h;simp only [Bool.and_eq_true] at hc;obtain ⟨⟨⟨c1, c2⟩, c3⟩, c4⟩ := hc;have c1 := Zab c1; have c2 := Zab c2; have c3 := Zab c3;obtain ⟨ei, hel⟩ := Option.isSome_iff_exists.1 c4;have hbd := Zar (P := P) w hev hl hhi hmx true 0 0 (by omega) (by omega) (by omega) hmh
     rw [c1, c2, c3] at hbd;refine ⟨_, rfl, ?_⟩;simp [Instr.sliceAt, Instr.slice, run_underlying hu, hbd, Zae w (ok.tys el ei hel)]
   ·rename_i el b off len cap htk;have hu := Zay hk htk;obtain ⟨x, hx, rfl⟩ := Zbk ha;cases hel : X.tys.get el with
    | none => rw [hel] at h; simp [Zrd] at h
    | some ei =>
     rw [hel] at h;have hsz := Zae w (ok.tys el ei hel);cases cap with
     | fix c =>
      simp only [Zrd] at h;obtain ⟨g1, g2, g3, rfl⟩ := Zjm h;have hbd := Zar (P := P) w hev hl hhi hmx true len c g3 g2 g1 hmh;refine ⟨.slice (some ⟨x.1, if m.getD c = l.getD 0 then off else off + l.getD 0 * ei.size, none⟩) (hh.getD len - l.getD 0) (m.getD c - l.getD 0), by simp only [cv, hx, Cap.val], ?_⟩
      simp only [Instr.sliceAt, Sem.run_bind, run_underlying hu, Result.andThen_ok, Instr.slice, Cap.val, hbd, hsz, Sem.run_pure, Option.map_some, ZaE]
      congr 2
      split <;> rfl
     | opn k =>
      simp only [Zrd] at h;cases hob : H.objs.get b with
      | none => rw [hob] at h; cases m <;> simp [ZoF] at h
      | some ob =>
       rw [hob] at h;unfold ZoF at h
       split at h
       ·rename_i mm el' ro lo' hi' es' cells hob';simp only [Option.some.injEq] at hob'; subst hob';simp only [Zaw] at h;cases hc : (Nat.ble (l.getD 0) (hh.getD len) && Nat.ble (hh.getD len) mm && Nat.ble (k + mm) lo') with
        | false => rw [hc] at h; cases h
        | true =>
         rw [hc] at h; simp only [cond_true, Option.some.injEq] at h;simp only [Bool.and_eq_true] at hc;have g1 := Zak hc.1.1; have g2 := Zak hc.1.2; have g3 := Zak hc.2;obtain ⟨x', hx', c, fz, _, _, ⟨_, hlo, _⟩, _⟩ := hH.live b _ hob;rw [hx] at hx'; cases hx';subst h;have hbd := Zar (P := P) w hev hl hhi hmx true len (x.2 - k) (by simp; omega) (by simpa using g2) g1 hmh
         simp only [Option.getD_some] at hbd;refine ⟨.slice (some ⟨x.1, if mm = l.getD 0 then off else off + l.getD 0 * ei.size, none⟩) (hh.getD len - l.getD 0) (mm - l.getD 0), ?_, ?_⟩
         ·simp only [cv, hx, Cap.val]
          congr 4
          by_cases e1 : mm = l.getD 0
          ·rw [ZbK e1, if_pos e1]; rfl
          ·rw [Zbx e1, if_neg e1]; rfl
         ·simp only [Instr.sliceAt, Sem.run_bind, run_underlying hu, Result.andThen_ok, Instr.slice, Cap.val, hbd, hsz, Sem.run_pure, Option.map_some, ZaE]
          congr 2
          split <;> rfl
       ·rename_i el' ro lo' hi' es' cells hob';simp only [Option.some.injEq] at hob'; subst hob';simp only [Zaw] at h;cases hce : (ZoE hi' (k + l.getD 0) && Nat.beq (hh.getD len) (l.getD 0) && Nat.ble (k + l.getD 0) lo') with
        | true =>
         rw [hce] at h; simp only [cond_true, Option.some.injEq] at h;simp only [Bool.and_eq_true] at hce;have g1 := Zab hce.1.2; have g2 := Zak hce.2;obtain ⟨x', hx', c, fz, _, _, ⟨_, hlo, hhi2⟩, _⟩ := hH.live b _ hob;rw [hx] at hx'; cases hx';subst h;have hk2 : x.2 = k + l.getD 0 := by
          have h1 := hce.1.1;unfold ZoE at h1
          split at h1
          ·have := Zab h1;have := hhi2 _ rfl;omega
          ·cases h1
         have hbd := Zar (P := P) w hev hl hhi hmx true len (x.2 - k) (by simp) (by simp; omega) (by omega) hmh
         simp only [Option.getD_none] at hbd;refine ⟨.slice (some ⟨x.1, off, none⟩) 0 0, by simp only [cv, hx, Cap.val], ?_⟩
         simp only [Instr.sliceAt, Sem.run_bind, run_underlying hu, Result.andThen_ok, Instr.slice, Cap.val, hbd, hsz, Sem.run_pure, Option.map_some, ZaE];rw [if_pos (by omega)]
         congr 2 <;> omega
        | false =>
        rw [hce] at h; simp only [cond_false, Zn7, Zaw] at h;cases hc : (Nat.ble (l.getD 0) (hh.getD len) && Nat.ble (k + hh.getD len) lo' && (Nat.blt (k + l.getD 0) lo' || Nat.beq (l.getD 0) 0)) with
        | false => rw [hc] at h; cases h
        | true =>
         rw [hc] at h; simp only [cond_true, Option.some.injEq] at h;simp only [Bool.and_eq_true, Bool.or_eq_true] at hc;have g1 := Zak hc.1.1; have g2 := Zak hc.1.2;obtain ⟨x', hx', c, fz, _, _, ⟨_, hlo, _⟩, _⟩ := hH.live b _ hob;rw [hx] at hx'; cases hx';subst h;have hbd := Zar (P := P) w hev hl hhi hmx true len (x.2 - k) (by simp) (by simp; omega) g1 hmh
         simp only [Option.getD_none] at hbd;refine ⟨.slice (some ⟨x.1, off + l.getD 0 * ei.size, none⟩) (hh.getD len - l.getD 0) (x.2 - (k + l.getD 0)), by simp only [cv, hx, Cap.val], ?_⟩
         simp only [Instr.sliceAt, Sem.run_bind, run_underlying hu, Result.andThen_ok, Instr.slice, Cap.val, hbd, hsz, Sem.run_pure, Option.map_some, ZaE]
         congr 2
         ·by_cases e1 : x.2 - k = l.getD 0
          ·rw [if_pos e1];rcases hc.2 with h1 | h1
           ·have := ZaF h1; omega
           ·rw [Zab h1]; simp
          ·rw [if_neg e1]
         ·omega
       ·cases h
   ·rename_i n el b off htk;have hu := Zfz hk htk;obtain ⟨x, hx, rfl⟩ := Zbz ha;cases hel : X.tys.get el with
    | none => rw [hel] at h; simp [ZoG] at h
    | some ei =>
     rw [hel] at h;have hsz := Zae w (ok.tys el ei hel);simp only [ZoG] at h;obtain ⟨g1, g2, g3, rfl⟩ := Zjm h;have hbd := Zar (P := P) w hev hl hhi hmx false n n g3 g2 g1 hmh;refine ⟨.slice (some ⟨x.1, if m.getD n = l.getD 0 then off else off + l.getD 0 * ei.size, none⟩) (hh.getD n - l.getD 0) (m.getD n - l.getD 0), by simp only [cv, hx, Cap.val], ?_⟩
     simp only [Instr.sliceAt, Sem.run_bind, run_underlying hu, Result.andThen_ok, Instr.sureAddr, hbd, hsz, Sem.run_pure, ZaE]
     congr 3
     split <;> rfl
   ·cases h
 ·cases h
theorem ZeJ {ev : Operand → Option AV} {ρ : Operand → Value} (hev : Ze9 e ev ρ) {args : Array Operand} {v : AV} (h : ZbF ev args.toList = some [v]) : ∃ y, cv e v = some y ∧ args.map ρ = #[y] := by
 have := ZbA hev h;obtain ⟨y, z, hy, hz, he⟩ := Zap this;simp only [cvs, Option.some.injEq] at hz; subst hz;refine ⟨y, hy, ?_⟩;apply Array.ext';simpa using he
include ok in
theorem Zm2 {ev : Operand → Option AV} {ρ : Operand → Value} (hev : Ze9 e ev ρ) {args : Array Operand} {ts : Array TypeId} {v : AV} (h : Zro X (ty0 X ts 0) (ZbF ev args.toList) = some v) (ty : TypeId) :
 ∃ y, cv e v = some y ∧ (Builtin.len_ ts ty (args.map ρ)).run P w = .ok y w := by
 unfold Zro at h
 split at h
 ·rename_i ti a h0 ha;obtain ⟨y, hy, hargs⟩ := ZeJ hev ha;unfold ty0 at h0;cases ht0 : ts[0]? with
  | none => rw [ht0] at h0; cases h0
  | some t =>
   rw [ht0] at h0;simp only at h0;have hk := ok.tys t ti h0;rw [hargs];unfold Zp5 at h
   split at h
   ·rename_i s htk;obtain ⟨_, rfl⟩ := Zbh hy;simp only [Option.some.injEq] at h; subst h;exact ⟨_, rfl, by simp [Builtin.len_, ht0, run_underlying (Zdj hk htk), goInt, Zai]⟩
   ·rename_i n el htk;simp only [Option.some.injEq] at h; subst h;exact ⟨_, rfl, by simp [Builtin.len_, ht0, run_underlying (Zfz hk htk), goInt]⟩
   ·rename_i el htk;unfold Zn8 at h
    split at h
    ·rename_i n el' size bytes zero cmp heq;simp only [Option.some.injEq] at h; subst h;exact ⟨_, rfl, by simp [Builtin.len_, ht0, run_underlying (Zqs hk htk), run_underlying (Zfz (ok.tys el _ heq) rfl), goInt]⟩
    ·cases h
   ·rename_i el htk;simp only [cv, Option.some.injEq] at hy; subst hy;simp only [Option.some.injEq] at h; subst h;exact ⟨_, rfl, by simp [Builtin.len_, ht0, run_underlying (Zay hk htk), goInt]⟩
   ·rename_i el b off n c htk;obtain ⟨x, hx, rfl⟩ := Zbk hy;simp only [Option.some.injEq] at h; subst h;exact ⟨_, rfl, by simp [Builtin.len_, ht0, run_underlying (Zay hk htk), goInt]⟩
   ·cases h
 ·cases h
include ok in
theorem Zm3 {ev : Operand → Option AV} {ρ : Operand → Value} (hev : Ze9 e ev ρ) {args : Array Operand} {ts : Array TypeId} {v : AV} (h : Zrp (ty0 X ts 0) (ZbF ev args.toList) = some v) (ty : TypeId) :
 ∃ y, cv e v = some y ∧ (Builtin.cap_ ts ty (args.map ρ)).run P w = .ok y w := by
 unfold Zrp at h
 split at h
 ·rename_i ti a h0 ha;obtain ⟨y, hy, hargs⟩ := ZeJ hev ha;unfold ty0 at h0;cases ht0 : ts[0]? with
  | none => rw [ht0] at h0; cases h0
  | some t =>
   rw [ht0] at h0;simp only at h0;have hk := ok.tys t ti h0;rw [hargs];unfold Zp6 at h
   split at h
   ·rename_i el htk;simp only [cv, Option.some.injEq] at hy; subst hy;simp only [Option.some.injEq] at h; subst h;exact ⟨_, rfl, by simp [Builtin.cap_, ht0, run_underlying (Zay hk htk), goInt]⟩
   ·rename_i el b off n c htk;obtain ⟨x, hx, rfl⟩ := Zbk hy;simp only [Option.some.injEq] at h; subst h;exact ⟨_, rfl, by simp [Builtin.cap_, ht0, run_underlying (Zay hk htk), goInt, Cap.val]⟩
   ·rename_i el b off n k htk;obtain ⟨x, hx, rfl⟩ := Zbk hy;simp only [Option.some.injEq] at h; subst h;exact ⟨.int .i64 ((x.2 - k : Nat) : Int), by simp only [cv, hx], by simp [Builtin.cap_, ht0, run_underlying (Zay hk htk), goInt, Cap.val]⟩
   ·cases h
 ·cases h
theorem Zm4 : ∀ (l : List AV) (us : List Value) (a v : AV) (y : Value), cvs e l = some us → cv e a = some y → Zp2 a l = some v → ∃ z, cv e v = some z ∧ (us.foldlM Builtin.min2 y).run P w = .ok z w := by
 intro l
 induction l with
 | nil => intro us a v y hl ha h; simp only [cvs, Option.some.injEq] at hl; subst hl; simp only [Zp2, Option.some.injEq] at h; subst h; exact ⟨y, ha, by simp⟩
 | cons b l ih =>
  intro us a v y hl ha h;obtain ⟨p, q, hp, hq, rfl⟩ := Zap hl;unfold Zp2 at h
  split at h
  ·rename_i heq; cases heq
  ·rename_i k x k' y' r heq;injection heq with h1 h2;subst h1; subst h2;cases Za8 ha; cases Za8 hp;simp only [Zaw, Zg3] at h;cases hk : kEq k k' with
   | false => rw [hk] at h; cases h
   | true =>
    rw [hk] at h; simp only [cond_true] at h;obtain ⟨z, hz, hr⟩ := ih q _ v _ hq rfl h;refine ⟨z, hz, ?_⟩;simp only [List.foldlM_cons, Sem.run_bind, Builtin.min2, Sem.run_pure, Result.andThen_ok];rw [← hr]
    congr 3
    by_cases hlt : y' < x
    ·rw [if_pos hlt, decide_eq_true hlt]; rfl
    ·rw [if_neg hlt, decide_eq_false hlt]; rfl
  ·cases h
theorem Zm5 : ∀ (l : List AV) (us : List Value) (a v : AV) (y : Value), cvs e l = some us → cv e a = some y → Zp3 a l = some v → ∃ z, cv e v = some z ∧ (us.foldlM Builtin.max2 y).run P w = .ok z w := by
 intro l
 induction l with
 | nil => intro us a v y hl ha h; simp only [cvs, Option.some.injEq] at hl; subst hl; simp only [Zp3, Option.some.injEq] at h; subst h; exact ⟨y, ha, by simp⟩
 | cons b l ih =>
  intro us a v y hl ha h;obtain ⟨p, q, hp, hq, rfl⟩ := Zap hl;unfold Zp3 at h
  split at h
  ·rename_i heq; cases heq
  ·rename_i k x k' y' r heq;injection heq with h1 h2;subst h1; subst h2;cases Za8 ha; cases Za8 hp;simp only [Zaw, Zg3] at h;cases hk : kEq k k' with
   | false => rw [hk] at h; cases h
   | true =>
    rw [hk] at h; simp only [cond_true] at h;obtain ⟨z, hz, hr⟩ := ih q _ v _ hq rfl h;refine ⟨z, hz, ?_⟩;simp only [List.foldlM_cons, Sem.run_bind, Builtin.max2, Sem.run_pure, Result.andThen_ok];rw [← hr]
    congr 3
    by_cases hlt : x < y'
    ·rw [if_pos (show y' > x from hlt), decide_eq_true hlt]; rfl
    ·rw [if_neg (show ¬ y' > x from hlt), decide_eq_false hlt]; rfl
  ·cases h
theorem ZaW {s : Sem Value} {y : Value} (h : s.run P w = .ok y w) : (do pure (Next.value (← s)) : Sem Next).run P w = .ok (.value y) w := by
 rw [Sem.run_bind, h]; rfl
include ok hH in
theorem Zib {ev : Operand → Option AV} {ρ : Operand → Value} (hev : Ze9 e ev ρ) (o : Oper) {v : AV} (h : qop X ev H o.op = some v) :
 ∃ y, cv e v = some y ∧ (execOp ρ o).run P w = .ok (.value y) w := by
 unfold qop at h
 split at h
 ·rename_i x ho; exact ⟨_, hev _ _ h, by simp only [execOp, ho]; rfl⟩
 ·rename_i x ho; exact ⟨_, hev _ _ h, by simp only [execOp, ho]; rfl⟩
 ·rename_i c a b ho;cases hc : ev c with
  | none => rw [hc] at h; simp [ZkU] at h
  | some vc =>
   rw [hc] at h;have hcc := hev _ _ hc;cases vc with
   | bool t =>
    have hρ := Zck hcc;cases t with
    | true => simp only [ZkU] at h; exact ⟨_, hev _ _ h, by simp only [execOp, ho, hρ]; rfl⟩
    | false => simp only [ZkU] at h; exact ⟨_, hev _ _ h, by simp only [execOp, ho, hρ]; rfl⟩
   | _ => simp [ZkU] at h
 ·rename_i t a ho;cases ha : ev a with
  | none => rw [ha] at h; simp [ZkV] at h
  | some va =>
   rw [ha] at h;obtain ⟨y, hy, hr⟩ := ZlE ok w hH (hev _ _ ha) h;exact ⟨y, hy, by simp only [execOp, ho]; exact ZaW w hr⟩
 ·rename_i x ho;cases hx : ev x with
  | none => rw [hx] at h; simp [ZbY] at h
  | some vx =>
   rw [hx] at h;have hc := hev _ _ hx;cases vx with
   | ptr b off =>
    simp only [ZbY, Option.some.injEq] at h; subst h;obtain ⟨y, hy, hρ⟩ := Zbz hc;exact ⟨_, hc, by simp only [execOp, ho, hρ]; rfl⟩
   | fn f a b =>
    simp only [ZbY, Option.some.injEq] at h; subst h;obtain ⟨y, z, _, _, hρ⟩ := Zg5 hc;exact ⟨_, hc, by simp only [execOp, ho, hρ]; rfl⟩
   | yld l =>
    simp only [ZbY, Option.some.injEq] at h; subst h;obtain ⟨y, _, hρ⟩ := ZeE hc;exact ⟨_, hc, by simp only [execOp, ho, hρ]; rfl⟩
   | _ => simp [ZbY] at h
 ·rename_i op t x y yt ho;cases hx : ev x with
  | none => rw [hx] at h; simp [Zrn] at h
  | some vx =>
   cases hy : ev y with
   | none => rw [hx, hy] at h; simp [Zrn] at h
   | some vy =>
    rw [hx, hy] at h;obtain ⟨z, hz, hr⟩ := Zm0 ok w h (hev _ _ hx) (hev _ _ hy) x y;exact ⟨z, hz, by simp only [execOp, ho]; exact ZaW w hr⟩
 ·rename_i op t x ho;cases hx : ev x with
  | none => rw [hx] at h; simp [qUn] at h
  | some vx =>
   rw [hx] at h;have hc := hev _ _ hx;simp only [qUn] at h;unfold unA at h
   split at h
   ·simp only [Option.some.injEq] at h; subst h;have hρ := Zck hc;exact ⟨_, rfl, by simp only [execOp, ho, hρ]; rfl⟩
   ·simp only [Option.some.injEq] at h; subst h;have hρ := Za8 hc;refine ⟨_, rfl, ?_⟩;simp only [execOp, ho, hρ];exact ZaW w (by simp only [Op.unary, Op.intArith, ZbN, ZlB]; rfl)
   ·cases h
 ·rename_i s d x ho;cases hx : ev x with
  | none => rw [hx] at h; unfold Zcv at h; split at h <;> simp_all
  | some vx =>
   rw [hx] at h;obtain ⟨y, hy, hr⟩ := Zg7 ok w hH (hev _ _ hx) h;exact ⟨y, hy, by simp only [execOp, ho]; exact ZaW w hr⟩
 ·rename_i t x ho;cases hx : ev x with
  | none => rw [hx] at h; unfold ZgE at h; split at h <;> simp_all
  | some vx =>
   rw [hx] at h;obtain ⟨y, hy, hr⟩ := Zj5 ok w (hev _ _ hx) h;exact ⟨y, hy, by simp only [execOp, ho]; exact ZaW w hr⟩
 ·rename_i fn first captured ho
  unfold ZgK at h
  split at h
  ·rename_i f;unfold Zp4 at h
   split at h
   ·rename_i a b ha hb;simp only [Option.some.injEq] at h; subst h;have h1 := ZbA hev ha;have h2 := ZbA hev hb;refine ⟨.func (.func f) (first.map ρ) (captured.map ρ), ?_, by simp only [execOp, ho]; rfl⟩
    simp only [cv, h1, h2]
    congr 2 <;> (apply Array.ext'; simp)
   ·cases h
  ·cases h
 ·rename_i t parts ho;obtain ⟨y, hy, hr⟩ := Zj6 ok w hev h;exact ⟨y, hy, by simp only [execOp, ho]; exact ZaW w hr⟩
 ·rename_i s x f ho;cases hx : ev x with
  | none => rw [hx] at h; unfold Zbo at h; split at h <;> simp_all
  | some vx =>
   rw [hx] at h;obtain ⟨y, hy, hr⟩ := Zfd ok w (hev _ _ hx) h;exact ⟨y, hy, by simp only [execOp, ho]; exact ZaW w hr⟩
 ·rename_i s x f ho;cases hx : ev x with
  | none => rw [hx] at h; unfold Zfh at h; split at h <;> simp_all
  | some vx =>
   rw [hx] at h;obtain ⟨y, hy, hr⟩ := Zj7 ok w (hev _ _ hx) h;exact ⟨y, hy, by simp only [execOp, ho]; exact ZaW w hr⟩
 ·rename_i t x ix ho;cases hx : ev x with
  | none => rw [hx] at h; unfold ZbZ at h; split at h <;> simp_all
  | some vx =>
   cases hi : ev ix with
   | none => rw [hi] at h; unfold ZbZ at h; split at h <;> simp_all
   | some vi =>
    rw [hx, hi] at h;obtain ⟨y, hy, hr⟩ := Zfe ok w (hev _ _ hx) (hev _ _ hi) h;exact ⟨y, hy, by simp only [execOp, ho]; exact ZaW w hr⟩
 ·rename_i t x ix ho;cases hx : ev x with
  | none => rw [hx] at h; unfold ZgJ at h; split at h <;> simp_all
  | some vx =>
   cases hi : ev ix with
   | none => rw [hi] at h; unfold ZgJ at h; split at h <;> simp_all
   | some vi =>
    rw [hx, hi] at h;obtain ⟨y, hy, hr⟩ := Zj8 ok w (hev _ _ hx) (hev _ _ hi) h;exact ⟨y, hy, by simp only [execOp, ho]; exact ZaW w hr⟩
 ·rename_i t x lo hi mx ho;cases hx : ev x with
  | none => rw [hx] at h; simp [Zk0] at h
  | some vx =>
   rw [hx] at h;simp only [Zk0] at h;obtain ⟨y, hy, hr⟩ := Zj9 ok w hH hev (hev _ _ hx) h;exact ⟨y, hy, by simp only [execOp, ho]; exact ZaW w hr⟩
 ·rename_i x i ho;cases hx : ev x with
  | none => rw [hx] at h; simp [Zc8] at h
  | some vx =>
   rw [hx] at h;obtain ⟨y, hy, hr⟩ := Zg9 (P := P) w (hev _ _ hx) h;exact ⟨y, hy, by simp only [execOp, ho]; exact ZaW w hr⟩
 ·rename_i c ho;obtain ⟨callee, args, ts⟩ := c;simp only at h;cases callee with
  | builtin b =>
   simp only [ZoJ] at h;have key : ∀ {s : Sem Value} {y : Value}, (∀ cs, builtin b ts o.type cs (args.map ρ) = do pure (Next.value (← s))) → s.run P w = .ok y w → (execOp ρ o).run P w = .ok (.value y) w := by
    intro s y hs hr;simp only [execOp, ho, resolve, Sem.run_bind, Sem.run_pure, Result.andThen_ok, invoke];rw [hs _]; exact ZaW w hr
   unfold ZiS at h
   split at h
   ·obtain ⟨y, hy, hr⟩ := Zm2 ok w hev h o.type;exact ⟨y, hy, key (fun _ => rfl) hr⟩
   ·obtain ⟨y, hy, hr⟩ := Zm3 ok w hev h o.type;exact ⟨y, hy, key (fun _ => rfl) hr⟩
   ·unfold ZrN at h
    split at h
    ·rename_i a r ha;have hc := ZbA hev ha;obtain ⟨p, q, hp, hq, he⟩ := Zap hc;obtain ⟨z, hz, hr⟩ := Zm4 (P := P) w r q a v p hq hp h;refine ⟨z, hz, key (fun _ => rfl) ?_⟩
     simp only [Builtin.min_];have : (args.map ρ).toList = p :: q := by simpa using he
     rw [this]; exact hr
    ·cases h
   ·unfold ZrO at h
    split at h
    ·rename_i a r ha;have hc := ZbA hev ha;obtain ⟨p, q, hp, hq, he⟩ := Zap hc;obtain ⟨z, hz, hr⟩ := Zm5 (P := P) w r q a v p hq hp h;refine ⟨z, hz, key (fun _ => rfl) ?_⟩
     simp only [Builtin.max_];have : (args.map ρ).toList = p :: q := by simpa using he
     rw [this]; exact hr
    ·cases h
   ·cases h
  | _ => simp [ZoJ] at h
 ·cases h
end
end
end Go.X
