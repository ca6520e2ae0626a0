/- Walks 12. -/
import Derived.Test.YtjadmbkmlehfdaaGreatDoorProg
import Derived.Test.YtjadmbkmlehfdaaGreatDoorK10
import Derived.Test.YtjadmbkmlehfdaaGreatDoorK2
import Derived.Test.YtjadmbkmlehfdaaGreatDoorK11
set_option linter.unusedVariables false
set_option linter.unusedSimpArgs false
set_option maxRecDepth 100000
namespace Go.M
open Go.Proofs Go.RowKit Go.Shelf
structure IdxS where
 O : Nat
 S : Nat
 c : Nat
 tS : TypeId
 cS : Array Value
 mv : Value
 mn : Nat
 key : Nat → ByteArray
 val : Nat → Value
 sv : Nat → Value
 es : Nat → List Ent
 kz : Nat → List Ent
structure IdxIn (w : World) (col : Col) (q X n next used : Nat) (lens : Nat → Nat) (zm : Nat) (s : IdxS) : Prop where
 fX : ∃ t, Has w X t #[.pointer (some ⟨s.O, 0, none⟩), .slice (some ⟨s.S, 0, none⟩) n s.c]
 fS : Has w s.S s.tS s.cS
 fs : ∀ i, i < n → s.cS[i]? = some (s.sv i)
 fM : OMap w s.O s.mv s.mn s.key s.val
 mn : s.mn < next
 own : ∀ i, i < n → w.ownsRow 0 47 6 (s.sv i) (s.es i).length (rowOf (s.es i))
 len : ∀ i, i < n → (s.es i).length < next
 ent : ∀ i, i < n → ∀ x ∈ s.es i, 1 ≤ x.seq ∧ x.seq < next ∧ x.off + x.size ≤ lens i ∧ x.off < lens i ∧ x.size ≤ zm ∧ EntOk1 x
 uni : ∀ i, i < n → ∀ x ∈ s.es i, ∀ j, j < n → ∀ y ∈ s.es j, x.seq = y.seq → x = y
 ne : ∀ i, i < n → i < used → s.es i ≠ []
 kv : ∀ r, r < s.mn → w.ownsRow 0 47 6 (s.val r) (s.kz r).length (rowOf (s.kz r)) ∧ (s.kz r).length < next ∧ (∀ x ∈ s.kz r, x.seq < next) ∧ ∀ b, (s.val r).ownBlock = some b → col b = (q, 4)
 cX : col X = (q, 0)
 cO : col s.O = (q, 1)
 cS : col s.S = (q, 2)
 cm : ∀ b, s.mv.ownBlock = some b → col b = (q, 3)
 cv : ∀ i, i < n → ∀ b, (s.sv i).ownBlock = some b → col b = (q, 5 + i)
 hi : n ≤ 10
 few : next ≤ 100
 con : Con n s.mn s.key s.kz s.es
def IdxAt (w : World) (col : Col) (q X n next used : Nat) (lens : Nat → Nat) (zm : Nat) : Prop := ∃ s, IdxIn w col q X n next used lens zm s
theorem own_lt {w : World} {e : TypeId} {size n b : Nat} {v : Value} {xs : List Value} (own : w.ownsRow 0 e size v n xs) (hb : v.ownBlock = some b) : b < w.heap.size := (own.lt _ hb).2
theorem IdxIn.other {w w' : World} {col col' : Col} {q X n next used : Nat} {lens : Nat → Nat} {zm : Nat} {s : IdxS} (h : IdxIn w col q X n next used lens zm s) {F : Nat → Prop} (U : Upd F w w') (hF : ∀ b, F b → (col b).1 ≠ q) (hc : Kept w col col') : IdxIn w' col' q X n next used lens zm s := by
 obtain ⟨⟨t, fX⟩, fS, fs, fM, mn, own, len, ent, uni, ne, kv, cX, cO, cS, cm, cv, hi, few, con⟩ := h
 have nF : ∀ b k, col b = (q, k) → ¬ F b := fun b k hb h => hF b h (by rw [hb])
 obtain ⟨tO, hO⟩ := fM.made
 refine ⟨⟨t, U.has fX (nF _ _ cX)⟩, U.has fS (nF _ _ cS), fs, fM.upd U (nF _ _ cO) (fun b hb => nF _ _ (cm b hb)), mn, fun i hi => Upd.own U (own i hi) (fun b hb => nF _ _ (cv i hi b hb)), len, ent, uni, ne, fun r hr => ?_, by rw [hc _ fX.lt, cX], by rw [hc _ hO.lt, cO], by rw [hc _ fS.lt, cS], fun b hb => by rw [hc _ (own_lt fM.own hb), cm b hb], fun i hi b hb => by rw [hc _ (own_lt (own i hi) hb), cv i hi b hb], hi, few, con⟩
 obtain ⟨h1, h2, h3, h4⟩ := kv r hr
 exact ⟨Upd.own U h1 (fun b hb => nF _ _ (h4 b hb)), h2, h3, fun b hb => by rw [hc _ (own_lt h1 hb), h4 b hb]⟩
theorem IdxAt.other {w w' : World} {col col' : Col} {q X n next used : Nat} {lens : Nat → Nat} {zm : Nat} (h : IdxAt w col q X n next used lens zm) {F : Nat → Prop} (U : Upd F w w') (hF : ∀ b, F b → (col b).1 ≠ q) (hc : Kept w col col') : IdxAt w' col' q X n next used lens zm := by
 obtain ⟨s, h⟩ := h
 exact ⟨s, h.other U hF hc⟩
theorem IdxAt.mono {w : World} {col : Col} {q X n next used : Nat} {lens lens' : Nat → Nat} {zm : Nat} (h : IdxAt w col q X n next used lens zm) (hl : ∀ i, i < n → lens i ≤ lens' i) : IdxAt w col q X n next used lens' zm := by
 obtain ⟨s, ⟨fX, fS, fs, fM, mn, own, len, ent, uni, ne, kv, cX, cO, cS, cm, cv, hi, few, con⟩⟩ := h
 exact ⟨s, ⟨fX, fS, fs, fM, mn, own, len, fun i hi x hx => by obtain ⟨a1, a2, a3, a4, a5, a6⟩ := ent i hi x hx; have := hl i hi; exact ⟨a1, a2, by omega, by omega, a5, a6⟩, uni, ne, kv, cX, cO, cS, cm, cv, hi, few, con⟩⟩
def paintIdx (col : Col) (q slot : Nat) (L : Nat) (sv mv v5 : Value) : Col := fun b => if b < L then col b else if sv.ownBlock = some b then (q, 5 + slot) else if mv.ownBlock = some b then (q, 3) else if v5.ownBlock = some b then (q, 4) else col b
theorem idx_add {w : World} {col : Col} {q X n next used : Nat} {lens : Nat → Nat} {zm : Nat} {e : Ent} (h : IdxAt w col q X n next used lens zm) (hs : e.slot < n) (hu : e.slot ≤ used) (hq : e.seq = next) (ho : lens e.slot ≤ e.off) (hok : EntOk1 e) (hzm : e.size ≤ zm) (hf : next < 100) :
 Calls Tryz.prog 64 #[.pointer (some ⟨X, 0, none⟩), e.val] w fun en w' => en = .returned (.int .i64 0) ∧
  ∃ col', IdxAt w' col' q X n (next + 1) (max used (e.slot + 1)) (fun i => if i = e.slot then e.off + e.size else lens i) zm ∧ Upd (fun b => (col b).1 = q) w w' ∧ Kept w col col' := by
 obtain ⟨s, ⟨⟨tX, fX⟩, fS, fs, fM, mn, own, len, ent, uni, ne, kv, cX, cO, cS, cm, cv, hi, few, con⟩⟩ := h
 obtain ⟨tO, hO⟩ := fM.made
 have hap : AddApart X s.O s.S s.mn s.mv (s.sv e.slot) s.val := by
  have nb : ∀ {a b : Nat} {i j : Nat}, col a = (q, i) → col b = (q, j) → i ≠ j → a ≠ b := fun h1 h2 h3 => col_ne h1 h2 (by simpa using h3)
  refine ⟨nb cX cS (by omega), nb cX cO (by omega), nb cS cO (by omega), fun h => ?_, fun h => ?_, fun h => ?_, fun h => ?_, fun h => ?_, fun h => ?_, fun b h1 h2 => ?_, fun r hr h => ?_, fun r hr h => ?_, fun r hr b h1 h2 => ?_, fun r hr b h1 h2 => ?_⟩
  ·have := cv _ hs _ h; rw [cX] at this; simp at this; omega
  ·have := cv _ hs _ h; rw [cS] at this; simp at this; omega
  ·have := cv _ hs _ h; rw [cO] at this; simp at this; omega
  ·have := cm _ h; rw [cX] at this; simp at this
  ·have := cm _ h; rw [cS] at this; simp at this
  ·have := cm _ h; rw [cO] at this; simp at this
  ·have := cm _ h1; rw [cv _ hs _ h2] at this; simp at this; omega
  ·obtain ⟨_, _, _, h4⟩ := kv r hr; have := h4 _ h; rw [cS] at this; simp at this
  ·obtain ⟨_, _, _, h4⟩ := kv r hr; have := h4 _ h; rw [cO] at this; simp at this
  ·obtain ⟨_, _, _, h4⟩ := kv r hr; have := h4 _ h1; rw [cv _ hs _ h2] at this; simp at this; omega
  ·obtain ⟨_, _, _, h4⟩ := kv r hr; have := h4 _ h1; rw [cm _ h2] at this; simp at this
 have hE : ∀ r, r < s.mn → ∃ zs : List {x : Ent // Fit e x}, zs.length ≤ next - 1 ∧ EntsB w.heap.size w (s.val r) zs ∧ (fun (r : Nat) (l : List Ent) => l = s.kz r) r (zs.map (·.1)) := fun r hr => by
  obtain ⟨h1, h2, h3, h4⟩ := kv r hr
  have hz := withQ_map (fun x => Fit e x) (s.kz r) (fun x hx hqq => absurd hqq (by have := h3 x hx; omega))
  exact ⟨withQ _ (s.kz r) _, by rw [← List.length_map (f := (·.1)), hz]; omega, EntsB.of_own h1 _ hz, hz⟩
 refine (iadd (Q := fun r l => l = s.kz r) (L := next - 1) (by omega) fX fS (fs _ hs) hs hi fM hE (fun r hr l hl => by subst hl; exact (con.ord r hr).imp (fun h1 h2 => before_trans h1 h2)) (own _ hs) (by have := len _ hs; omega) (fun x hx => by have := ent _ hs x hx; omega) hok hap (by omega)).mono ?_
 rintro en w' ⟨rfl, sv', mv', v5, mn', key', val', zs, rk, U, fS', own', hfr, fM', hfm, hmn, ⟨h5, hz1, ⟨hpl, hft⟩, hf5⟩, hd1, hd2, hdesc, hzz⟩
 obtain ⟨kz', hv, D2, D3, D4⟩ := hdesc.content con.inj s.kz (zs.take rk ++ e :: zs.drop rk)
 have hcon := con.add hs hpl hft (fun x hx => by have := (ent _ hs x hx).2.1; omega) hzz (fun i hi => (hv i hi).imp (fun h => h.2) (fun ⟨j, a, b, _, c⟩ => ⟨j, a, b, c⟩)) D2 D3 D4
 have hG : ∀ b, (b = s.O ∨ b = s.S ∨ (s.sv e.slot).ownBlock = some b ∨ s.mv.ownBlock = some b) → (col b).1 = q := fun b h => by
  rcases h with rfl | rfl | h | h
  ·rw [cO]
  ·rw [cS]
  ·rw [cv _ hs b h]
  ·rw [cm b h]
 have nG : ∀ b k, col b = (q, k) → k ≠ 1 → k ≠ 2 → k ≠ 3 → k ≠ 5 + e.slot → ¬ (b = s.O ∨ b = s.S ∨ (s.sv e.slot).ownBlock = some b ∨ s.mv.ownBlock = some b) := fun b k hb h1 h2 h3 h4 h => by
  rcases h with rfl | rfl | h | h
  ·rw [cO] at hb; simp at hb; omega
  ·rw [cS] at hb; simp at hb; omega
  ·have := cv _ hs b h; rw [hb] at this; simp at this; omega
  ·have := cm b h; rw [hb] at this; simp at this; omega
 have kL : ∀ b, b < w.heap.size → paintIdx col q e.slot w.heap.size sv' mv' v5 b = col b := fun b hb => by unfold paintIdx; rw [if_pos hb]
 refine ⟨rfl, paintIdx col q e.slot w.heap.size sv' mv' v5, ⟨{ s with cS := s.cS.setIfInBounds e.slot sv', mv := mv', mn := mn', key := key', val := val', sv := fun i => if i = e.slot then sv' else s.sv i, es := fun i => if i = e.slot then s.es i ++ [e] else s.es i, kz := kz' }, ⟨tX, U.has fX (nG _ _ cX (by omega) (by omega) (by omega) (by omega))⟩, fS', fun i hi => ?_, fM', by show mn' < next + 1; omega, fun i hi => ?_, fun i hi => ?_, fun i hi x hx => ?_, fun i hi x hx j hj y hy hq2 => ?_, fun i hi hiu => ?_, fun r hr => ?_, by rw [kL _ fX.lt, cX], by show paintIdx col q e.slot w.heap.size sv' mv' v5 s.O = _; rw [kL _ hO.lt, cO], by show paintIdx col q e.slot w.heap.size sv' mv' v5 s.S = _; rw [kL _ fS.lt, cS], fun b hb => ?_, fun i hi b hb => ?_, hi, by omega, hcon⟩, U.mono (fun b _ => hG b), fun b hb => kL b hb⟩
 ·have hlt : e.slot < s.cS.size := by have := fs _ hs; exact (Array.getElem?_eq_some_iff.1 this).1
  by_cases hie : i = e.slot
  ·subst hie
   simp [hlt]
  ·simp only [if_neg hie]
   rw [Array.getElem?_setIfInBounds_ne (fun h => hie h.symm)]
   exact fs i hi
 ·by_cases hie : i = e.slot
  ·subst hie
   simp only [if_true]
   rw [List.length_append]
   exact own'
  ·simp only [if_neg hie]
   exact Upd.own U (own i hi) (fun b hb => nG _ _ (cv i hi b hb) (by omega) (by omega) (by omega) (by omega))
 ·by_cases hie : i = e.slot
  ·simp only [if_pos hie, List.length_append, List.length_cons, List.length_nil]
   have := len i hi
   omega
  ·simp only [if_neg hie]
   have := len i hi
   omega
 ·by_cases hie : i = e.slot
  ·subst hie
   simp only [if_true] at hx ⊢
   rcases List.mem_append.1 hx with hx | hx
   ·obtain ⟨a1, a2, a3, a4, a5, a6⟩ := ent _ hs x hx
    exact ⟨a1, by omega, by omega, by omega, a5, a6⟩
   ·simp at hx
    subst hx
    have h1 := hok.s1
    have h2 := hok.z1
    exact ⟨h1, by omega, by omega, by omega, hzm, hok⟩
  ·simp only [if_neg hie] at hx ⊢
   obtain ⟨a1, a2, a3, a4, a5, a6⟩ := ent i hi x hx
   exact ⟨a1, by omega, a3, a4, a5, a6⟩
 ·have hnew : ∀ i, i < n → ∀ x ∈ (if i = e.slot then s.es i ++ [e] else s.es i), x = e ∨ x ∈ s.es i := fun i _ x hx => by
   split at hx
   ·rcases List.mem_append.1 hx with hx | hx
    ·exact .inr hx
    ·simp at hx; exact .inl hx
   ·exact .inr hx
  rcases hnew i hi x hx with h1 | hx2
  ·rcases hnew j hj y hy with h2 | hy2
   ·rw [h1, h2]
   ·have := (ent j hj y hy2).2.1; rw [h1] at hq2; omega
  ·rcases hnew j hj y hy with h2 | hy2
   ·have := (ent i hi x hx2).2.1; rw [h2] at hq2; omega
   ·exact uni i hi x hx2 j hj y hy2 hq2
 ·by_cases hie : i = e.slot
  ·simp [if_pos hie]
  ·simp only [if_neg hie]
   exact ne i hi (by omega)
 ·rcases hv r hr with ⟨h1, -, hk⟩ | ⟨j, hj, -, h1, -, hk⟩
  ·refine ⟨by show w'.ownsRow 0 _ 6 (val' r) (kz' r).length (rowOf (kz' r)); rw [h1, hk, ins_length hpl.1]; exact h5, by show (kz' r).length < _; rw [hk, ins_length hpl.1]; omega, fun x hx => ?_, fun b hb => ?_⟩
   ·replace hx : x ∈ zs.take rk ++ e :: zs.drop rk := by rw [← hk]; exact hx
    rcases mem_ins.1 hx with rfl | hx
    ·omega
    ·rcases hzz with ⟨rfl, -⟩ | ⟨r', p1, p2, rfl⟩
     ·cases hx
     ·have := (kv r' p1).2.2.1 x hx
      omega
   ·have hb' : v5.ownBlock = some b := by rw [← h1]; exact hb
    have hL := hf5 b hb'
    unfold paintIdx
    rw [if_neg (by omega), if_neg (fun h => (hd1 b h).1 hb'), if_neg (fun h => hd2 b h hb'), if_pos hb']
  ·obtain ⟨k1, k2, k3, k4⟩ := kv j hj
   refine ⟨by show w'.ownsRow 0 _ 6 (val' r) (kz' r).length (rowOf (kz' r)); rw [h1, hk]; exact Upd.own U k1 (fun b hb => nG _ _ (k4 b hb) (by omega) (by omega) (by omega) (by omega)), by show (kz' r).length < _; rw [hk]; omega, fun x hx => by have := k3 x (by rw [← hk]; exact hx); omega, fun b hb => ?_⟩
   have hb' : (s.val j).ownBlock = some b := by rw [← h1]; exact hb
   rw [kL _ (own_lt k1 hb'), k4 b hb']
 ·rcases hfm b hb with h1 | h1
  ·rw [kL _ (own_lt fM.own h1), cm b h1]
  ·unfold paintIdx
   rw [if_neg (by omega), if_neg (fun h => (hd1 b h).2 hb), if_pos hb]
 ·by_cases hie : i = e.slot
  ·subst hie
   simp only [if_true] at hb
   rcases hfr b hb with h1 | h1
   ·rw [kL _ (own_lt (own _ hs) h1), cv _ hs b h1]
   ·unfold paintIdx
    rw [if_neg (by omega), if_pos hb]
  ·simp only [if_neg hie] at hb
   rw [kL _ (own_lt (own i hi) hb), cv i hi b hb]
end Go.M
