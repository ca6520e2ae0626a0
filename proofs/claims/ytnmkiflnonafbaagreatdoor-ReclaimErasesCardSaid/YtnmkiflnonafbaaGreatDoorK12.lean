/- Walks 12. -/
import Derived.Test.YtnmkiflnonafbaaGreatDoorProg
import Derived.Test.YtnmkiflnonafbaaGreatDoorK11
import Derived.Test.YtnmkiflnonafbaaGreatDoorK2
import Derived.Test.YtnmkiflnonafbaaGreatDoorK3
import Derived.Test.YtnmkiflnonafbaaGreatDoorK6
import Derived.Test.YtnmkiflnonafbaaGreatDoorK7
import Derived.RegionCalls
set_option linter.unusedVariables false
set_option linter.unusedSimpArgs false
set_option maxRecDepth 100000
namespace Go.M
open Go.Proofs Go.RowKit Go.Shelf
structure IdxS where
 O : Nat
 S : Nat
 c : Nat
 tS : TypeId
 cS : Array Value
 mv : Value
 mn : Nat
 key : Nat → ByteArray
 val : Nat → Value
 sv : Nat → Value
 es : Nat → List Ent
 kz : Nat → List Ent
structure IdxIn (w : World) (col : Col) (q X n next used : Nat) (lens : Nat → Nat) (s : IdxS) : Prop where
 fX : ∃ t, Has w X t #[.pointer (some ⟨s.O, 0, none⟩), .slice (some ⟨s.S, 0, none⟩) n s.c]
 fS : Has w s.S s.tS s.cS
 fs : ∀ i, i < n → s.cS[i]? = some (s.sv i)
 fM : OMap w s.O s.mv s.mn s.key s.val
 mn : s.mn < next
 own : ∀ i, i < n → w.ownsRow 0 111 6 (s.sv i) (s.es i).length (rowOf (s.es i))
 len : ∀ i, i < n → (s.es i).length < next
 ent : ∀ i, i < n → ∀ x ∈ s.es i, 1 ≤ x.seq ∧ x.seq < next ∧ x.off + x.size ≤ lens i ∧ x.off < lens i
 ne : ∀ i, i < n → i < used → s.es i ≠ []
 kv : ∀ r, r < s.mn → w.ownsRow 0 111 6 (s.val r) (s.kz r).length (rowOf (s.kz r)) ∧ (s.kz r).length < next ∧ (∀ x ∈ s.kz r, x.seq < next) ∧ ∀ b, (s.val r).ownBlock = some b → col b = (q, 4)
 cX : col X = (q, 0)
 cO : col s.O = (q, 1)
 cS : col s.S = (q, 2)
 cm : ∀ b, s.mv.ownBlock = some b → col b = (q, 3)
 cv : ∀ i, i < n → ∀ b, (s.sv i).ownBlock = some b → col b = (q, 5 + i)
 hi : n ≤ 10
 few : next ≤ 100
 con : Con n s.mn s.key s.kz s.es
def Zee (w : World) (col : Col) (q X n next used : Nat) (lens : Nat → Nat) : Prop := ∃ s, IdxIn w col q X n next used lens s
theorem Zb1 {w : World} {e : TypeId} {size n b : Nat} {v : Value} {xs : List Value} (own : w.ownsRow 0 e size v n xs) (hb : v.ownBlock = some b) : b < w.heap.size := (own.lt _ hb).2
theorem IdxIn.other {w w' : World} {col col' : Col} {q X n next used : Nat} {lens : Nat → Nat} {s : IdxS} (h : IdxIn w col q X n next used lens s) {F : Nat → Prop} (U : Upd F w w') (hF : ∀ b, F b → (col b).1 ≠ q) (hc : Kept w col col') : IdxIn w' col' q X n next used lens s := by
 obtain ⟨⟨t, fX⟩, fS, fs, fM, mn, own, len, ent, ne, kv, cX, cO, cS, cm, cv, hi, few, con⟩ := h;have nF : ∀ b k, col b = (q, k) → ¬ F b := fun b k hb h => hF b h (by rw [hb])
 obtain ⟨tO, hO⟩ := fM.made;refine ⟨⟨t, U.has fX (nF _ _ cX)⟩, U.has fS (nF _ _ cS), fs, fM.upd U (nF _ _ cO) (fun b hb => nF _ _ (cm b hb)), mn, fun i hi => Upd.own U (own i hi) (fun b hb => nF _ _ (cv i hi b hb)), len, ent, ne, fun r hr => ?_, by rw [hc _ fX.lt, cX], by rw [hc _ hO.lt, cO], by rw [hc _ fS.lt, cS], fun b hb => by rw [hc _ (Zb1 fM.own hb), cm b hb], fun i hi b hb => by rw [hc _ (Zb1 (own i hi) hb), cv i hi b hb], hi, few, con⟩
 obtain ⟨h1, h2, h3, h4⟩ := kv r hr;exact ⟨Upd.own U h1 (fun b hb => nF _ _ (h4 b hb)), h2, h3, fun b hb => by rw [hc _ (Zb1 h1 hb), h4 b hb]⟩
theorem Zee.other {w w' : World} {col col' : Col} {q X n next used : Nat} {lens : Nat → Nat} (h : Zee w col q X n next used lens) {F : Nat → Prop} (U : Upd F w w') (hF : ∀ b, F b → (col b).1 ≠ q) (hc : Kept w col col') : Zee w' col' q X n next used lens := by
 obtain ⟨s, h⟩ := h;exact ⟨s, h.other U hF hc⟩
theorem Zee.mono {w : World} {col : Col} {q X n next used : Nat} {lens lens' : Nat → Nat} (h : Zee w col q X n next used lens) (hl : ∀ i, i < n → lens i ≤ lens' i) : Zee w col q X n next used lens' := by
 obtain ⟨s, ⟨fX, fS, fs, fM, mn, own, len, ent, ne, kv, cX, cO, cS, cm, cv, hi, few, con⟩⟩ := h;exact ⟨s, ⟨fX, fS, fs, fM, mn, own, len, fun i hi x hx => by have := ent i hi x hx; have := hl i hi; omega, ne, kv, cX, cO, cS, cm, cv, hi, few, con⟩⟩
def ZbO (col : Col) (q slot : Nat) (L : Nat) (sv mv v5 : Value) : Col := fun b => if b < L then col b else if sv.ownBlock = some b then (q, 5 + slot) else if mv.ownBlock = some b then (q, 3) else if v5.ownBlock = some b then (q, 4) else col b
theorem Zpe {w : World} {col : Col} {q X n next used : Nat} {lens : Nat → Nat} {e : Ent} (h : Zee w col q X n next used lens) (hs : e.slot < n) (hu : e.slot ≤ used) (hq : e.seq = next) (ho : lens e.slot ≤ e.off) (hok : EntOk1 e) (hf : next < 100) :
 Calls Tryz.prog 69 #[.pointer (some ⟨X, 0, none⟩), e.val] w fun en w' => en = .returned (.int .i64 0) ∧
  ∃ col', Zee w' col' q X n (next + 1) (max used (e.slot + 1)) (fun i => if i = e.slot then e.off + e.size else lens i) ∧ Upd (fun b => (col b).1 = q) w w' ∧ Kept w col col' := by
 obtain ⟨s, ⟨⟨tX, fX⟩, fS, fs, fM, mn, own, len, ent, ne, kv, cX, cO, cS, cm, cv, hi, few, con⟩⟩ := h;obtain ⟨tO, hO⟩ := fM.made;have hap : AddApart X s.O s.S s.mn s.mv (s.sv e.slot) s.val := by
  have nb : ∀ {a b : Nat} {i j : Nat}, col a = (q, i) → col b = (q, j) → i ≠ j → a ≠ b := fun h1 h2 h3 => Zcm h1 h2 (by simpa using h3)
  refine ⟨nb cX cS (by omega), nb cX cO (by omega), nb cS cO (by omega), fun h => ?_, fun h => ?_, fun h => ?_, fun h => ?_, fun h => ?_, fun h => ?_, fun b h1 h2 => ?_, fun r hr h => ?_, fun r hr h => ?_, fun r hr b h1 h2 => ?_, fun r hr b h1 h2 => ?_⟩
  ·have := cv _ hs _ h; rw [cX] at this; simp at this; omega
  ·have := cv _ hs _ h; rw [cS] at this; simp at this; omega
  ·have := cv _ hs _ h; rw [cO] at this; simp at this; omega
  ·have := cm _ h; rw [cX] at this; simp at this
  ·have := cm _ h; rw [cS] at this; simp at this
  ·have := cm _ h; rw [cO] at this; simp at this
  ·have := cm _ h1; rw [cv _ hs _ h2] at this; simp at this; omega
  ·obtain ⟨_, _, _, h4⟩ := kv r hr; have := h4 _ h; rw [cS] at this; simp at this
  ·obtain ⟨_, _, _, h4⟩ := kv r hr; have := h4 _ h; rw [cO] at this; simp at this
  ·obtain ⟨_, _, _, h4⟩ := kv r hr; have := h4 _ h1; rw [cv _ hs _ h2] at this; simp at this; omega
  ·obtain ⟨_, _, _, h4⟩ := kv r hr; have := h4 _ h1; rw [cm _ h2] at this; simp at this
 have hE : ∀ r, r < s.mn → ∃ zs : List {x : Ent // x.seq < e.seq}, zs.length ≤ next - 1 ∧ ZaL w.heap.size w (s.val r) zs ∧ (fun (r : Nat) (l : List Ent) => l = s.kz r) r (zs.map (·.1)) := fun r hr => by
  obtain ⟨h1, h2, h3, h4⟩ := kv r hr;have hz := Zcn (fun x => x.seq < e.seq) (s.kz r) (fun x hx => by rw [hq]; exact h3 x hx)
  exact ⟨ZeT _ (s.kz r) _, by rw [← List.length_map (f := (·.1)), hz]; omega, ZaL.of_own h1 _ hz, hz⟩
 refine (Zr2 (Q := fun r l => l = s.kz r) (L := next - 1) (by omega) fX fS (fs _ hs) hs hi fM hE (own _ hs) (by have := len _ hs; omega) (fun x hx => by have := ent _ hs x hx; omega) hok hap (by omega)).mono ?_
 rintro en w' ⟨rfl, sv', mv', v5, mn', key', val', zs, U, fS', own', hfr, fM', hfm, hmn, ⟨h5, hz1, hz2, hf5⟩, hd1, hd2, hdesc, hzz⟩;obtain ⟨kz', hv, D2, D3, D4⟩ := hdesc.content con.inj s.kz (e :: zs);have hcon := con.add hs (fun r hr x hx => by rw [hq]; exact (kv r hr).2.2.1 x hx) (fun i hi x hx => by rw [hq]; exact (ent i hi x hx).2.1) hzz (fun i hi => (hv i hi).imp (fun h => h.2) (fun ⟨j, a, b, _, c⟩ => ⟨j, a, b, c⟩)) D2 D3 D4
 have hG : ∀ b, (b = s.O ∨ b = s.S ∨ (s.sv e.slot).ownBlock = some b ∨ s.mv.ownBlock = some b) → (col b).1 = q := fun b h => by
  rcases h with rfl | rfl | h | h
  ·rw [cO]
  ·rw [cS]
  ·rw [cv _ hs b h]
  ·rw [cm b h]
 have nG : ∀ b k, col b = (q, k) → k ≠ 1 → k ≠ 2 → k ≠ 3 → k ≠ 5 + e.slot → ¬ (b = s.O ∨ b = s.S ∨ (s.sv e.slot).ownBlock = some b ∨ s.mv.ownBlock = some b) := fun b k hb h1 h2 h3 h4 h => by
  rcases h with rfl | rfl | h | h
  ·rw [cO] at hb; simp at hb; omega
  ·rw [cS] at hb; simp at hb; omega
  ·have := cv _ hs b h; rw [hb] at this; simp at this; omega
  ·have := cm b h; rw [hb] at this; simp at this; omega
 have kL : ∀ b, b < w.heap.size → ZbO col q e.slot w.heap.size sv' mv' v5 b = col b := fun b hb => by unfold ZbO; rw [if_pos hb]
 refine ⟨rfl, ZbO col q e.slot w.heap.size sv' mv' v5, ⟨{ s with cS := s.cS.setIfInBounds e.slot sv', mv := mv', mn := mn', key := key', val := val', sv := fun i => if i = e.slot then sv' else s.sv i, es := fun i => if i = e.slot then s.es i ++ [e] else s.es i, kz := kz' }, ⟨tX, U.has fX (nG _ _ cX (by omega) (by omega) (by omega) (by omega))⟩, fS', fun i hi => ?_, fM', by show mn' < next + 1; omega, fun i hi => ?_, fun i hi => ?_, fun i hi x hx => ?_, fun i hi hiu => ?_, fun r hr => ?_, by rw [kL _ fX.lt, cX], by show ZbO col q e.slot w.heap.size sv' mv' v5 s.O = _; rw [kL _ hO.lt, cO], by show ZbO col q e.slot w.heap.size sv' mv' v5 s.S = _; rw [kL _ fS.lt, cS], fun b hb => ?_, fun i hi b hb => ?_, hi, by omega, hcon⟩, U.mono (fun b _ => hG b), fun b hb => kL b hb⟩
 ·have hlt : e.slot < s.cS.size := by have := fs _ hs; exact (Array.getElem?_eq_some_iff.1 this).1
  by_cases hie : i = e.slot
  ·subst hie;simp [hlt]
  ·simp only [if_neg hie];rw [Array.getElem?_setIfInBounds_ne (fun h => hie h.symm)]
   exact fs i hi
 ·by_cases hie : i = e.slot
  ·subst hie;simp only [if_true];rw [List.length_append];exact own'
  ·simp only [if_neg hie];exact Upd.own U (own i hi) (fun b hb => nG _ _ (cv i hi b hb) (by omega) (by omega) (by omega) (by omega))
 ·by_cases hie : i = e.slot
  ·simp only [if_pos hie, List.length_append, List.length_cons, List.length_nil];have := len i hi;omega
  ·simp only [if_neg hie];have := len i hi;omega
 ·by_cases hie : i = e.slot
  ·subst hie;simp only [if_true] at hx ⊢;rcases List.mem_append.1 hx with hx | hx
   ·have := ent _ hs x hx;omega
   ·simp at hx;subst hx;have h1 := hok.s1;have h2 := hok.z1;omega
  ·simp only [if_neg hie] at hx ⊢;have := ent i hi x hx;omega
 ·by_cases hie : i = e.slot
  ·simp [if_pos hie]
  ·simp only [if_neg hie];exact ne i hi (by omega)
 ·rcases hv r hr with ⟨h1, -, hk⟩ | ⟨j, hj, -, h1, -, hk⟩
  ·refine ⟨by show w'.ownsRow 0 _ 6 (val' r) (kz' r).length (rowOf (kz' r)); rw [h1, hk]; exact h5, by show (kz' r).length < _; rw [hk]; simp only [List.length_cons]; omega, fun x hx => ?_, fun b hb => ?_⟩
   ·replace hx : x ∈ e :: zs := by rw [← hk]; exact hx
    rcases List.mem_cons.1 hx with rfl | hx
    ·omega
    ·have := hz2 x hx;omega
   ·have hb' : v5.ownBlock = some b := by rw [← h1]; exact hb
    have hL := hf5 b hb';unfold ZbO;rw [if_neg (by omega), if_neg (fun h => (hd1 b h).1 hb'), if_neg (fun h => hd2 b h hb'), if_pos hb']
  ·obtain ⟨k1, k2, k3, k4⟩ := kv j hj;refine ⟨by show w'.ownsRow 0 _ 6 (val' r) (kz' r).length (rowOf (kz' r)); rw [h1, hk]; exact Upd.own U k1 (fun b hb => nG _ _ (k4 b hb) (by omega) (by omega) (by omega) (by omega)), by show (kz' r).length < _; rw [hk]; omega, fun x hx => by have := k3 x (by rw [← hk]; exact hx); omega, fun b hb => ?_⟩
   have hb' : (s.val j).ownBlock = some b := by rw [← h1]; exact hb
   rw [kL _ (Zb1 k1 hb'), k4 b hb']
 ·rcases hfm b hb with h1 | h1
  ·rw [kL _ (Zb1 fM.own h1), cm b h1]
  ·unfold ZbO;rw [if_neg (by omega), if_neg (fun h => (hd1 b h).2 hb), if_pos hb]
 ·by_cases hie : i = e.slot
  ·subst hie;simp only [if_true] at hb;rcases hfr b hb with h1 | h1
   ·rw [kL _ (Zb1 (own _ hs) h1), cv _ hs b h1]
   ·unfold ZbO;rw [if_neg (by omega), if_pos hb]
  ·simp only [if_neg hie] at hb;rw [kL _ (Zb1 (own i hi) hb), cv i hi b hb]
end Go.M
namespace Go.M
open Go.Proofs Go.RowKit
theorem Zpf {w : World} {e : TypeId} {size n b : Nat} {v : Value} {xs : List Value} (own : w.ownsRow 0 e size v n xs) (hb : v.ownBlock = some b) : b < w.heap.size := (own.lt _ hb).2
theorem DevAt.other {w w' : World} {col col' : Col} {q D : Nat} {s : DevS} {K S cap T : Nat} {M : Nat → Nat} {V : Nat → Value} (h : DevAt w col q D s K S cap T M V) {F : Nat → Prop} (U : Upd F w w') (hF : ∀ b, F b → (col b).1 ≠ q) (hc : Kept w col col') : DevAt w' col' q D s K S cap T M V := by
 obtain ⟨⟨td, fd⟩, ⟨tk, fk⟩, ⟨tt, ft⟩, fs, fm, lo, hi, cD, cK, cS, cT, cM, cV, o0, o1⟩ := h;have nF : ∀ b k, col b = (q, k) → ¬ F b := fun b k hb h => hF b h (by rw [hb])
 refine ⟨⟨td, U.has fd (nF _ _ cD)⟩, ⟨tk, U.has fk (nF _ _ cK)⟩, ⟨tt, U.has ft (nF _ _ cT)⟩, fun i hi => U.cellOf (fs i hi) (nF _ _ cS), fun i hi => ?_, lo, hi, by rw [hc _ fd.lt, cD], by rw [hc _ fk.lt, cK], by rw [hc _ (block_lt_of_cell (fs 0 (by omega))), cS], by rw [hc _ ft.lt, cT], fun i hi => ?_, fun i hi b hb => ?_, o0, o1⟩
 ·obtain ⟨⟨t, m⟩, own, f1, f2, p1, p2⟩ := fm i hi;exact ⟨⟨t, U.has m (nF _ _ (cM i hi))⟩, Upd.own U own (fun b hb => nF _ _ (cV i hi b hb)), f1, f2, p1, p2⟩
 ·obtain ⟨⟨t, m⟩, own, f1, f2, p1, p2⟩ := fm i hi;rw [hc _ m.lt, cM i hi]
 ·obtain ⟨⟨t, m⟩, own, f1, f2, p1, p2⟩ := fm i hi;rw [hc _ (Zpf own hb), cV i hi b hb]
theorem Zeo : ∀ n, n < 10 → ∀ u, u ≤ n → (u < n → low (2 ^ n - 2 ^ u) = u ∧ 0 < 2 ^ n - 2 ^ u ∧ clr (2 ^ n - 2 ^ u) u = 2 ^ n - 2 ^ (u + 1)) ∧ pop (2 ^ n - 2 ^ u) = n - u ∧ 2 ^ n - 2 ^ u < 1024 := by decide +kernel
theorem ZlU : ∀ u, u < 10 → low (2 ^ u) = u ∧ 0 < 2 ^ u ∧ clr (2 ^ u) u = 0 ∧ (2 ^ u).testBit u = true := by decide +kernel
theorem Znu : ∀ n, n < 10 → ∀ u, u < n → (2 ^ n - 2 ^ (u + 1)).testBit u = false := by decide +kernel
theorem DbAt.upd {F : Nat → Prop} {w w' : World} (h : DbAt w) (U : Upd F w w') (hg : ¬ F 2) : DbAt w' := fun q hq => U.cellOf (h q hq) hg
theorem SealAt.upd {F : Nat → Prop} {w w' : World} (h : SealAt w) (U : Upd F w w') (hg : ¬ F 1) : SealAt w' := by
 obtain ⟨h0, h1, h2, h3, h4, h5⟩ := h;exact ⟨U.cellOf h0 hg, U.cellOf h1 hg, U.cellOf h2 hg, U.cellOf h3 hg, U.cellOf h4 hg, U.cellOf h5 hg⟩
theorem BytesAt.upd {F : Nat → Prop} {w w' : World} {v : Value} {bs : List UInt8} (h : BytesAt w v bs) (U : Upd F w w') (hg : ∀ ad n c, v = .slice (some ad) n c → ¬ F ad.block) : BytesAt w' v bs := by
 rcases h with h | ⟨ad, c, h1, h2⟩
 ·exact .inl h
 ·refine .inr ⟨ad, c, h1, fun j u hj => ?_⟩
  have := h2 j u hj;have hb : (ad.add j).block = ad.block := by unfold Addr.add; split <;> rfl
  rw [U.cell (World.block_lt_of_cell? w _ this) (by rw [hb]; exact hg ad _ _ h1)]
  exact this
theorem Znv {w : World} {B n r z0 z1 z2 z3 z4 x0 x2 x3 x4 : Nat} (h : TabCells w B n r z0 z1 z2 z3 z4 x0 0 x2 x3 x4) (hf : pop x0 ≤ r) :
 Calls Tryz.prog 66 #[.pointer (some ⟨B, 0, none⟩)] w fun e w' => e = .returned (.tuple #[.int .i64 0, .int .i64 11]) ∧ Old w w' := by
 have hp : pop x0 ≤ 10 := by
  have : ∀ x, x < 1024 → pop x ≤ 10 := by decide +kernel
  exact this x0 h.l0
 have hpz : pop 0 = 0 := by decide
 have HH := Lib.hid h;obtain ⟨b0, b1, b2, b3, b4, b5, b6, n0, n1, n2, n3, n4, y0, y1, y2, y3, y4, f0, f1, f2, f3, f4, hB, p0, p1, p2, l0, l1, l2, l3, l4, e01, e02, e03, e04, e12, e13, e14, e23, e24, e34⟩ := h
 go_enter Tryz.func66, Tryz.ntmps66
 go_wp2_with (first | (go_at_call 51; (with_reducible refine (Ze4 (B := z1) (n := n) (x := 0) ?_ ?_ p0 (by omega)).mono ?_); exact n1; exact y1; rintro e w1 ⟨rfl, rfl⟩) | (go_at_call 51; (with_reducible refine (Ze4 (B := z0) (n := n) (x := x0) ?_ ?_ p0 l0).mono ?_); exact n0; exact y0; rintro e w1 ⟨rfl, rfl⟩) | go_in)
 go_quiet ((go_at_call 18; exact Calls.quiet_of_same (ZhF (HH.out.old ((Upd.refl _ w).drewN _)))))
 go_wp2;go_ret2;exact ⟨rfl, Upd.drewN (Upd.refl _ _) _⟩
theorem Zqv : ∀ u, u < 10 → (2 ^ u - 1 ||| 2 ^ u) = 2 ^ (u + 1) - 1 := by decide +kernel
def Zc6 (w : World) (col : Col) (q B n r used : Nat) (act : Bool) : Prop :=
 ∃ s Z, TabAt w col q B s Z ∧ s.n = n ∧ s.r = r ∧ s.x 0 = 2 ^ n - 2 ^ used ∧ s.x 1 = (if act then 2 ^ (used - 1) else 0) ∧ n < 10 ∧ used ≤ n ∧ s.x 2 = 2 ^ (if act then used - 1 else used) - 1
theorem Zc6.other {w w' : World} {col col' : Col} {q B n r used : Nat} {act : Bool} (h : Zc6 w col q B n r used act) {F : Nat → Prop} (U : Upd F w w') (hF : ∀ b, F b → (col b).1 ≠ q) (hc : Kept w col col') : Zc6 w' col' q B n r used act := by
 obtain ⟨s, Z, h, h1⟩ := h;exact ⟨s, Z, h.other U hF hc, h1⟩
theorem Zc6.only {w : World} {col : Col} {q B n r used : Nat} (hT : DbAt w) (h : Zc6 w col q B n r used true) (hu : 0 < used) :
 Calls Tryz.prog 61 #[.pointer (some ⟨B, 0, none⟩), .int .i64 1] w fun e w' => e = .returned (.tuple #[.int .i64 ((used - 1 : Nat) : Int), .bool true]) ∧ w = w' := by
 obtain ⟨s, Z, h, rfl, rfl, h0, h1, hn, hun, hse⟩ := h;obtain ⟨b1, b2, b3, b4⟩ := ZlU (used - 1) (by omega)
 have hc := h.cells;rw [h1, if_pos rfl] at hc;have := ZkB hT hc b2;rwa [b1] at this
theorem Zc6.idle {w : World} {col : Col} {q B n r used : Nat} (h : Zc6 w col q B n r used false) :
 Calls Tryz.prog 61 #[.pointer (some ⟨B, 0, none⟩), .int .i64 1] w fun e w' => e = .returned (.tuple #[.int .i64 0, .bool false]) ∧ w = w' := by
 obtain ⟨s, Z, h, rfl, rfl, h0, h1, hn, hun, hse⟩ := h;have hc := h.cells;rw [h1, if_neg (by decide)] at hc
 exact ZhG hc
theorem Zc6.free {w : World} {col : Col} {q B n r used : Nat} {act : Bool} (h : Zc6 w col q B n r used act) :
 Calls Tryz.prog 18 #[.pointer (some ⟨B, 0, none⟩)] w fun e w' => e = .returned (.int .i64 ((n - used : Nat) : Int)) ∧ w = w' := by
 obtain ⟨s, Z, h, rfl, rfl, h0, h1, hn, hun, hse⟩ := h;have hb := (Zeo s.n hn used hun).2.1;have := Zgu h.cells;rwa [h0, hb] at this
theorem Zc6.busy {w : World} {col : Col} {q B n r used : Nat} (h : Zc6 w col q B n r used false) (hf : n - used ≤ r) :
 Calls Tryz.prog 66 #[.pointer (some ⟨B, 0, none⟩)] w fun e w' => e = .returned (.tuple #[.int .i64 0, .int .i64 11]) ∧ Old w w' := by
 obtain ⟨s, Z, h, rfl, rfl, h0, h1, hn, hun, hse⟩ := h;have hb := (Zeo s.n hn used hun).2.1;have hc := h.cells;rw [h1, if_neg (by decide)] at hc
 exact Znv hc (by rw [h0, hb]; exact hf)
theorem Zc6.take {w : World} {col : Col} {q B n r used : Nat} (hT : DbAt w) (h : Zc6 w col q B n r used false) (hu : used < n) (hf : r < n - used) :
 Calls Tryz.prog 66 #[.pointer (some ⟨B, 0, none⟩)] w fun e w' => e = .returned (.tuple #[.int .i64 ((used : Nat) : Int), .int .i64 0]) ∧ Zc6 w' col q B n r (used + 1) true ∧ Upd (fun b => (col b).1 = q) w w' := by
 obtain ⟨s, Z, h, rfl, rfl, h0, h1, hn, hun, hse⟩ := h;obtain ⟨ha, hb, hl⟩ := Zeo s.n hn used hun;obtain ⟨a1, a2, a3⟩ := ha hu;have hc := h.cells;rw [h1, if_neg (by decide), h0] at hc
 refine (ZnN hT hc a2 (by rw [hb]; exact hf) (by rw [a1]; exact hu) (fun e => ?_)).mono ?_
 ·have h2 := h.cZ 0 (by omega)
  rw [e, h.cB] at h2;simp at h2
 ·rintro e w' ⟨rfl, O⟩;rw [a1] at O ⊢;rw [a3] at O;have hp : ((2 : Int) ^ used) = ((2 ^ used : Nat) : Int) := by simp
  rw [hp] at O;obtain ⟨t, U⟩ := h.move (a := 0) (b := 1) (by omega) (by omega) (by omega) (Nat.sub_lt (Nat.two_pow_pos _) (Nat.two_pow_pos _)) (Nat.pow_lt_pow_right (by omega) hu) O
  exact ⟨rfl, ⟨_, Z, t, rfl, rfl, by simp, by simp, hn, hu, by simpa using hse⟩, U.mono (fun b _ h1 => by rcases h1 with rfl | rfl <;> rw [h.cZ _ (by omega)])⟩
theorem Zc6.sealed {w : World} {col : Col} {q B n r used : Nat} (hS : SealAt w) (h : Zc6 w col q B n r used true) (hu : 0 < used) :
 Calls Tryz.prog 84 #[.pointer (some ⟨B, 0, none⟩), .int .i64 ((used - 1 : Nat) : Int)] w fun e w' => e = .returned (.int .i64 0) ∧ Zc6 w' col q B n r used false ∧ Upd (fun b => (col b).1 = q) w w' := by
 obtain ⟨s, Z, h, rfl, rfl, h0, h1, hn, hun, hse⟩ := h;obtain ⟨b1, b2, b3, b4⟩ := ZlU (used - 1) (by omega)
 have hc := h.cells;rw [h1, if_pos rfl, h0] at hc;have hnt := Znu s.n hn (used - 1) (by omega)
 rw [show used - 1 + 1 = used by omega] at hnt
 refine (ZnO hc hS (used - 1) (by omega) hnt b4 (fun e => ?_)).mono ?_
 ·have h2 := h.cZ 1 (by omega)
  rw [e, h.cB] at h2;simp at h2
 ·rintro e w' ⟨rfl, O⟩;rw [b3] at O;have hx2 := h.bd 2 (by omega)
  obtain ⟨t, U⟩ := h.move (a := 1) (b := 2) (by omega) (by omega) (by omega) (Nat.two_pow_pos _) (Nat.or_lt_two_pow hx2 (Nat.pow_lt_pow_right (by omega) (by omega))) O
  have hse' : s.x 2 ||| 2 ^ (used - 1) = 2 ^ used - 1 := by
   rw [hse, if_pos rfl];have := Zqv (used - 1) (by omega)
   rwa [show used - 1 + 1 = used by omega] at this
  exact ⟨rfl, ⟨_, Z, t, rfl, rfl, by simpa using h0, by simp, hn, hun, by simpa using hse'⟩, U.mono (fun b _ h1 => by rcases h1 with rfl | rfl <;> rw [h.cZ _ (by omega)])⟩
def ZeU (w : World) (col : Col) (q D n size : Nat) (lens : Nat → Nat) (du : Nat → Prop) (ops : Nat) : Prop :=
 ∃ s K S cap T M V, DevAt w col q D s K S cap T M V ∧ s.n = n ∧ s.down = false ∧ s.ops = ((ops : Nat) : Int) ∧ ∀ i, i < n → (s.img i).sz = size ∧ (s.img i).bs.length = lens i ∧ (du i → (s.img i).dur = (s.img i).bs.length)
theorem ZeU.mono {w : World} {col : Col} {q D n size : Nat} {lens : Nat → Nat} {du du' : Nat → Prop} {ops : Nat} (h : ZeU w col q D n size lens du ops) (hd : ∀ i, i < n → du' i → du i) : ZeU w col q D n size lens du' ops := by
 obtain ⟨s, K, S, cap, T, M, V, h, h2, h3, h4, h5⟩ := h;exact ⟨s, K, S, cap, T, M, V, h, h2, h3, h4, fun i hi => ⟨(h5 i hi).1, (h5 i hi).2.1, fun x => (h5 i hi).2.2 (hd i hi x)⟩⟩
theorem ZeU.other {w w' : World} {col col' : Col} {q D n size : Nat} {lens : Nat → Nat} {du : Nat → Prop} {ops : Nat} (h : ZeU w col q D n size lens du ops) {F : Nat → Prop} (U : Upd F w w') (hF : ∀ b, F b → (col b).1 ≠ q) (hc : Kept w col col') : ZeU w' col' q D n size lens du ops := by
 obtain ⟨s, K, S, cap, T, M, V, h, h1⟩ := h;exact ⟨s, K, S, cap, T, M, V, h.other U hF hc, h1⟩
theorem ZeU.len {w : World} {col : Col} {q D n size : Nat} {lens : Nat → Nat} {du : Nat → Prop} {ops : Nat} (h : ZeU w col q D n size lens du ops) {i : Nat} (hi : i < n) :
 Calls Tryz.prog 27 #[.pointer (some ⟨D, 0, none⟩), .int .i64 ((i : Nat) : Int)] w fun e w' => e = .returned (.tuple #[.int .i64 ((lens i : Nat) : Int), .int .i64 0]) ∧ Old w w' := by
 obtain ⟨s, K, S, cap, T, M, V, h, rfl, h2, h3, h4⟩ := h;obtain ⟨va, vc, hv, c⟩ := h.cells i (by omega)
 rw [h2] at c;have := Ze0 c;rwa [(h4 i hi).2.1] at this
theorem ZeU.room {w : World} {col : Col} {q D n size : Nat} {lens : Nat → Nat} {du : Nat → Prop} {ops : Nat} (h : ZeU w col q D n size lens du ops) {i : Nat} (hi : i < n) :
 Calls Tryz.prog 65 #[.pointer (some ⟨D, 0, none⟩), .int .i64 ((i : Nat) : Int)] w fun e w' => e = .returned (.tuple #[.int .i64 ((size : Int) - (lens i : Int)), .int .i64 0]) ∧ Old w w' := by
 obtain ⟨s, K, S, cap, T, M, V, h, rfl, h2, h3, h4⟩ := h;obtain ⟨va, vc, hv, c⟩ := h.cells i (by omega)
 rw [h2] at c;have := Zkn c;rwa [(h4 i hi).2.1, (h4 i hi).1] at this
theorem ZeU.append {w : World} {col : Col} {q D n size : Nat} {lens : Nat → Nat} {du : Nat → Prop} {ops : Nat} (h : ZeU w col q D n size lens du ops) {i : Nat} (hi : i < n) (ho : ops < 1000000) {v : Value} {bs : List UInt8} (hb : BytesAt w v bs) (hl : 0 < bs.length) (hfit : lens i + bs.length ≤ size)
 (hbD : ∀ ad n c, v = .slice (some ad) n c → (col ad.block).1 ≠ q) :
 Calls Tryz.prog 68 #[.pointer (some ⟨D, 0, none⟩), .int .i64 ((i : Nat) : Int), v] w fun e w' => e = .returned (.int .i64 0) ∧
  ∃ col', ZeU w' col' q D n size (fun k => if k = i then lens i + bs.length else lens k) (fun k => du k ∧ k ≠ i) (ops + 1) ∧ Upd (fun b => (col b).1 = q) w w' ∧ Kept w col col' := by
 obtain ⟨s, K, S, cap, T, M, V, h, rfl, h2, h3, h4⟩ := h;rcases hb with ⟨_, h0⟩ | ⟨ad, c, rfl, hb⟩
 ·rw [h0] at hl; simp at hl
 ·refine (Zks (cb := c) h h2 i (by omega) (by omega) (nb := bs) rfl (fun j u hj => hb j (Zav u) (by rw [List.getElem?_map, hj]; rfl)) hl (by rw [(h4 i hi).1, (h4 i hi).2.1]; exact hfit) (hbD ad _ _ rfl)).mono ?_
  rintro e w' ⟨rfl, v', col', hD, U, hk, _⟩;refine ⟨rfl, col', ⟨_, K, S, cap, T, M, _, hD, rfl, h2, ?_, fun k hk => ?_⟩, U, hk⟩
  ·simp only [DevS.put]; rw [h3]; simp
  ·by_cases e : k = i
   ·subst e;simp [DevS.put, (h4 k hi).1, (h4 k hi).2.1]
   ·simp [DevS.put, e, (h4 k hk).1, (h4 k hk).2.1];exact fun x => ((h4 k hk).2.2 x).trans (h4 k hk).2.1
theorem ZeU.sync {w : World} {col : Col} {q D n size : Nat} {lens : Nat → Nat} {du : Nat → Prop} {ops : Nat} (h : ZeU w col q D n size lens du ops) {i : Nat} (hi : i < n) (ho : ops < 1000000) :
 Calls Tryz.prog 32 #[.pointer (some ⟨D, 0, none⟩), .int .i64 ((i : Nat) : Int)] w fun e w' => e = .returned (.int .i64 0) ∧ ZeU w' col q D n size lens (fun k => du k ∨ k = i) (ops + 1) ∧ Upd (fun b => (col b).1 = q) w w' := by
 obtain ⟨s, K, S, cap, T, M, V, h, rfl, h2, h3, h4⟩ := h;refine (Zjs h h2 i (by omega) (by omega)).mono ?_
 rintro e w' ⟨rfl, hD, U⟩;refine ⟨rfl, ⟨_, K, S, cap, T, M, _, hD, rfl, h2, ?_, fun k hk => ?_⟩, U.mono (fun b _ hb => ?_)⟩
 ·simp only [DevS.put]; rw [h3]; simp
 ·by_cases e : k = i
  ·subst e;simp [DevS.put, (h4 k hi).1, (h4 k hi).2.1]
  ·simp [DevS.put, e, (h4 k hk).1, (h4 k hk).2.1];exact fun x => ((h4 k hk).2.2 x).trans (h4 k hk).2.1
 ·rcases hb with rfl | rfl
  ·rw [h.cD]
  ·rw [h.cM i (by omega)]
end Go.M
namespace Go.M
open Go.Proofs Go.RowKit Go.Shelf
structure Cf where
 n : Nat
 size : Nat
 reserve : Nat
 value : Nat
 c3 : Int
 c4 : Int
 c6 : Int
def Cf.cells (k : Cf) : List Value := [.int .i64 ((k.n : Nat) : Int), .int .i64 ((k.size : Nat) : Int), .int .i64 ((k.reserve : Nat) : Int), .int .i64 k.c3, .int .i64 k.c4, .int .i64 ((k.value : Nat) : Int), .int .i64 k.c6]
structure PIn (w : World) (col : Col) (PP D B X : Nat) (k : Cf) (next used iu : Nat) (act : Bool) (lens : Nat → Nat) (ops : Nat) : Prop where
 p : ∃ t, Has w PP t #[.int .i64 ((k.n : Nat) : Int), .int .i64 ((k.size : Nat) : Int), .int .i64 ((k.reserve : Nat) : Int), .int .i64 k.c3, .int .i64 k.c4, .int .i64 ((k.value : Nat) : Int), .int .i64 k.c6, .pointer (some ⟨D, 0, none⟩), .pointer (some ⟨B, 0, none⟩), .pointer (some ⟨X, 0, none⟩), .int .i64 ((next : Nat) : Int)]
 cP : col PP = (4, 0)
 dev : ZeU w col 1 D k.n k.size lens (fun i => act = true → i ≠ used - 1) ops
 tab : Zc6 w col 2 B k.n k.reserve used act
 idx : Zee w col 3 X k.n next iu lens
 db : DbAt w
 se : SealAt w
 cd : (col 2).1 = 0
 cs : (col 1).1 = 0
 n4 : 4 ≤ k.n
 n9 : k.n ≤ 9
 z1 : 34 + k.value ≤ k.size
 z2 : k.size ≤ 8192
 vv : k.value ≤ 512
 zero : ∀ i, used ≤ i → i < k.n → lens i = 0
 fits : ∀ i, i < k.n → lens i ≤ k.size
 actv : act = true → 0 < used ∧ lens (used - 1) + 16 ≤ k.size
 un : used ≤ k.n
 nx : 1 ≤ next
def Zpg (k last N next : Nat) : Prop := k ≤ N ∧ last < next ∧ (k = 0 ↔ last = 0)
theorem Znw {w : World} {col : Col} {PP D B X i : Nat} {k : Cf} {next used iu : Nat} {act : Bool} {lens : Nat → Nat} {ops : Nat} (h : PIn w col PP D B X k next used iu act lens ops) (hi : i < k.n) :
 ∃ es : List Ent, es.length < next ∧ (i < iu → es ≠ []) ∧ (∀ x ∈ es, 1 ≤ x.seq ∧ x.seq < next) ∧ ∀ w', Old w w' → Calls Tryz.prog 112 #[.pointer (some ⟨PP, 0, none⟩), .int .i64 ((i : Nat) : Int)] w' (Zcf w' 111 6 es.length (rowOf es)) := by
 obtain ⟨s, hs⟩ := h.idx;obtain ⟨tX, fX⟩ := hs.fX;obtain ⟨tP, fP⟩ := h.p;refine ⟨s.es i, hs.len i hi, hs.ne i hi, fun x hx => ⟨(hs.ent i hi x hx).1, (hs.ent i hi x hx).2.1⟩, fun w' U => ?_⟩
 refine Zru (X := X) (S := s.S) (m := k.n) (c := s.c) (O := .int .i64 0) (Old.cellOf' U (by have := fP.cell 9; simpa using this)) (Old.cellOf' U (by have := fX.cell 1; simpa using this)) (Old.cellOf' U (by rw [hs.fS.cell]; exact hs.fs i hi)) hi (by have := h.n9; omega) (Upd.own U (hs.own i hi) (fun _ _ x => x)) (by have := hs.len i hi; have := hs.few; omega)
theorem PIn.old {w w' : World} {col col' : Col} {PP D B X : Nat} {k : Cf} {next used iu : Nat} {act : Bool} {lens : Nat → Nat} {ops : Nat} (h : PIn w col PP D B X k next used iu act lens ops) (U : Old w w') (hc : Kept w col col')
 (h1 : 2 < w.heap.size) (h2 : 1 < w.heap.size) : PIn w' col' PP D B X k next used iu act lens ops := by
 obtain ⟨⟨t, p⟩, cP, dev, tab, idx, db, se, cd, cs, n4, n9, z1, z2, vv, zero, fits, actv, un, nx⟩ := h;exact ⟨⟨t, U.has p⟩, by rw [hc _ p.lt, cP], dev.other U (fun b h => h.elim) hc, tab.other U (fun b h => h.elim) hc, idx.other U (fun b h => h.elim) hc, db.upd U (fun x => x), se.upd U (fun x => x), by rw [hc _ h1, cd], by rw [hc _ h2, cs], n4, n9, z1, z2, vv, zero, fits, actv, un, nx⟩
theorem PIn.lts {w : World} {col : Col} {PP D B X : Nat} {k : Cf} {next used iu : Nat} {act : Bool} {lens : Nat → Nat} {ops : Nat} (h : PIn w col PP D B X k next used iu act lens ops) : 2 < w.heap.size ∧ 1 < w.heap.size :=
 ⟨World.block_lt_of_cell? w _ (h.db 0 (by omega)), World.block_lt_of_cell? w _ h.se.1⟩
def trim (w : World) (col : Col) : Col := fun b => if b < w.heap.size then col b else (0, 0)
theorem Zaf (w : World) (col : Col) : Kept w col (trim w col) := fun b hb => by unfold trim; rw [if_pos hb]
theorem Za4 {w : World} {col : Col} {b : Nat} (h : w.heap.size ≤ b) : trim w col b = (0, 0) := by unfold trim; rw [if_neg (by omega)]
def Cl1 (w : World) (col : Col) (D n size : Nat) (lens : Nat → Nat) (i ops : Nat) (e : Ending) (w' : World) : Prop := e = .returned (.int .i64 0) ∧ ∃ col', ZeU w' col' 1 D n size (fun k => if k = i then lens i + 16 else lens k) (fun k => k ≠ i) (ops + 1) ∧ Upd (fun b => (col b).1 = 1) w w' ∧ Kept w col col'
theorem Zot {w : World} {col : Col} {PP D B X : Nat} {k : Cf} {next used : Nat} {lens : Nat → Nat} {ops : Nat} (h : PIn w col PP D B X k next used used true lens ops) (ho : ops < 900000) :
 Calls Tryz.prog 62 #[.pointer (some ⟨PP, 0, none⟩), .int .i64 ((used - 1 : Nat) : Int)] w fun e w' => e = .returned (.bool true) ∧ ∃ col' lens', PIn w' col' PP D B X k next used used false lens' (ops + 2) ∧ Upd (fun b => 1 ≤ (col b).1 ∧ (col b).1 ≤ 3) w w' ∧ Kept w col col' := by
 obtain ⟨hu, hlen⟩ := h.actv rfl;have hun := h.un;obtain ⟨es, e1, e2, e3, e4⟩ := Znw h (i := used - 1) (by omega)
 have HS := Lib.hid e4;have HQ := Lib.hid e3;have hes : 0 < es.length := List.length_pos_iff.2 (e2 (by omega))
 obtain ⟨tP, fP⟩ := h.p;have p7 : w.cell? ⟨PP, 7, none⟩ = some (.pointer (some ⟨D, 0, none⟩)) := fP.cell 7;have p8 : w.cell? ⟨PP, 8, none⟩ = some (.pointer (some ⟨B, 0, none⟩)) := fP.cell 8;have HH := Lib.hid h;have hne : next ≤ 100 := by obtain ⟨s, hs⟩ := h.idx; exact hs.few
 clear h e2 e3 e4 fP;have hPl := World.block_lt_of_cell? w _ p7;simp only at hPl
 go_enter Tryz.func62, Tryz.ntmps62
 go_wp2_with (first | (go_at_call 112; refine (HS.out _ ((Upd.refl _ w).alloc _)).mono ?_; rintro e5 w1 ⟨v1, rfl, hown, hO, hfr⟩; have hF1 := Lib.hid (Old.has hO (Has.new w _ _)); have hP1 := Lib.hid (((Upd.refl _ w).alloc _).trans hO); obtain ⟨g, gc, rfl⟩ := ZaU hown hes; have hg : w.heap.size < g := (by have := hfr g rfl; simp at this; omega); have HW1 := Lib.hid hown; clear hown hO hfr HS))
 go_loopw [14] (fun i wr => ∃ kk last : Nat, Zpg kk last es.length next ∧ i = .int .i64 kk ∧ Has wr w.heap.size 182 #[.int .i64 ((kk : Nat) : Int), .int .i64 ((last : Nat) : Int)] ∧ Upd (fun b => b = w.heap.size) w1 wr) (fun i _ => es.length - (intOf i).toNat)
 case atStart => exact ⟨0, 0, ⟨Nat.zero_le _, by omega, by simp⟩, rfl, hF1.out, Upd.refl _ _⟩
 case round =>
  obtain ⟨kk, last, ⟨r1, r2, r3⟩, rfl, hF, hU⟩ := hrel
  by_cases hlt : kk < es.length
  ·obtain ⟨x, hx⟩ : ∃ x, es[kk]? = some x := ⟨es[kk]'(by omega), List.getElem?_eq_getElem _⟩
   have hE : ∀ j u, x.cells[j]? = some u → wr.cell? ⟨g, kk * 6 + j, none⟩ = some u := fun j u hj => by
    have := HW1.out.cells (g := g) rfl _ _ (Zba hx hj);rw [show (⟨g, 0, none⟩ : Addr).add (kk * 6 + j) = ⟨g, kk * 6 + j, none⟩ from by unfold Addr.add; split <;> simp_all] at this
    exact hU.cellOf this (by omega)
   have c0 : wr.cell? ⟨g, kk * 6, none⟩ = some (.int .i64 ((x.seq : Nat) : Int)) := hE 0 _ rfl;have c1 := hE 1 _ rfl;have c2 := hE 2 _ rfl;have c3 := hE 3 _ rfl;have c4 := hE 4 _ rfl;have c5 := hE 5 _ rfl;obtain ⟨s1, s2⟩ := HQ.out x (List.mem_of_getElem? hx);have f0 : wr.cell? ⟨w.heap.size, 0, none⟩ = some (.int .i64 ((kk : Nat) : Int)) := hF.cell 0;have f1 : wr.cell? ⟨w.heap.size, 1, none⟩ = some (.int .i64 ((last : Nat) : Int)) := hF.cell 1;have f2 := hF.frozen 0;have f3 := hF.frozen 1;have hfl := hF.lt;have HF := Lib.hid hF;have HU := Lib.hid hU;clear hE hF hU;go_wp2
   go_region
   go_wp2
   go_roundw
   case rel =>
    refine ⟨kk + 1, if last < x.seq then x.seq else last, ⟨by omega, by split <;> omega, by split <;> omega⟩, by go_num, ?_, ?_⟩
    ·have h1 := ((HF.out.set 0 (.int .i64 ((kk + 1 : Nat) : Int))).set 1 (.int .i64 ((if last < x.seq then x.seq else last : Nat) : Int))).alloc (.cells #[.int .i64 ((x.seq : Nat) : Int), .string x.key, .bool x.del, .int .i64 ((x.slot : Nat) : Int), .int .i64 ((x.off : Nat) : Int), .int .i64 ((x.size : Nat) : Int)] 111)
     have h2 := h1.drew;have e : ((if last < x.seq then x.seq else last : Nat) : Int) = if last < x.seq then (x.seq : Int) else (last : Int) := by split <;> rfl
     rw [e] at h2 ⊢;exact h2
    ·exact (((HU.out.setCell _ _ (.inl rfl)).setCell _ _ (.inl rfl)).alloc _).drew
   case measure => simp [intOf]; omega
  ·obtain rfl : kk = es.length := by omega
   have f0 : wr.cell? ⟨w.heap.size, 0, none⟩ = some (.int .i64 ((es.length : Nat) : Int)) := hF.cell 0;have f1 : wr.cell? ⟨w.heap.size, 1, none⟩ = some (.int .i64 ((last : Nat) : Int)) := hF.cell 1;have O0r : Old w wr := hP1.out.after hU (fun b hb h => by omega)
   have HFE := Lib.hid (ZpG (w := wr) (count := es.length) (last := last) (by omega) (by omega) r3)
   have hq0 := HH.out.lts;have HKT := Lib.hid (Zaf w col);have HA : Hid (∀ (w4 : World) (v : Value) (bs : List UInt8), Old w w4 → BytesAt w4 v bs → bs.length = 16 → (∀ ad n c, v = .slice (some ad) n c → w.heap.size ≤ ad.block) → Calls Tryz.prog 68 #[.pointer (some ⟨D, 0, none⟩), .int .i64 ((used - 1 : Nat) : Int), v] w4 (Cl1 w4 (trim w col) D k.n k.size lens (used - 1) ops)) := fun w4 v bs U hb hl hf => by
    have h4 := HH.out.old U HKT.out hq0.1 hq0.2;have := h4.dev.append (i := used - 1) (by omega) (by omega) hb (by omega) (by omega) (fun ad n c e => by rw [Za4 (hf ad n c e)]; decide)
    rw [hl] at this;exact this.mono fun e w' ⟨h1, c, h2, h3⟩ => ⟨h1, c, h2.mono (fun j _ hj => ⟨fun _ => hj, hj⟩), h3⟩
   have HKS : Hid (∀ (w5 : World) (col5 : Col), ZeU w5 col5 1 D k.n k.size (fun j => if j = used - 1 then lens (used - 1) + 16 else lens j) (fun j => j ≠ used - 1) (ops + 1) → Calls Tryz.prog 32 #[.pointer (some ⟨D, 0, none⟩), .int .i64 ((used - 1 : Nat) : Int)] w5 fun e w' => e = .returned (.int .i64 0) ∧ ZeU w' col5 1 D k.n k.size (fun j => if j = used - 1 then lens (used - 1) + 16 else lens j) (fun _ => True) (ops + 1 + 1) ∧ Upd (fun b => (col5 b).1 = 1) w5 w') := fun w5 col5 h => (h.sync (by omega) (by omega)).mono fun e w' ⟨h1, h2, h3⟩ => ⟨h1, h2.mono (fun j _ _ => (Classical.em (j = used - 1)).symm), h3⟩
   have HSE : Hid (∀ (w6 : World) (col6 : Col), SealAt w6 → Zc6 w6 col6 2 B k.n k.reserve used true → Calls Tryz.prog 84 #[.pointer (some ⟨B, 0, none⟩), .int .i64 ((used - 1 : Nat) : Int)] w6 fun e w' => e = .returned (.int .i64 0) ∧ Zc6 w' col6 2 B k.n k.reserve used false ∧ Upd (fun b => (col6 b).1 = 2) w6 w') := fun w6 col6 h1 h2 => h2.sealed h1 hu
   have HO0 := Lib.hid O0r;have hPPt : trim w col PP = (4, 0) := by rw [HKT.out _ hPl, HH.out.cP]
   have hPP1 : ¬ (trim w col PP).1 = 1 := by rw [hPPt]; decide
   have hsg : (trim w col 1).1 = 0 := by rw [HKT.out _ hq0.2, HH.out.cs]
   have hdg : (trim w col 2).1 = 0 := by rw [HKT.out _ hq0.1, HH.out.cd]
   have cl8 : ∀ {w4 w5 w6 : World} {col5 : Col}, Old w w4 → Upd (fun b => (trim w col b).1 = 1) w4 w5 → Kept w4 (trim w col) col5 → Upd (fun b => (col5 b).1 = 1) w5 w6 → w6.cell? ⟨PP, 8, none⟩ = some (.pointer (some ⟨B, 0, none⟩)) := fun {w4 w5 w6 col5} o u5 k5 u6 => by
    refine u6.cellOf (u5.cellOf (Old.cellOf' o p8) hPP1) ?_;have hl := o.size;rw [k5 _ (by omega), hPPt]; decide
   have cl9 : ∀ {w4 w5 w6 : World} {col5 : Col}, Old w w4 → Upd (fun b => (trim w col b).1 = 1) w4 w5 → Kept w4 (trim w col) col5 → Upd (fun b => (col5 b).1 = 1) w5 w6 → SealAt w6 := fun {w4 w5 w6 col5} o u5 k5 u6 => by
    have hl := o.size;refine ((HH.out.se.upd o (fun x => x)).upd u5 (by rw [hsg]; decide)).upd u6 ?_
    rw [k5 _ (by omega), hsg]; decide
   have cl10 : ∀ {w4 w5 w6 : World} {col5 : Col}, Old w w4 → Upd (fun b => (trim w col b).1 = 1) w4 w5 → Kept w4 (trim w col) col5 → Upd (fun b => (col5 b).1 = 1) w5 w6 → Zc6 w6 col5 2 B k.n k.reserve used true := fun {w4 w5 w6 col5} o u5 k5 u6 =>
    ((HH.out.tab.other o (fun b h => h.elim) HKT.out).other u5 (fun b h => by rw [h]; decide) k5).other u6 (fun b h => by rw [h]; decide) (Kept.refl _ _)
   have r7 : wr.cell? ⟨PP, 7, none⟩ = some (.pointer (some ⟨D, 0, none⟩)) := Old.cellOf' O0r p7;clear O0r hF hU
   go_wp2_with (first | (go_at_call 113; refine HFE.out.mono ?_; rintro e4 w4 ⟨v4, bs, rfl, hb4, hl4, hU4, hfr4⟩; have O4 := HO0.out.trans hU4; have t7 : w4.cell? ⟨PP, 7, none⟩ = some (.pointer (some ⟨D, 0, none⟩)) := Old.cellOf' O4 p7; have HA4 := HA.out w4 v4 bs O4 hb4 hl4 (fun ad n c e => Nat.le_trans HO0.out.size (hfr4 ad n c e)); have HO4 := Lib.hid O4; clear O4 hU4 hfr4 hb4 r7) | (go_at_call 68; refine HA4.mono ?_; rintro e5 w5 ⟨rfl, col5, hd5, hU5, hk5⟩; have t7' : w5.cell? ⟨PP, 7, none⟩ = some (.pointer (some ⟨D, 0, none⟩)) := hU5.cellOf t7 hPP1; have HK5 := HKS.out w5 col5 hd5; have HU5 := Lib.hid hU5; have HK5' := Lib.hid hk5; clear hd5 hU5 hk5 HA4 HKS) | (go_at_call 32; refine HK5.mono ?_; rintro e6 w6 ⟨rfl, hd6, hU6⟩; have t8 : w6.cell? ⟨PP, 8, none⟩ = some (.pointer (some ⟨B, 0, none⟩)) := cl8 HO4.out HU5.out HK5'.out hU6; have HS6 := HSE.out w6 col5 (cl9 HO4.out HU5.out HK5'.out hU6) (cl10 HO4.out HU5.out HK5'.out hU6); have HD6 := Lib.hid hd6; have HU6 := Lib.hid hU6; clear hd6 hU6 HK5 HSE) | (go_at_call 84; refine HS6.mono ?_; rintro e7 w7 ⟨rfl, ht7, hU7⟩))
   go_ret;have h4 := HH.out.old HO4.out HKT.out hq0.1 hq0.2;have hl4 := HO4.out.size;have hc5 : ∀ b, b < w.heap.size → col5 b = col b := fun b hb => by rw [HK5'.out b (by omega), HKT.out b hb]
   have u5 := HU5.out;have u6 := HU6.out;have hP5 : col5 PP = (4, 0) := by rw [hc5 _ hPl, HH.out.cP]
   have hs5 : (col5 1).1 = 0 := by rw [hc5 _ hq0.2, HH.out.cs]
   have hd5 : (col5 2).1 = 0 := by rw [hc5 _ hq0.1, HH.out.cd]
   refine ⟨rfl, col5, fun j => if j = used - 1 then lens (used - 1) + 16 else lens j, ⟨?_, hP5, (HD6.out.other hU7 (fun b h => by rw [h]; decide) (Kept.refl _ _)).mono (fun _ _ _ => trivial), ht7, ?_, ?_, ?_, hd5, hs5, h4.n4, h4.n9, h4.z1, h4.z2, h4.vv, fun i h1 h2 => ?_, fun i hi => ?_, fun h => (by cases h), h4.un, h4.nx⟩, ?_, fun b hb => hc5 b hb⟩
   ·obtain ⟨t, hp⟩ := h4.p;exact ⟨t, hU7.has (u6.has (u5.has hp hPP1) (by rw [hP5]; decide)) (by rw [hP5]; decide)⟩
   ·exact (((h4.idx.other u5 (fun b h => by rw [h]; decide) HK5'.out).other u6 (fun b h => by rw [h]; decide) (Kept.refl _ _)).other hU7 (fun b h => by rw [h]; decide) (Kept.refl _ _)).mono (fun i hi => by split <;> (try subst_vars) <;> omega)
   ·exact ((h4.db.upd u5 (by rw [hdg]; decide)).upd u6 (by rw [hd5]; decide)).upd hU7 (by rw [hd5]; decide)
   ·exact ((h4.se.upd u5 (by rw [hsg]; decide)).upd u6 (by rw [hs5]; decide)).upd hU7 (by rw [hs5]; decide)
   ·rw [if_neg (by omega)]
    exact h4.zero i h1 h2
   ·split
    ·exact hlen
    ·exact h4.fits i hi
   ·refine ((((Upd.mono HO4.out (fun _ _ x => x.elim)).after u5 (fun b hb h => ?_)).after u6 (fun b hb h => ?_)).after hU7 (fun b hb h => ?_))
    ·rw [HKT.out b hb] at h; omega
    ·rw [hc5 b hb] at h; omega
    ·rw [hc5 b hb] at h; omega
end Go.M
