/- Walks 36. -/
import Derived.Test.YtjadmbkmlehfdaaGreatDoorProg
import Derived.Test.YtjadmbkmlehfdaaGreatDoorK33
import Derived.Test.YtjadmbkmlehfdaaGreatDoorK34
import Derived.Test.YtjadmbkmlehfdaaGreatDoorK35
set_option linter.unusedVariables false
set_option linter.unusedSimpArgs false
set_option maxRecDepth 100000
namespace Go.M
open Go.Proofs Go.RowKit Go.Shelf
set_option linter.unusedSimpArgs false
attribute [local go_sem] Oper.semAt_some
def fndL (l : List (ByteArray × Ent)) : List (ByteArray × Nat) := l.map fun x => (x.1, x.2.seq)
theorem wpListIn_append_mk {F : Fence} {n : Nat} {P : Program} (w : World) {ops : Array Oper} {rest : List Oper} {o : Oper} {a : Act} {Q : Exit → Act → World → Prop}
 (hg : o.guard = none) (s x : Operand) (t : TypeId) (hop : o.op = Op.call { callee := Callee.builtin Builtin.append, args := #[s, x], argTypes := #[t, t] })
 (e : TypeId) (i : TypeInfo) (z : Value) (size bytes : Nat) (h1 : P.underlying t = some (.slice e)) (h2 : P.info? e = some i) (h3 : i.zero = some z) (h4 : i.size = size) (h5 : i.bytes = bytes) (h6 : z.cells.size = size) (h7 : 0 < size)
 (v : Value) (k : Nat) (xs : List Value) (hs : a.eval s = v) (hown : w.ownsRow 0 e size v k xs) (ad : Addr) (m c : Nat) (news : List Value) (hx : a.eval x = .slice (some ad) m c) (hn : news.length = m * size)
 (hc : ∀ j u, news[j]? = some u → w.cell? (ad.add j) = some u) (h1c : ∀ u ∈ news, u.oneCell' = true) (b1 : k + m ≤ maxLen) (b2 : (k + m) * bytes ≤ 140737488355328)
 (hK : ∀ v' w', w'.ownsRow 0 e size v' (k + m) (xs ++ news) → w.grownBy w' v.ownBlock → (∀ k, v'.ownBlock = some k → v.ownBlock = some k ∨ w.heap.size ≤ k) → wpListIn F n P ops Q rest (a.put o.dst v') w') :
 wpListIn F n P ops Q (o :: rest) a w := by
 refine wpListIn_plain hg fun K hK' => ?_
 obtain ⟨v', w', hrun, r1, r2, -, r3⟩ := run_append_mk (P := P) w t o.type e i z size bytes h1 h2 h3 h4 h5 h6 h7 v k xs hown ad m c news hn hc h1c b1 b2
 unfold Oper.wpIn
 refine ⟨?_, ?_⟩
 ·simp [Oper.about, hop, resolve, Target.leads, Sem.run_pure]
 ·rw [Oper.semAt_plain F _ _ (by rw [hop]; intro c hc'; cases hc')]
  simp [execOp, hop, resolve, invoke, builtin, hs, hx, hrun, Result.andThen]
  exact hK' _ _ (hK v' w' r1 r2 r3)
structure LvI (w : World) (X : Nat) (pre : List (ByteArray × Ent)) (v : Value) (V : World) : Prop where
 h : Has V w.heap.size 55 #[v]
 r : V.ownsRow 0 126 2 v (fndL pre).length (fndOf (fndL pre))
 n : ∀ b, v.ownBlock = some b → w.heap.size + 2 ≤ b
 p : V.cell? ⟨w.heap.size + 1, 0, none⟩ = some (.pointer (some ⟨X, 0, none⟩))
 o : Old w V
def LvW (w : World) (V : World) (k : Nat) : Prop := ∃ v, V.cell? ⟨w.heap.size, 0, none⟩ = some v ∧ v.ownBlock = some k
theorem LvI.own {w V : World} {X k : Nat} {pre : List (ByteArray × Ent)} {v : Value} (h : LvI w X pre v V) : LvW w V k ↔ v.ownBlock = some k := by
 have hc : V.cell? ⟨w.heap.size, 0, none⟩ = some v := h.h.cell 0
 unfold LvW
 rw [hc]
 simp
theorem LvI.grown {w A B : World} {X : Nat} {pre : List (ByteArray × Ent)} {v : Value} {row : Option Nat} (h : LvI w X pre v A) (hg : A.grownBy B row) (hr : ∀ r, row = some r → w.heap.size ≤ r ∧ ∃ o : Obj, A.heap[r]? = some o ∧ o.isCells = false) : LvI w X pre v B := by
 have U : Upd (fun b => row = some b) A B := (Upd.refl _ A).grown hg (fun k e => .inl e)
 have nr : ∀ {b : Nat} {t : TypeId} {c : Array Value}, Has A b t c → ¬ row = some b := fun hh => not_row hh (fun r e => (hr r e).2)
 refine ⟨U.has h.h (nr h.h), Upd.own U h.r (fun b hb => ?_), h.n, cell_kept h.p hg (fun r e => (hr r e).2), h.o.grown hg (fun k e => .inr (hr k e).1)⟩
 obtain ⟨cur, hc⟩ := own_has' h.r hb
 exact nr hc
end Go.M
namespace Go.M
open Go.Proofs Go.RowKit
set_option linter.unusedSimpArgs false
variable {V : World} {O n : Nat} {mv : Value} {key : Nat → ByteArray} {val : Nat → Value} {kz : Nat → List Ent} {B : Nat → Prop} {M : ByteArray → List Ent}
end Go.M
namespace Go.M
open Go.Proofs Go.RowKit Go.Shelf
def insB (e : Ent) (zs : List Ent) : List Ent := zs.filter (fun x => x.before e) ++ e :: zs.filter (fun x => !x.before e)
def addM (M : ByteArray → List Ent) (e : Ent) : ByteArray → List Ent := fun k => if k = e.key then insB e (M k) else M k
def addE (es : Nat → List Ent) (e : Ent) : Nat → List Ent := fun i => if i = e.slot then es i ++ [e] else es i
theorem filter_take {p : Ent → Bool} : ∀ {zs : List Ent} {r : Nat}, r ≤ zs.length → (∀ i x, zs[i]? = some x → (p x = true ↔ i < r)) → zs.take r = zs.filter p ∧ zs.drop r = zs.filter (fun x => !p x)
 | [], r, _, _ => by simp
 | z :: zs, 0, h0, h => by
  have hz : p z = false := by
   have := (h 0 z rfl)
   cases hp : p z with
   | false => rfl
   | true => have := this.1 hp; omega
  have ih := filter_take (zs := zs) (r := 0) (Nat.zero_le _) (fun i x hx => ⟨fun hp => by have := (h (i + 1) x (by simpa using hx)).1 hp; omega, fun hp => by omega⟩)
  constructor
  ·rw [List.filter_cons, hz]
   simpa using ih.1
  ·rw [List.filter_cons, hz]
   simpa using ih.2
 | z :: zs, r + 1, h0, h => by
  have hz : p z = true := (h 0 z rfl).2 (by omega)
  have ih := filter_take (zs := zs) (r := r) (by simpa using h0) (fun i x hx => ⟨fun hp => by have := (h (i + 1) x (by simpa using hx)).1 hp; omega, fun hi => (h (i + 1) x (by simpa using hx)).2 (by omega)⟩)
  constructor
  ·rw [List.filter_cons, hz, List.take_succ_cons, ih.1]; rfl
  ·rw [List.filter_cons, hz, List.drop_succ_cons, ih.2]; rfl
theorem Place.ins {e : Ent} {rk : Nat} {zs : List Ent} (h : Place e rk zs) : zs.take rk ++ e :: zs.drop rk = insB e zs := by
 obtain ⟨h1, h2⟩ := filter_take h.1 h.2
 rw [h1, h2]
 rfl
theorem mem_insB {e y : Ent} {zs : List Ent} : y ∈ insB e zs ↔ y = e ∨ y ∈ zs := by
 unfold insB
 rw [List.mem_append, List.mem_cons, List.mem_filter, List.mem_filter]
 cases hb : y.before e with
 | true => simp; exact or_comm
 | false => simp
theorem mem_addM {M : ByteArray → List Ent} {e y : Ent} {k : ByteArray} : y ∈ addM M e k ↔ (k = e.key ∧ y = e) ∨ y ∈ M k := by
 unfold addM
 split
 ·next h => rw [mem_insB]; simp [h]
 ·next h => simp [h]
def IdxLe (c n : Nat) (M : ByteArray → List Ent) (s : IdxS) : Prop := s.mn ≤ c ∧ (∀ k, (M k).length ≤ c) ∧ ∀ i, i < n → (s.es i).length ≤ c
theorem ConM.add {n : Nat} {M : ByteArray → List Ent} {es : Nat → List Ent} {e : Ent} (h : ConM n M es) (hs : e.slot < n) (hf : ∀ x ∈ M e.key, Fit e x) (hd : ∀ x ∈ es e.slot, x.seq ≠ e.seq) (hso : (insB e (M e.key)).Pairwise (fun x y => x.before y = true)) : ConM n (addM M e) (addE es e) := by
 refine ⟨fun i hi x hx => ?_, fun k y hy => ?_, fun k => ?_, fun i hi => ?_⟩
 ·unfold addE at hx
  split at hx
  ·next hie =>
   rcases List.mem_append.1 hx with hx | hx
   ·obtain ⟨h1, h2⟩ := h.a i hi x hx
    exact ⟨h1, mem_addM.2 (.inr h2)⟩
   ·simp at hx
    subst hx
    exact ⟨hie.symm, mem_addM.2 (.inl ⟨rfl, rfl⟩)⟩
  ·obtain ⟨h1, h2⟩ := h.a i hi x hx
   exact ⟨h1, mem_addM.2 (.inr h2)⟩
 ·rcases mem_addM.1 hy with ⟨rfl, rfl⟩ | hy
  ·exact ⟨rfl, hs, by simp [addE]⟩
  ·obtain ⟨h1, h2, h3⟩ := h.b k y hy
   refine ⟨h1, h2, ?_⟩
   unfold addE
   split
   ·exact List.mem_append_left _ h3
   ·exact h3
 ·unfold addM
  split
  ·next hk => rw [hk]; exact hso
  ·exact h.ord k
 ·unfold addE
  split
  ·next hie =>
   subst hie
   exact List.pairwise_append.2 ⟨h.dis _ hi, by simp, fun x hx y hy => by simp at hy; subst hy; exact hd x hx⟩
  ·exact h.dis i hi
variable {w : World} {col : Col} {q X n : Nat} {M : ByteArray → List Ent} {s : IdxS}
theorem IdxC.add {e : Ent} {c : Nat} (h : IdxC w col q X n M s) (hs : e.slot < n) (hok : EntOk1 e) (ho : ∀ x ∈ s.es e.slot, x.off + x.size ≤ e.off ∧ x.off < e.off) (hd : ∀ x ∈ s.es e.slot, x.seq ≠ e.seq)
 (hcp : ∀ i, i < n → ∀ x ∈ s.es i, x.seq = e.seq → x.key = e.key ∧ x.del = e.del ∧ x.size = e.size) (hle : IdxLe c n M s) (hc : c < 100) (hcol : ∀ b, w.heap.size ≤ b → (col b).1 = 0) (hq : q ≠ 0) :
 Calls Tryz.prog 64 #[.pointer (some ⟨X, 0, none⟩), e.val] w fun en w' => en = .returned (.int .i64 0) ∧ Upd (fun b => (col b).1 = q) w w' ∧
  ∃ col' s', IdxC w' col' q X n (addM M e) s' ∧ s'.es = addE s.es e ∧ IdxLe (c + 1) n (addM M e) s' ∧ Kept w col col' ∧ (∀ b, w'.heap.size ≤ b → (col' b).1 = 0) ∧ ∀ b, w.heap.size ≤ b → (col' b).1 = q ∨ (col' b).1 = 0 := by
 obtain ⟨⟨tX, fX⟩, fS, fs, kv, own, len, cX, cO, cS, cm, cv, lo, hi, con⟩ := h
 obtain ⟨hl1, hl2, hl3⟩ := hle
 obtain ⟨tO, hO⟩ := kv.om.made
 have hap : AddApart X s.O s.S s.mn s.mv (s.sv e.slot) s.val := by
  have nb : ∀ {a b : Nat} {i j : Nat}, col a = (q, i) → col b = (q, j) → i ≠ j → a ≠ b := fun h1 h2 h3 => col_ne h1 h2 (by simpa using h3)
  refine ⟨nb cX cS (by omega), nb cX cO (by omega), nb cS cO (by omega), fun h => ?_, fun h => ?_, fun h => ?_, fun h => ?_, fun h => ?_, fun h => ?_, fun b h1 h2 => ?_, fun r hr h => ?_, fun r hr h => ?_, fun r hr b h1 h2 => ?_, fun r hr b h1 h2 => ?_⟩
  ·have := cv _ hs _ h; rw [cX] at this; simp at this; omega
  ·have := cv _ hs _ h; rw [cS] at this; simp at this; omega
  ·have := cv _ hs _ h; rw [cO] at this; simp at this; omega
  ·have := cm _ h; rw [cX] at this; simp at this
  ·have := cm _ h; rw [cS] at this; simp at this
  ·have := cm _ h; rw [cO] at this; simp at this
  ·have := cm _ h1; rw [cv _ hs _ h2] at this; simp at this; omega
  ·have := kv.bl r hr _ h; rw [cS] at this; simp at this
  ·have := kv.bl r hr _ h; rw [cO] at this; simp at this
  ·have := kv.bl r hr _ h1; rw [cv _ hs _ h2] at this; simp at this; omega
  ·have := kv.bl r hr _ h1; rw [cm _ h2] at this; simp at this
 have hkz : ∀ r, r < s.mn → s.kz r = M (s.key r) := fun r hr => (kv.mp r hr).2.symm
 have hft : ∀ k, ∀ x ∈ M k, Fit e x := fun k x hx hqq => by
  obtain ⟨a1, a2, a3⟩ := con.b k x hx
  obtain ⟨b1, b2, b3⟩ := hcp _ a2 x a3 hqq
  exact ⟨b1, b2, b3, fun he => hd x (by rw [← he]; exact a3) hqq⟩
 have hE : ∀ r, r < s.mn → ∃ zs : List {x : Ent // Fit e x}, zs.length ≤ c ∧ EntsB w.heap.size w (s.val r) zs ∧ (fun (r : Nat) (l : List Ent) => l = s.kz r) r (zs.map (·.1)) := fun r hr => by
  have hz := withQ_map (fun x => Fit e x) (s.kz r) (fun x hx => hft (s.key r) x (by rw [← hkz r hr]; exact hx))
  exact ⟨withQ _ (s.kz r) _, by rw [← List.length_map (f := (·.1)), hz, hkz r hr]; exact hl2 _, EntsB.of_own (kv.row r hr) _ hz, hz⟩
 refine (iadd (Q := fun r l => l = s.kz r) (L := c) (by omega) fX fS (fs _ hs) hs hi kv.om hE (fun r hr l hl => by subst hl; rw [hkz r hr]; exact (con.ord _).imp (fun h1 h2 => before_trans h1 h2)) (own _ hs) (by have := len _ hs; omega) ho hok hap (by omega)).mono ?_
 rintro en w' ⟨rfl, sv', mv', v5, mn', key', val', zs, rk, U, fS', own', hfr, fM', hfm, hmn, ⟨h5, hz1, ⟨hpl, hft'⟩, hf5⟩, hd1, hd2, hdesc, hzz⟩
 have hzM : zs = M e.key := by
  rcases hzz with ⟨rfl, hn⟩ | ⟨r, r1, r2, rfl⟩
  ·rcases hM : M e.key with _ | ⟨y, l⟩
   ·rfl
   ·obtain ⟨r, r1, r2⟩ := kv.on e.key (by rw [hM]; simp)
    exact absurd r2 (hn r r1)
  ·rw [hkz r r1, r2]
 have hins : zs.take rk ++ e :: zs.drop rk = insB e (M e.key) := by rw [← hzM]; exact hpl.ins
 have hlen5 : (zs.take rk ++ e :: zs.drop rk).length = zs.length + 1 := ins_length hpl.1
 have hG : ∀ b, (b = s.O ∨ b = s.S ∨ (s.sv e.slot).ownBlock = some b ∨ s.mv.ownBlock = some b) → (col b).1 = q := fun b h => by
  rcases h with rfl | rfl | h | h
  ·rw [cO]
  ·rw [cS]
  ·rw [cv _ hs b h]
  ·rw [cm b h]
 have nG : ∀ b k, col b = (q, k) → k ≠ 1 → k ≠ 2 → k ≠ 3 → k ≠ 5 + e.slot → ¬ (b = s.O ∨ b = s.S ∨ (s.sv e.slot).ownBlock = some b ∨ s.mv.ownBlock = some b) := fun b k hb h1 h2 h3 h4 h => by
  rcases h with rfl | rfl | h | h
  ·rw [cO] at hb; simp at hb; omega
  ·rw [cS] at hb; simp at hb; omega
  ·have := cv _ hs b h; rw [hb] at this; simp at this; omega
  ·have := cm b h; rw [hb] at this; simp at this; omega
 have kL : ∀ b, b < w.heap.size → paintIdx col q e.slot w.heap.size sv' mv' v5 b = col b := fun b hb => by unfold paintIdx; rw [if_pos hb]
 have sz := U.size
 have c5 : ∀ b, v5.ownBlock = some b → paintIdx col q e.slot w.heap.size sv' mv' v5 b = (q, 4) := fun b hb => by
  have hL := hf5 b hb
  unfold paintIdx
  rw [if_neg (by omega), if_neg (fun h => (hd1 b h).1 hb), if_neg (fun h => hd2 b h hb), if_pos hb]
 have cm' : ∀ b, mv'.ownBlock = some b → paintIdx col q e.slot w.heap.size sv' mv' v5 b = (q, 3) := fun b hb => by
  rcases hfm b hb with h1 | h1
  ·rw [kL _ (own_lt kv.om.own h1), cm b h1]
  ·unfold paintIdx
   rw [if_neg (by omega), if_neg (fun h => (hd1 b h).2 hb), if_pos hb]
 have cO' : paintIdx col q e.slot w.heap.size sv' mv' v5 s.O = (q, 1) := by rw [kL _ hO.lt, cO]
 have cp : ∀ b i j, paintIdx col q e.slot w.heap.size sv' mv' v5 b = (q, i) → paintIdx col q e.slot w.heap.size sv' mv' v5 b = (q, j) → i = j := fun b i j h1 h2 => by rw [h1] at h2; simpa using h2
 have hvl : ∀ r, r < s.mn → ∀ b, (s.val r).ownBlock = some b → b < w.heap.size := fun r hr b hb => own_lt (kv.row r hr) hb
 obtain ⟨kz', hkv⟩ := kv.put (B' := fun b => paintIdx col q e.slot w.heap.size sv' mv' v5 b = (q, 4)) U (fun r hr b hb => nG b 4 (kv.bl r hr b hb) (by omega) (by omega) (by omega) (by omega)) fM' hdesc (l := zs.take rk ++ e :: zs.drop rk) (by rw [hlen5]; exact h5) (by simp) (by rw [hlen5]; omega) (by omega) (fun hb => by have := cp _ _ _ (cm' _ hb) cO'; omega)
  (fun b hb => ⟨fun he => by have := cp _ _ _ (c5 b hb) (by rw [he]; exact cO'); omega, fun h2 => hd2 b h2 hb⟩) (fun r hr b hb h2 => by
    have h1 : paintIdx col q e.slot w.heap.size sv' mv' v5 b = (q, 4) := by rw [kL _ (hvl r hr b hb)]; exact kv.bl r hr b hb
    have := cp _ _ _ h1 (cm' b h2); omega)
  (fun r hr b hb => by rw [kL _ (hvl r hr b hb)]; exact kv.bl r hr b hb) (fun b hb => c5 b hb)
 have hM' : (fun j => if j = e.key then zs.take rk ++ e :: zs.drop rk else M j) = addM M e := by
  funext j
  unfold addM
  split
  ·next hj => rw [hj, ← hins]
  ·rfl
 rw [hM'] at hkv
 refine ⟨rfl, U.mono (fun b _ => hG b), paintIdx col q e.slot w.heap.size sv' mv' v5, { s with cS := s.cS.setIfInBounds e.slot sv', mv := mv', mn := mn', key := key', val := val', sv := fun i => if i = e.slot then sv' else s.sv i, es := addE s.es e, kz := kz' }, ⟨⟨tX, U.has fX (nG _ _ cX (by omega) (by omega) (by omega) (by omega))⟩, fS', fun i hi => ?_, hkv, fun i hi => ?_, fun i hi => ?_, by rw [kL _ fX.lt, cX], cO', by show paintIdx col q e.slot w.heap.size sv' mv' v5 s.S = _; rw [kL _ fS.lt, cS], cm', fun i hi b hb => ?_, lo, hi, con.add hs (hft _) hd (by rw [← hins]; exact hpl.sorted (by rw [hzM]; exact con.ord _) hft')⟩, rfl, ⟨by show mn' ≤ c + 1; omega, fun k => ?_, fun i hi => ?_⟩, fun b hb => kL b hb, fun b hb => ?_, fun b hb => ?_⟩
 ·have hlt : e.slot < s.cS.size := by have := fs _ hs; exact (Array.getElem?_eq_some_iff.1 this).1
  by_cases hie : i = e.slot
  ·subst hie
   simp [hlt]
  ·simp only [if_neg hie]
   rw [Array.getElem?_setIfInBounds_ne (fun h => hie h.symm)]
   exact fs i hi
 ·by_cases hie : i = e.slot
  ·subst hie
   simp only [addE, if_true]
   rw [List.length_append]
   exact own'
  ·simp only [addE, if_neg hie]
   exact Upd.own U (own i hi) (fun b hb => nG _ _ (cv i hi b hb) (by omega) (by omega) (by omega) (by omega))
 ·by_cases hie : i = e.slot
  ·have := hl3 i hi
   simp only [addE, if_pos hie, List.length_append, List.length_cons, List.length_nil]
   omega
  ·simp only [addE, if_neg hie]
   exact len i hi
 ·by_cases hie : i = e.slot
  ·subst hie
   simp only [if_true] at hb
   rcases hfr b hb with h1 | h1
   ·rw [kL _ (own_lt (own _ hs) h1), cv _ hs b h1]
   ·unfold paintIdx
    rw [if_neg (by omega), if_pos hb]
  ·simp only [if_neg hie] at hb
   rw [kL _ (own_lt (own i hi) hb), cv i hi b hb]
 ·have := hl2 k
  unfold addM
  split
  ·next hk => rw [hk, ← hins, hlen5, hzM]; have := hl2 e.key; omega
  ·omega
 ·have := hl3 i hi
  show (addE s.es e i).length ≤ c + 1
  unfold addE
  split
  ·rw [List.length_append]; simp; omega
  ·omega
 ·have h0 := hcol b (by omega)
  unfold paintIdx
  rw [if_neg (by omega)]
  split
  ·next h => have := own_lt own' h; omega
  ·split
   ·next h => have := own_lt fM'.own h; omega
   ·split
    ·next h => have := own_lt h5 h; omega
    ·exact h0
 ·have h0 := hcol b hb
  unfold paintIdx
  rw [if_neg (by omega)]
  split
  ·exact .inl rfl
  ·split
   ·exact .inl rfl
   ·split
    ·exact .inl rfl
    ·exact .inr h0
end Go.M
namespace Go.M
open Go.Proofs Go.RowKit
set_option linter.unusedSimpArgs false
abbrev Ix := (ByteArray → List Ent) × (Nat → List Ent)
def dropX (X : Ix) (s : Nat) : Ix := (leftOf X.1 (X.2 s), dropE X.2 s)
def ordL : Nat → List Nat → Ix → List Nat
 | 0, _, _ => []
 | f + 1, S, X => match S.find? (fun s => redM X.1 X.2 s) with
  | none => []
  | some s => s :: ordL f (S.erase s) (dropX X s)
theorem ordL_sub : ∀ f S X, ∀ s ∈ ordL f S X, s ∈ S
 | 0, _, _, s, h => by simp [ordL] at h
 | f + 1, S, X, s, h => by
  unfold ordL at h
  split at h
  ·cases h
  ·next t ht =>
   rcases List.mem_cons.1 h with rfl | h
   ·exact List.mem_of_find?_eq_some ht
   ·exact List.mem_of_mem_erase (ordL_sub f _ _ s h)
theorem ordL_nodup : ∀ f S X, S.Nodup → (ordL f S X).Nodup
 | 0, _, _, _ => by simp [ordL]
 | f + 1, S, X, hS => by
  unfold ordL
  split
  ·exact List.nodup_nil
  ·next t ht =>
   refine List.nodup_cons.2 ⟨fun h => ?_, ordL_nodup f _ _ (hS.erase t)⟩
   have := ordL_sub f _ _ t h
   rw [hS.mem_erase_iff] at this
   exact this.1 rfl
theorem ordL_end : ∀ f S X, S.Nodup → S.length ≤ f → ∀ s ∈ S, s ∉ ordL f S X → redM ((ordL f S X).foldl dropX X).1 ((ordL f S X).foldl dropX X).2 s = false
 | 0, S, X, _, hl, s, hs, _ => by
  have : S = [] := List.eq_nil_of_length_eq_zero (by omega)
  rw [this] at hs
  cases hs
 | f + 1, S, X, hS, hl, s, hs, hn => by
  unfold ordL at hn ⊢
  split
  ·next h =>
   simpa using List.find?_eq_none.1 h s hs
  ·next t ht =>
   rw [ht] at hn
   simp only [List.mem_cons, not_or] at hn
   have hts := List.mem_of_find?_eq_some ht
   rw [List.foldl_cons]
   exact ordL_end f (S.erase t) (dropX X t) (hS.erase t) (by rw [List.length_erase_of_mem hts]; omega) s (hS.mem_erase_iff.2 ⟨hn.1, hs⟩) hn.2
theorem Copies.drop {n : Nat} {es : Nat → List Ent} (h : Copies n es) (i : Nat) : Copies n (dropE es i) := by
 have sub : ∀ k x, x ∈ dropE es i k → x ∈ es k := fun k x hx => by
  unfold dropE at hx
  split at hx
  ·cases hx
  ·exact hx
 exact fun a ha x hx b hb y hy hq => h a ha x (sub a x hx) b hb y (sub b y hy) hq
end Go.M
