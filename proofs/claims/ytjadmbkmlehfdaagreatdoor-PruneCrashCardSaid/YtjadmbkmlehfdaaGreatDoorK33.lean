/- Walks 33. -/
import Derived.Test.YtjadmbkmlehfdaaGreatDoorProg
import Derived.Test.YtjadmbkmlehfdaaGreatDoorK26
import Derived.Test.YtjadmbkmlehfdaaGreatDoorK32
import Derived.Test.YtjadmbkmlehfdaaGreatDoorK30
import Derived.Test.YtjadmbkmlehfdaaGreatDoorK25
set_option linter.unusedVariables false
set_option linter.unusedSimpArgs false
set_option maxRecDepth 100000
namespace Go.M
open Go.Proofs Go.RowKit Go.Shelf
structure ConM (n : Nat) (M : ByteArray → List Ent) (es : Nat → List Ent) : Prop where
 a : ∀ i, i < n → ∀ x ∈ es i, x.slot = i ∧ x ∈ M x.key
 b : ∀ k, ∀ y ∈ M k, y.key = k ∧ y.slot < n ∧ y ∈ es y.slot
 ord : ∀ k, (M k).Pairwise (fun x y => x.before y = true)
 dis : ∀ i, i < n → (es i).Pairwise (fun x y => x.seq ≠ y.seq)
def Copies (n : Nat) (es : Nat → List Ent) : Prop := ∀ i, i < n → ∀ x ∈ es i, ∀ j, j < n → ∀ y ∈ es j, x.seq = y.seq → x.key = y.key ∧ x.del = y.del ∧ x.size = y.size
def mapOf (mn : Nat) (key : Nat → ByteArray) (kz : Nat → List Ent) (k : ByteArray) : List Ent := match (List.range mn).find? (fun r => decide (key r = k)) with
 | some r => kz r
 | none => []
theorem mapOf_at {mn : Nat} {key : Nat → ByteArray} {kz : Nat → List Ent} (inj : ∀ i j, i < mn → j < mn → key i = key j → i = j) {r : Nat} (hr : r < mn) : mapOf mn key kz (key r) = kz r := by
 unfold mapOf
 rcases h : (List.range mn).find? (fun q => decide (key q = key r)) with _ | q
 ·rw [List.find?_eq_none] at h
  have := h r (List.mem_range.2 hr)
  simp at this
 ·have h1 := List.find?_some h
  have h2 := List.mem_of_find?_eq_some h
  simp only [decide_eq_true_eq] at h1
  rw [List.mem_range] at h2
  rw [inj q r h2 hr h1]
theorem mapOf_on {mn : Nat} {key : Nat → ByteArray} {kz : Nat → List Ent} {k : ByteArray} {y : Ent} (h : y ∈ mapOf mn key kz k) : ∃ r, r < mn ∧ key r = k ∧ mapOf mn key kz k = kz r := by
 unfold mapOf at h ⊢
 rcases hf : (List.range mn).find? (fun q => decide (key q = k)) with _ | q
 ·rw [hf] at h; cases h
 ·have h1 := List.find?_some hf
  have h2 := List.mem_of_find?_eq_some hf
  simp only [decide_eq_true_eq] at h1
  rw [List.mem_range] at h2
  exact ⟨q, h2, h1, rfl⟩
theorem Con.toM {n mn : Nat} {key : Nat → ByteArray} {kz es : Nat → List Ent} (h : Con n mn key kz es) : ConM n (mapOf mn key kz) es := by
 refine ⟨fun i hi x hx => ?_, fun k y hy => ?_, fun k => ?_, h.dis⟩
 ·obtain ⟨h1, r, h2, h3, h4⟩ := h.a i hi x hx
  exact ⟨h1, by rw [← h3, mapOf_at h.inj h2]; exact h4⟩
 ·obtain ⟨r, h1, rfl, h3⟩ := mapOf_on hy
  rw [h3] at hy
  exact (h.b r h1).2 y hy
 ·rcases hM : mapOf mn key kz k with _ | ⟨y, l⟩
  ·exact List.Pairwise.nil
  ·obtain ⟨r, h1, rfl, h3⟩ := mapOf_on (k := k) (y := y) (by rw [hM]; exact List.mem_cons_self ..)
   rw [← hM, h3]
   exact h.ord r h1
structure IdxC (w : World) (col : Col) (q X n : Nat) (M : ByteArray → List Ent) (s : IdxS) : Prop where
 fX : ∃ t, Has w X t #[.pointer (some ⟨s.O, 0, none⟩), .slice (some ⟨s.S, 0, none⟩) n s.c]
 fS : Has w s.S s.tS s.cS
 fs : ∀ i, i < n → s.cS[i]? = some (s.sv i)
 kv : KvIn w s.O s.mv s.mn s.key s.val s.kz (fun b => col b = (q, 4)) M
 own : ∀ i, i < n → w.ownsRow 0 47 6 (s.sv i) (s.es i).length (rowOf (s.es i))
 len : ∀ i, i < n → (s.es i).length ≤ 100
 cX : col X = (q, 0)
 cO : col s.O = (q, 1)
 cS : col s.S = (q, 2)
 cm : ∀ b, s.mv.ownBlock = some b → col b = (q, 3)
 cv : ∀ i, i < n → ∀ b, (s.sv i).ownBlock = some b → col b = (q, 5 + i)
 lo : 0 < n
 hi : n ≤ 10
 con : ConM n M s.es
theorem IdxIn.toC {w : World} {col : Col} {q X n next used : Nat} {lens : Nat → Nat} {zm : Nat} {s : IdxS} (h : IdxIn w col q X n next used lens zm s) (h0 : 0 < n) : IdxC w col q X n (mapOf s.mn s.key s.kz) s := by
 obtain ⟨fX, fS, fs, fM, mn, own, len, ent, uni, ne, kv, cX, cO, cS, cm, cv, hi, few, con⟩ := h
 refine ⟨fX, fS, fs, ⟨fM, by omega, fun e => ?_, fun r hr => (kv r hr).1, fun r hr => by have := (kv r hr).2.1; omega, fun r hr b hb => ⟨fun e => ?_, fun e => ?_⟩, fun r hr => ⟨(con.b r hr).1, mapOf_at con.inj hr⟩, fun k hk => ?_, con.inj, fun r hr b hb => (kv r hr).2.2.2 b hb⟩, own, fun i hi => by have := len i hi; omega, cX, cO, cS, cm, cv, h0, hi, con.toM⟩
 ·have := cm _ e; rw [cO] at this; simp at this
 ·have := (kv r hr).2.2.2 b hb; rw [e, cO] at this; simp at this
 ·have := (kv r hr).2.2.2 b hb; rw [cm b e] at this; simp at this
 ·obtain ⟨y, hy⟩ := List.exists_mem_of_ne_nil _ hk
  obtain ⟨r, h1, h2, -⟩ := mapOf_on hy
  exact ⟨r, h1, h2⟩
variable {w : World} {col : Col} {q X n : Nat} {M : ByteArray → List Ent} {s : IdxS}
theorem IdxC.other {w' : World} {col' : Col} (h : IdxC w col q X n M s) {F : Nat → Prop} (U : Upd F w w') (hF : ∀ b, F b → (col b).1 ≠ q) (hc : Kept w col col') : IdxC w' col' q X n M s := by
 obtain ⟨⟨t, fX⟩, fS, fs, kv, own, len, cX, cO, cS, cm, cv, lo, hi, con⟩ := h
 have nF : ∀ b k, col b = (q, k) → ¬ F b := fun b k hb h => hF b h (by rw [hb])
 obtain ⟨tO, hO⟩ := kv.om.made
 have kv' := kv.upd U (nF _ _ cO) (fun b hb => nF _ _ (cm b hb)) (fun r hr b hb => nF _ _ (kv.bl r hr b hb))
 refine ⟨⟨t, U.has fX (nF _ _ cX)⟩, U.has fS (nF _ _ cS), fs, ⟨kv'.om, kv'.n5, kv'.mO, kv'.row, kv'.len, kv'.sep, kv'.mp, kv'.on, kv'.inj, fun r hr b hb => ?_⟩, fun i hi => Upd.own U (own i hi) (fun b hb => nF _ _ (cv i hi b hb)), len, by rw [hc _ fX.lt, cX], by rw [hc _ hO.lt, cO], by rw [hc _ fS.lt, cS], fun b hb => by rw [hc _ (own_lt kv.om.own hb), cm b hb], fun i hi b hb => by rw [hc _ (own_lt (own i hi) hb), cv i hi b hb], lo, hi, con⟩
 rw [hc _ (own_lt (kv.row r hr) hb), kv.bl r hr b hb]
theorem IdxC.xsl (h : IdxC w col q X n M s) : XSl w (.pointer (some ⟨X, 0, none⟩)) n := by
 obtain ⟨t, fX⟩ := h.fX
 exact .inr ⟨X, _, _, rfl, fX.cell 1⟩
theorem KvIn.ixk {V : World} {O m c S n : Nat} {mv : Value} {key : Nat → ByteArray} {val : Nat → Value} {kz : Nat → List Ent} {B : Nat → Prop} (h : KvIn V O mv n key val kz B M) (x0 : V.cell? ⟨X, 0, none⟩ = some (.pointer (some ⟨O, 0, none⟩))) (x1 : V.cell? ⟨X, 1, none⟩ = some (.slice (some ⟨S, 0, none⟩) m c)) (m0 : 0 < m) (k : ByteArray) : ∃ sv, IxK V X O S m c k sv (M k) := by
 by_cases hk : M k = []
 ·rw [hk]
  refine ⟨.slice none 0 0, x0, x1, m0, fun W U => ?_, World.ownsRow_nil _ _ _ _, by simp⟩
  refine (get_any (k := k) (h.om.upd U (fun x => x) (fun _ _ x => x))).mono ?_
  rintro e w' ⟨r', q1, q2, q3, hU, ⟨q4, q5, rfl⟩ | ⟨q4, rfl⟩⟩
  ·have := h.mp r' q4
   rw [q5, hk] at this
   exact absurd this.2.symm this.1
  ·exact ⟨⟨_, rfl⟩, hU⟩
 ·obtain ⟨r, h1, h2, h3, -, h4⟩ := h.get hk
  refine ⟨val r, x0, x1, m0, fun W U => (h4 W U).mono fun e w' ⟨a, b⟩ => ⟨⟨_, a⟩, b⟩, by rw [← h3]; exact h.row r h1, by rw [← h3]; exact h.len r h1⟩
theorem IdxC.ixk (h : IdxC w col q X n M s) (k : ByteArray) : ∃ sv, IxK w X s.O s.S n s.c k sv (M k) := by
 obtain ⟨t, fX⟩ := h.fX
 exact h.kv.ixk (fX.cell 0) (fX.cell 1) h.lo k
def redM (M : ByteArray → List Ent) (es : Nat → List Ent) (i : Nat) : Bool := ((es i).filter fun x => needE (M x.key) x).length == 0
theorem IdxC.red (h : IdxC w col q X n M s) {i : Nat} (hi : i < n) :
 Calls Tryz.prog 30 #[.pointer (some ⟨X, 0, none⟩), .int .i64 ((i : Nat) : Int)] w fun e w' => e = .returned (.tuple #[.bool (redM M s.es i), .int .i64 0]) ∧ Old w w' := by
 obtain ⟨t, fX⟩ := h.fX
 have hc : ∀ i, i < n → w.cell? ⟨s.S, i, none⟩ = some (s.sv i) := fun i hi => by
  have := h.fS.cell i
  rwa [h.fs i hi] at this
 have hI := fun k => Classical.choose_spec (h.ixk k)
 have hn := h.hi
 refine redundant_walk hI hi h.hi (hc i hi) (h.own i hi) (by have := h.len i hi; omega) (fun W' U' => ?_)
 exact (xcopy (Old.cellOf' U' (fX.cell 0)) (Old.cellOf' U' (fX.cell 1)) (by omega) h.hi (h.kv.upd U' (fun x => x) (fun _ _ x => x) (fun _ _ _ _ x => x)) (fun j hj => ⟨Old.cellOf' U' (hc j hj), Upd.own U' (h.own j hj) (fun _ _ x => x), by have := h.len j hj; omega⟩)).mono fun e w' h => ⟨⟨_, h.1⟩, h.2.1⟩
theorem IdxC.ilen (h : IdxC w col q X n M s) :
 Calls Tryz.prog 48 #[.pointer (some ⟨X, 0, none⟩)] w fun e w' => e = .returned (.int .i64 ((sumL (fun i => (s.es i).length) n : Nat) : Int)) ∧ Old w w' := by
 obtain ⟨t, fX⟩ := h.fX
 refine Go.M.ilen (fX.cell 1) h.lo h.hi (fun i hi => ?_) (fun i hi => by have := h.len i hi; omega)
 obtain ⟨a, c, e⟩ := own_slice (h.own i hi)
 exact ⟨a, c, by rw [h.fS.cell, h.fs i hi, e]⟩
def dropE (es : Nat → List Ent) (i : Nat) : Nat → List Ent := fun k => if k = i then [] else es k
theorem mem_leftOf {M : ByteArray → List Ent} {zs : List Ent} {k : ByteArray} {y : Ent} : y ∈ leftOf M zs k ↔ y ∈ M k ∧ y ∉ zs := by
 unfold leftOf
 rw [List.mem_filter, List.all_eq_true]
 refine and_congr_right fun _ => ⟨fun h hy => ?_, fun h x hx => ?_⟩
 ·have := h y hy
  rw [(entEq_iff y y).2 rfl] at this
  cases this
 ·cases he : entEq y x with
  | false => rfl
  | true => exact absurd ((entEq_iff y x).1 he ▸ hx) h
theorem ConM.drop {n : Nat} {M : ByteArray → List Ent} {es : Nat → List Ent} (h : ConM n M es) {i : Nat} (hi : i < n) : ConM n (leftOf M (es i)) (dropE es i) := by
 refine ⟨fun j hj x hx => ?_, fun k y hy => ?_, fun k => ?_, fun j hj => ?_⟩
 ·by_cases e : j = i
  ·simp [dropE, e] at hx
  ·simp only [dropE, if_neg e] at hx
   obtain ⟨h1, h2⟩ := h.a j hj x hx
   refine ⟨h1, mem_leftOf.2 ⟨h2, fun h3 => ?_⟩⟩
   have := (h.a i hi x h3).1
   omega
 ·obtain ⟨h1, h2⟩ := mem_leftOf.1 hy
  obtain ⟨a1, a2, a3⟩ := h.b k y h1
  refine ⟨a1, a2, ?_⟩
  have hne : y.slot ≠ i := fun e => h2 (by rw [← e]; exact a3)
  simpa only [dropE, if_neg hne] using a3
 ·exact (h.ord k).filter _
 ·by_cases e : j = i
  ·simp only [dropE, if_pos e]; exact List.Pairwise.nil
  ·simp only [dropE, if_neg e]; exact h.dis j hj
theorem IdxC.drop (h : IdxC w col q X n M s) {i : Nat} (hi : i < n) (hne : s.es i ≠ []) (hcol : ∀ b, w.heap.size ≤ b → (col b).1 = 0) (hq : q ≠ 0) :
 Calls Tryz.prog 31 #[.pointer (some ⟨X, 0, none⟩), .int .i64 ((i : Nat) : Int)] w fun en w' => (∃ k : Int, en = .returned (.tuple #[.int .i64 k, .int .i64 0])) ∧ Upd (fun b => (col b).1 = q) w w' ∧
  ∃ col' s', IdxC w' col' q X n (leftOf M (s.es i)) s' ∧ (s'.es = dropE s.es i ∧ s'.sv i = .slice none 0 0) ∧ Kept w col col' ∧ (∀ b, w'.heap.size ≤ b → (col' b).1 = 0) ∧ ∀ b, w.heap.size ≤ b → (col' b).1 = q ∨ (col' b).1 = 0 := by
 obtain ⟨⟨t, fX⟩, fS, fs, kv, own, len, cX, cO, cS, cm, cv, lo, h10, con⟩ := h
 obtain ⟨b, cap, hsv⟩ := own_block (own i hi) (List.length_pos_iff.2 hne)
 have hb := cv i hi b (by rw [hsv]; rfl)
 have hown := own i hi
 rw [hsv] at hown
 have nd : (s.es i).Nodup := (con.dis i hi).imp (fun h e => h (by rw [e]))
 have ne : ∀ {a b : Nat} {x y : Nat}, col a = (q, x) → col b = (q, y) → x ≠ y → a ≠ b := fun h1 h2 h3 => col_ne h1 h2 (by simpa using h3)
 have kv2 : KvIn w s.O s.mv s.mn s.key s.val s.kz (fun b => w.heap.size ≤ b ∨ col b = (q, 4)) M := ⟨kv.om, kv.n5, kv.mO, kv.row, kv.len, kv.sep, kv.mp, kv.on, kv.inj, fun r hr b hb => .inr (kv.bl r hr b hb)⟩
 obtain ⟨tO, hO⟩ := kv.om.made
 refine (idrop fX fS (by rw [fs i hi, hsv]) hi h10 hown (by have := len i hi; omega) kv2 (fun h => ?_) (fun b' hb' => .inl hb') (fun x hx => (con.a i hi x hx).2) (fun k y hy => (con.b k y hy).1) nd (ne cX cO (by omega)) (ne cS cO (by omega)) (ne cX cS (by omega)) (ne hb cO (by omega)) (ne hb cS (by omega)) (fun e => ?_) (fun e => ?_) (fun e => ?_)).mono ?_
 ·rcases h with h | h
  ·have := fS.lt; omega
  ·rw [cS] at h; simp at h
 ·have := cm _ e; rw [cX] at this; simp at this
 ·have := cm _ e; rw [cS] at this; simp at this
 ·have := cm _ e; rw [hb] at this; simp at this; omega
 ·rintro en w' ⟨rfl, mv', n', key', val', kz', hK, hmv, hS', U⟩
  have sz := U.size
  have hU : Upd (fun b => (col b).1 = q) w w' := U.mono fun b' _ h => by
   rcases h with (h | h) | h
   ·rw [h, cO]
   ·rw [cm b' h]
   ·rw [h, cS]
  have nU : ∀ b' k, col b' = (q, k) → k ≠ 1 → k ≠ 2 → k ≠ 3 → ¬ ((b' = s.O ∨ s.mv.ownBlock = some b') ∨ b' = s.S) := fun b' k hk h1 h2 h3 h => by
   rcases h with (h | h) | h
   ·rw [h, cO] at hk; simp at hk; omega
   ·rw [cm b' h] at hk; simp at hk; omega
   ·rw [h, cS] at hk; simp at hk; omega
  let col' : Col := fun b' => if b' < w.heap.size then col b' else if b' < w'.heap.size then (if mv'.ownBlock = some b' then (q, 3) else (q, 4)) else (0, 0)
  have k1 : ∀ b', b' < w.heap.size → col' b' = col b' := fun b' h => if_pos h
  refine ⟨⟨_, rfl⟩, hU, col', { s with cS := s.cS.setIfInBounds i (.slice none 0 0), mv := mv', mn := n', key := key', val := val', kz := kz', sv := fun k => if k = i then .slice none 0 0 else s.sv k, es := dropE s.es i }, ⟨⟨t, U.has fX (nU _ _ cX (by omega) (by omega) (by omega))⟩, hS', fun j hj => ?_, ⟨hK.om, hK.n5, hK.mO, hK.row, hK.len, hK.sep, hK.mp, hK.on, hK.inj, fun r hr b' hb' => ?_⟩, fun j hj => ?_, fun j hj => ?_, by rw [k1 _ fX.lt, cX], by show col' s.O = _; rw [k1 _ hO.lt, cO], by show col' s.S = _; rw [k1 _ fS.lt, cS], fun b' hb' => ?_, fun j hj b' hb' => ?_, lo, h10, con.drop hi⟩, ⟨rfl, if_pos rfl⟩, fun b' h => k1 b' h, fun b' h => ?_, fun b' h => ?_⟩
  ·have hlt : i < s.cS.size := by have := fs i hi; exact (Array.getElem?_eq_some_iff.1 this).1
   by_cases e : j = i
   ·subst e
    simp [hlt]
   ·simp only [if_neg e]
    rw [Array.getElem?_setIfInBounds_ne (fun h => e h.symm)]
    exact fs j hj
  ·have hl := own_lt (hK.row r hr) hb'
   rcases hK.bl r hr b' hb' with h | h
   ·show col' b' = _
    have h2 := (hK.sep r hr b' hb').2
    simp only [col']
    rw [if_neg (by omega), if_pos hl, if_neg h2]
   ·have hlt : b' < w.heap.size := Nat.lt_of_not_le fun h3 => by have := hcol b' h3; rw [h] at this; exact hq this
    show col' b' = _
    rw [k1 _ hlt, h]
  ·by_cases e : j = i
   ·simp only [if_pos e, dropE]
    exact World.ownsRow_nil _ _ _ _
   ·simp only [if_neg e, dropE]
    exact Upd.own U (own j hj) (fun b' hb' => nU _ _ (cv j hj b' hb') (by omega) (by omega) (by omega))
  ·by_cases e : j = i
   ·simp [dropE, e]
   ·simp only [dropE, if_neg e]
    exact len j hj
  ·have hl := own_lt hK.om.own hb'
   by_cases h3 : b' < w.heap.size
   ·rcases hmv b' hb' with h | h
    ·rw [k1 _ h3, cm b' h]
    ·omega
   ·show col' b' = _
    simp only [col']
    rw [if_neg h3, if_pos hl, if_pos hb']
  ·by_cases e : j = i
   ·simp only [if_pos e] at hb'
    cases hb'
   ·simp only [if_neg e] at hb'
    rw [k1 _ (own_lt (own j hj) hb'), cv j hj b' hb']
  ·simp only [col']
   rw [if_neg (by omega), if_neg (by omega)]
  ·simp only [col']
   rw [if_neg (by omega)]
   split
   ·split
    ·exact .inl rfl
    ·exact .inl rfl
   ·exact .inr rfl
end Go.M
namespace Go.M
open Go.Proofs Go.RowKit Go.Shelf
set_option linter.unusedSimpArgs false
attribute [local go_sem] Oper.semAt_some
end Go.M
