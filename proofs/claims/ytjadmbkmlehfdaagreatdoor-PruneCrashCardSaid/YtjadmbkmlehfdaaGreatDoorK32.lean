/- Walks 32. -/
import Derived.Test.YtjadmbkmlehfdaaGreatDoorProg
import Derived.Test.YtjadmbkmlehfdaaGreatDoorK25
import Derived.Test.YtjadmbkmlehfdaaGreatDoorK31
import Derived.Test.YtjadmbkmlehfdaaGreatDoorK26
import Derived.Test.YtjadmbkmlehfdaaGreatDoorK24
set_option linter.unusedVariables false
set_option linter.unusedSimpArgs false
set_option maxRecDepth 100000
namespace Go.M
open Go.Proofs Go.RowKit Go.Shelf
set_option linter.unusedSimpArgs false
variable {V : World} {O n : Nat} {mv : Value} {key : Nat → ByteArray} {val : Nat → Value} {kz : Nat → List Ent} {B : Nat → Prop} {M : ByteArray → List Ent}
theorem KvIn.get (h : KvIn V O mv n key val kz B M) {k : ByteArray} (hk : M k ≠ []) : ∃ r, r < n ∧ key r = k ∧ kz r = M k ∧ (∀ i, i < r → keyLt (key i) k = true) ∧ ∀ W, Old V W →
 Calls Tryz.prog 90 #[.pointer (some ⟨O, 0, none⟩), .string k] W fun e w' => e = .returned (.tuple #[val r, .bool true]) ∧ Old W w' := by
 obtain ⟨r, hr, rfl⟩ := h.on k hk
 have pin : ∀ r', r' ≤ n → (∀ i, i < r' → keyLt (key i) (key r) = true) → (∀ i, r' ≤ i → i < n → keyLt (key i) (key r) = false) → r' = r := fun r' h1 h2 h3 => by
  rcases Nat.lt_trichotomy r' r with h4 | h4 | h4
  ·refine h.inj r' r (by omega) hr (keyLt_tri (h3 r' (Nat.le_refl _) (by omega)) ?_)
   cases hq : keyLt (key r) (key r') with
   | false => rfl
   | true =>
    have := h.om.sorted (key r') r' r (by omega) hr hq
    rw [keyLt_irrefl] at this
    cases this
  ·exact h4
  ·have := h2 r h4
   rw [keyLt_irrefl] at this
   cases this
 obtain ⟨r0, h1, h2, h3⟩ := rank_exists (key := key) (k := key r) n (h.om.sorted (key r))
 have e0 := pin r0 h1 h2 h3
 subst e0
 refine ⟨r0, hr, rfl, (h.mp r0 hr).2.symm, h2, fun W U => ?_⟩
 refine (get_any (k := key r0) (h.om.upd U (fun x => x) (fun _ _ x => x))).mono ?_
 rintro e w' ⟨r', q1, q2, q3, hU, ⟨q4, q5, rfl⟩ | ⟨q4, rfl⟩⟩
 ·rw [pin r' q1 q2 q3]; exact ⟨rfl, hU⟩
 ·have := pin r' q1 q2 q3
  subst this
  exact absurd ⟨hr, rfl⟩ q4
theorem KvIn.del (h : KvIn V O mv n key val kz B M) {r : Nat} (hr : r < n) (hlt : ∀ i, i < r → keyLt (key i) (key r) = true) :
 Calls Tryz.prog 93 #[.pointer (some ⟨O, 0, none⟩), .string (key r)] V fun e w' => (∃ v, e = .returned v) ∧ ∃ mv' n' key' val' kz', KvIn w' O mv' n' key' val' kz' B (fun k => if k = key r then [] else M k) ∧ Upd (fun b => b = O ∨ mv.ownBlock = some b) V w' ∧ ∀ b, mv'.ownBlock = some b → mv.ownBlock = some b := by
 obtain ⟨m, rfl⟩ : ∃ m, n = m + 1 := ⟨n - 1, by omega⟩
 refine (odel h.om h.mO (by omega) hlt h.one).mono ?_
 rintro e w' ⟨he, mv', hM, hU, hb⟩
 have ix : ∀ i, i < m → ∃ j, j < m + 1 ∧ j ≠ r ∧ delAt r key i = key j ∧ delAt r val i = val j ∧ delAt r kz i = kz j ∧ (j = if i < r then i else i + 1) := fun i hi => by
  unfold delAt
  by_cases h1 : i < r
  ·exact ⟨i, by omega, by omega, if_pos h1, if_pos h1, if_pos h1, by rw [if_pos h1]⟩
  ·exact ⟨i + 1, by omega, by omega, if_neg h1, if_neg h1, if_neg h1, by rw [if_neg h1]⟩
 have hkr : ∀ j, j < m + 1 → j ≠ r → key j ≠ key r := fun j hj hne e => hne (h.inj j r hj hr e)
 refine ⟨he, mv', m, _, _, delAt r kz, ⟨hM, by have := h.n5; omega, fun e => h.mO (hb O e), fun i hi => ?_, fun i hi => ?_, fun i hi b e => ?_, fun i hi => ?_, fun k hk => ?_, fun i j hi hj e => ?_, fun i hi b e => ?_⟩, hU, hb⟩
 ·obtain ⟨j, a1, a2, a3, a4, a5, -⟩ := ix i hi
  rw [a4, a5]
  exact Upd.own hU (h.row j a1) (fun b e f => by
   have := h.sep j a1 b e
   rcases f with f | f
   ·exact this.1 f
   ·exact this.2 f)
 ·obtain ⟨j, a1, a2, a3, a4, a5, -⟩ := ix i hi
  rw [a5]; exact h.len j a1
 ·obtain ⟨j, a1, a2, a3, a4, a5, -⟩ := ix i hi
  rw [a4] at e
  have := h.sep j a1 b e
  exact ⟨this.1, fun f => this.2 (hb b f)⟩
 ·obtain ⟨j, a1, a2, a3, a4, a5, -⟩ := ix i hi
  rw [a3, a5, if_neg (hkr j a1 a2)]
  exact h.mp j a1
 ·by_cases e : k = key r
  ·rw [if_pos e] at hk; exact absurd rfl hk
  ·rw [if_neg e] at hk
   obtain ⟨j, hj, rfl⟩ := h.on k hk
   have hjr : j ≠ r := fun f => e (by rw [f])
   by_cases h1 : j < r
   ·exact ⟨j, by omega, by unfold delAt; rw [if_pos h1]⟩
   ·exact ⟨j - 1, by omega, by unfold delAt; rw [if_neg (by omega)]; congr 1; omega⟩
 ·obtain ⟨i', a1, a2, a3, -, -, a6⟩ := ix i hi
  obtain ⟨j', b1, b2, b3, -, -, b6⟩ := ix j hj
  rw [a3, b3] at e
  have := h.inj i' j' a1 b1 e
  rw [a6, b6] at this
  split at this <;> split at this <;> omega
 ·obtain ⟨j, a1, a2, a3, a4, a5, -⟩ := ix i hi
  rw [a4] at e
  exact h.bl j a1 b e
theorem KvIn.set (h : KvIn V O mv n key val kz B M) {r vn vc : Nat} {va : Option Addr} {l : List Ent} (hr : r < n) (hl : l ≠ []) (hl5 : l.length ≤ 500) (own : V.ownsRow 0 47 6 (.slice va vn vc) l.length (rowOf l)) (hs : ∀ b, (Value.slice va vn vc).ownBlock = some b → b ≠ O ∧ mv.ownBlock ≠ some b) (hB : ∀ b, (Value.slice va vn vc).ownBlock = some b → B b) :
 Calls Tryz.prog 82 #[.pointer (some ⟨O, 0, none⟩), .string (key r), .slice va vn vc] V fun e w' => (∃ v, e = .returned v) ∧ ∃ mv' n' key' val' kz', KvIn w' O mv' n' key' val' kz' B (fun k => if k = key r then l else M k) ∧ Upd (fun b => b = O ∨ mv.ownBlock = some b) V w' ∧ ∀ b, mv'.ownBlock = some b → mv.ownBlock = some b ∨ V.heap.size ≤ b := by
 refine (set_exact (k := key r) h.om h.mO h.one (by have := h.n5; omega)).mono ?_
 rintro e w' ⟨⟨u, b, rfl⟩, mv', n', key', val', hM, hU, hb, r', q1, q2, ⟨q3, q4, rfl, rfl, rfl⟩ | ⟨q3, -⟩⟩
 ·have e0 := h.inj r' r q3 hr q4
  subst e0
  obtain ⟨t, hO⟩ := h.om.made
  have hOl := hO.lt
  have nU : ∀ v : Value, (∀ b, v.ownBlock = some b → b ≠ O ∧ mv.ownBlock ≠ some b) → ∀ b, v.ownBlock = some b → ¬ (b = O ∨ mv.ownBlock = some b) := fun v hv b e f => by
   have := hv b e
   rcases f with f | f
   ·exact this.1 f
   ·exact this.2 f
  have nm : ∀ v : Value, (∀ b, v.ownBlock = some b → b ≠ O ∧ mv.ownBlock ≠ some b) → (∀ b, v.ownBlock = some b → b < V.heap.size) → ∀ b, v.ownBlock = some b → b ≠ O ∧ mv'.ownBlock ≠ some b := fun v hv hlt b e => ⟨(hv b e).1, fun f => by
   rcases hb b f with f | f
   ·exact (hv b e).2 f
   ·have := hlt b e; omega⟩
  refine ⟨⟨_, rfl⟩, mv', _, _, _, fun i => if i = r' then l else kz i, ⟨hM, h.n5, fun f => ?_, fun i hi => ?_, fun i hi => ?_, fun i hi => ?_, fun i hi => ?_, fun k hk => ?_, h.inj, fun i hi b e => ?_⟩, hU, hb⟩
  ·rcases hb O f with f | f
   ·exact h.mO f
   ·omega
  ·by_cases e : i = r'
   ·simp only [if_pos e]
    exact Upd.own hU own (nU _ hs)
   ·simp only [if_neg e]
    exact Upd.own hU (h.row i hi) (nU _ (h.sep i hi))
  ·by_cases e : i = r'
   ·simp only [if_pos e]; exact hl5
   ·simp only [if_neg e]; exact h.len i hi
  ·by_cases e : i = r'
   ·simp only [if_pos e]
    exact nm _ hs (fun b e => (own.lt b e).2)
   ·simp only [if_neg e]
    exact nm _ (h.sep i hi) (fun b e => ((h.row i hi).lt b e).2)
  ·by_cases e : i = r'
   ·simp only [if_pos e]
    rw [e, if_pos rfl]
    exact ⟨hl, rfl⟩
   ·simp only [if_neg e]
    rw [if_neg (fun f => e (h.inj i r' hi hr f))]
    exact h.mp i hi
  ·split at hk
   ·next e => exact ⟨r', hr, e.symm⟩
   ·exact h.on k hk
  ·by_cases e2 : i = r'
   ·simp only [if_pos e2] at e
    exact hB b e
   ·simp only [if_neg e2] at e
    exact h.bl i hi b e
 ·exact absurd rfl (q3 r hr)
end Go.M
namespace Go.M
open Go.Proofs Go.RowKit Go.Shelf
set_option linter.unusedSimpArgs false
attribute [local go_sem] Oper.semAt_some
def leftOf (M : ByteArray → List Ent) (pre : List Ent) (k : ByteArray) : List Ent := (M k).filter fun y => pre.all fun x => !entEq y x
theorem leftOf_snoc (M : ByteArray → List Ent) (pre : List Ent) (x : Ent) (k : ByteArray) : leftOf M (pre ++ [x]) k = (leftOf M pre k).filter fun y => !entEq y x := by
 unfold leftOf
 rw [List.filter_filter]
 congr 1
 funext y
 rw [List.all_append]
 simp [Bool.and_comm]
theorem KvIn.grown {A B : World} {O n : Nat} {mv : Value} {key : Nat → ByteArray} {val : Nat → Value} {kz : Nat → List Ent} {Bl : Nat → Prop} {M : ByteArray → List Ent} {row : Option Nat} (h : KvIn A O mv n key val kz Bl M) (hg : A.grownBy B row) (hr : ∀ r, row = some r → ∃ o : Obj, A.heap[r]? = some o ∧ o.isCells = false) : KvIn B O mv n key val kz Bl M := by
 have nc : ∀ {b : Nat} {t : TypeId} {cur : Array Value}, Has A b t cur → ¬ row = some b := fun {b t cur} hh e => by
  obtain ⟨o, ho, hc⟩ := hr b e
  unfold Has at hh
  rw [hh] at ho
  cases ho
  cases hc
 obtain ⟨t, hO⟩ := h.om.made
 refine h.upd ((Upd.refl (fun b => row = some b) A).grown hg (fun k e => .inl e)) (nc hO) (fun b hb => ?_) (fun r hn b hb => ?_)
 ·obtain ⟨cur, hc⟩ := own_has' h.om.own hb
  exact nc hc
 ·obtain ⟨cur, hc⟩ := own_has' (h.row r hn) hb
  exact nc hc
theorem Upd.trim {F : Nat → Prop} {w w' : World} (h : Upd (fun b => F b ∨ w.heap.size ≤ b) w w') : Upd F w w' :=
 ⟨h.size, fun k hk hf => h.keep k hk (fun e => e.elim hf (fun e => by omega)), h.tape, h.os, h.out⟩
structure DrI (w : World) (X O i : Nat) (mv : Value) (Bl : Nat → Prop) (M : ByteArray → List Ent) (pre : List Ent) (V : World) : Prop where
 u : Upd (fun b' => b' = O ∨ mv.ownBlock = some b') w V
 kv : ∃ mv' n' key' val' kz', KvIn V O mv' n' key' val' kz' Bl (leftOf M pre) ∧ ∀ b', mv'.ownBlock = some b' → mv.ownBlock = some b' ∨ w.heap.size + 1 + 1 + 1 ≤ b'
 b0 : V.cell? ⟨w.heap.size, 0, none⟩ = some (.pointer (some ⟨X, 0, none⟩))
 b1 : V.cell? ⟨w.heap.size + 1, 0, none⟩ = some (.pointer (some ⟨X, 0, none⟩))
 b2 : V.cell? ⟨w.heap.size + 1 + 1, 0, none⟩ = some (.int .i64 ((i : Nat) : Int))
set_option maxHeartbeats 1600000 in
theorem idrop {w : World} {X O S i m c b cap n : Nat} {tX tS : TypeId} {cS : Array Value} {mv : Value} {key : Nat → ByteArray} {val : Nat → Value} {kz : Nat → List Ent} {Bl : Nat → Prop} {M : ByteArray → List Ent} {zs : List Ent}
 (hX : Has w X tX #[.pointer (some ⟨O, 0, none⟩), .slice (some ⟨S, 0, none⟩) m c]) (hS : Has w S tS cS) (hSv : cS[i]? = some (.slice (some ⟨b, 0, none⟩) zs.length cap)) (him : i < m) (hm : m ≤ 10)
 (hrow : w.ownsRow 0 47 6 (.slice (some ⟨b, 0, none⟩) zs.length cap) zs.length (rowOf zs)) (hzl : zs.length ≤ 500) (hK : KvIn w O mv n key val kz Bl M) (hBS : ¬ Bl S) (hBn : ∀ b', w.heap.size ≤ b' → Bl b') (hin : ∀ x ∈ zs, x ∈ M x.key) (hkM : ∀ k, ∀ y ∈ M k, y.key = k) (hnd : zs.Nodup)
 (XO : X ≠ O) (SO : S ≠ O) (XS : X ≠ S) (bO : b ≠ O) (bS : b ≠ S) (mX : mv.ownBlock ≠ some X) (mS : mv.ownBlock ≠ some S) (mb : mv.ownBlock ≠ some b) :
 Calls Tryz.prog 31 #[.pointer (some ⟨X, 0, none⟩), .int .i64 ((i : Nat) : Int)] w fun en w' => en = .returned (.tuple #[.int .i64 ((zs.length : Nat) : Int), .int .i64 0]) ∧
  ∃ mv' n' key' val' kz', KvIn w' O mv' n' key' val' kz' Bl (leftOf M zs) ∧ (∀ b', mv'.ownBlock = some b' → mv.ownBlock = some b' ∨ w.heap.size ≤ b') ∧ Has w' S tS (cS.setIfInBounds i (.slice none 0 0)) ∧ Upd (fun b' => (b' = O ∨ mv.ownBlock = some b') ∨ b' = S) w w' := by
 have hX0 : w.cell? ⟨X, 0, none⟩ = some (.pointer (some ⟨O, 0, none⟩)) := hX.cell 0
 have hX1 : w.cell? ⟨X, 1, none⟩ = some (.slice (some ⟨S, 0, none⟩) m c) := hX.cell 1
 have hSc : w.cell? ⟨S, i, none⟩ = some (.slice (some ⟨b, 0, none⟩) zs.length cap) := by rw [hS.cell]; exact hSv
 have g1 : ¬ ((i : Int) < 0) := by omega
 have g2 : (i : Int) < (m : Int) := by omega
 have g3 : ¬ ((m : Int) ≤ (i : Int)) := by omega
 have g4 : 0 < m := by omega
 have HK := Lib.hid hK
 have HR := Lib.hid hrow
 have HIN := Lib.hid hin
 have HKM := Lib.hid hkM
 have HND := Lib.hid hnd
 have hXl := hX.lt
 have hSl := hS.lt
 clear hK hrow hin hnd hkM
 refine (callsIn_wide (n := 8)).1 ?_
 refine callsIn_of_wp_marks Tryz.func31 rfl trivial ?_ rfl
 simp only [Tryz.ntmps31, List.size_toArray, List.length_cons, List.length_nil, Nat.reduceAdd, Nat.reduceSub, Array.replicate_succ, Array.replicate_zero, List.push_toArray, List.append_toArray, List.nil_append, List.cons_append]
 refine wpIn_wide.2 ?_
 go_wp2_with (first | go_in)
 obtain ⟨W0, hW0⟩ : ∃ W0, ((w.alloc (.cells #[.pointer (some ⟨X, 0, none⟩)] 39)).alloc (.cells #[.pointer (some ⟨X, 0, none⟩)] 39)).alloc (.cells #[.int .i64 ((i : Nat) : Int)] 3) = W0 := ⟨_, rfl⟩
 have U0 : Old w W0 := by rw [← hW0]; exact (((Upd.refl _ w).alloc _).alloc _).alloc _
 have p0 : W0.cell? ⟨w.heap.size, 0, none⟩ = some (.pointer (some ⟨X, 0, none⟩)) := by subst hW0; go_simp
 have p1 : W0.cell? ⟨w.heap.size + 1, 0, none⟩ = some (.pointer (some ⟨X, 0, none⟩)) := by subst hW0; go_simp
 have p2 : W0.cell? ⟨w.heap.size + 1 + 1, 0, none⟩ = some (.int .i64 ((i : Nat) : Int)) := by subst hW0; go_simp
 have z0 : W0.heap.size = w.heap.size + 3 := by subst hW0; simp
 rw [hW0]
 clear hW0
 have HU0 := Lib.hid U0
 obtain ⟨tO, hO⟩ := HK.out.om.made
 have hOl := hO.lt
 have hml : ∀ b', mv.ownBlock = some b' → b' < w.heap.size := fun b' e => (HK.out.om.own.lt b' e).2
 clear hO
 have hSl : ∀ pre V, DrI w X O i mv Bl M pre V → SlG (w.heap.size + 1) (w.heap.size + 1 + 1) X S i m c b cap zs V := fun pre V h => by
  have n1 : ∀ b', b' ≠ O → mv.ownBlock ≠ some b' → ¬ (b' = O ∨ mv.ownBlock = some b') := fun b' h1 h2 h => h.elim h1 h2
  refine ⟨h.b1, h.b2, h.u.cellOf hX1 (n1 _ XO mX), h.u.cellOf hSc (n1 _ SO mS), fun q y hq j u hu => ?_⟩
  have := HR.out.cells (g := b) rfl _ _ (rowOf_cell hq hu)
  rw [show (⟨b, 0, none⟩ : Addr).add (q * 6 + j) = ⟨b, q * 6 + j, none⟩ from by unfold Addr.add; split <;> simp_all] at this
  exact h.u.cellOf this (n1 _ bO mb)
 refine (wpIn_wide (n := 8)).1 ?_
 refine range_box rfl (by omega) (gf := 168) (lb := #[.pointer (some ⟨w.heap.size + 1, 0, none⟩), .pointer (some ⟨w.heap.size + 1 + 1, 0, none⟩)]) rfl trivial (enters_of Tryz.func168 (by kernel_rfl) rfl) (encs := fun x : Ent => #[x.val]) (fun _ => rfl)
  (slot_told 7 (by omega) (PX := w.heap.size + 1) (PS := w.heap.size + 1 + 1) (X := X) (S := S) (i := i) (m := m) (c := c) (b := b) (cap := cap) (zs := zs) (by omega) him)
  (fun pre V => DrI w X O i mv Bl M pre V)
  (fun _ _ => False) ?own (fun _ _ _ _ _ h _ _ => h) ?start (fun pre V h => hSl pre V h)
  (fun x => .cells #[.int .i64 ((x.seq : Nat) : Int), .string x.key, .bool x.del, .int .i64 ((x.slot : Nat) : Int), .int .i64 ((x.off : Nat) : Int), .int .i64 ((x.size : Nat) : Int)] 47)
  (fun x H => { tmps := #[.pointer (some ⟨X, 0, none⟩), .int .i64 ((i : Nat) : Int), .pointer (some ⟨w.heap.size, 0, none⟩), undef, .int .i64 0, .int .i64 0, .pointer (some ⟨H, 0, none⟩), undef, undef, undef, undef, .bool false, .pointer (some ⟨X, 0, none⟩), .bool true, .bool false, .bool false, .pointer (some ⟨X, 0, none⟩), .int .i64 ((i : Nat) : Int), .bool true, .bool false, .pointer (some ⟨X, 0, none⟩), .int .i64 ((i : Nat) : Int), .func (.func 168) #[] #[.pointer (some ⟨w.heap.size + 1, 0, none⟩), .pointer (some ⟨w.heap.size + 1 + 1, 0, none⟩)], x.val, undef, undef, undef, undef, undef, undef, undef, undef, undef, undef, undef, undef, undef, undef, undef, undef, undef, undef, undef, undef, undef, undef, undef, undef, undef, undef, undef, undef, undef, undef, undef, undef, undef, undef, undef, undef, undef, undef, undef, undef, undef, undef, undef, undef, undef, undef, undef], defers := [] })
  ?assign ?body ?done ?stop
 case own =>
  rintro pre A B row ⟨u, ⟨mv', n', key', val', kz', h1, h2⟩, a0, a1, a2⟩ hg hr
  refine ⟨u.grown hg (fun k e => .inr (by have := (hr k e).1; omega)), ⟨mv', n', key', val', kz', h1.grown hg (fun r e => (hr r e).2), h2⟩, cell_kept a0 hg (fun r e => (hr r e).2), cell_kept a1 hg (fun r e => (hr r e).2), cell_kept a2 hg (fun r e => (hr r e).2)⟩
 case start =>
  have e : leftOf M [] = M := by funext k; simp [leftOf]
  exact ⟨HU0.out.mono (fun _ _ x => x.elim), ⟨mv, n, key, val, kz, by rw [e]; exact HK.out.upd HU0.out (fun x => x) (fun _ _ x => x) (fun _ _ _ _ x => x), fun b' e => .inl e⟩, p0, p1, p2⟩
 case assign =>
  intro l x V K hK
  unfold Ent.val at hK ⊢
  gi_wp2
  exact hK
 case body =>
  rintro l H pre x V hl hH hBox ⟨u, ⟨mv', n', key', val', kz', hK1, hmv⟩, a0, a1, a2⟩ ⟨hpre, hx⟩
  have hxz : x ∈ zs := List.mem_of_getElem? hx
  have hM : leftOf M pre x.key ≠ [] := by
   have hmem : x ∈ leftOf M pre x.key := by
    unfold leftOf
    rw [List.mem_filter]
    refine ⟨HIN.out x hxz, List.all_eq_true.2 fun y hy => ?_⟩
    cases hq : entEq x y with
    | false => rfl
    | true =>
     exfalso
     rw [entEq_iff] at hq
     subst hq
     obtain ⟨j, hj, hjx⟩ := List.getElem_of_mem hy
     have h1 : zs[j]? = some x := by
      have : pre[j]? = some x := by rw [List.getElem?_eq_getElem hj, hjx]
      rw [hpre, List.getElem?_take_of_lt hj] at this
      exact this
     obtain ⟨l1, e1⟩ := List.getElem?_eq_some_iff.1 h1
     obtain ⟨l2, e2⟩ := List.getElem?_eq_some_iff.1 hx
     exact (List.pairwise_iff_getElem.1 HND.out) j pre.length l1 l2 hj (e1.trans e2.symm)
   intro e
   rw [e] at hmem
   cases hmem
  obtain ⟨r, hr, hkr, hkz, hlt, hG⟩ := hK1.get hM
  have hBH : Has V H 47 #[.int .i64 ((x.seq : Nat) : Int), .string x.key, .bool x.del, .int .i64 ((x.slot : Nat) : Int), .int .i64 ((x.off : Nat) : Int), .int .i64 ((x.size : Nat) : Int)] := hBox
  have c1 : V.cell? ⟨H, 1, none⟩ = some (.string x.key) := hBH.cell 1
  have c0 : V.cell? ⟨X, 0, none⟩ = some (.pointer (some ⟨O, 0, none⟩)) := u.cellOf hX0 (fun h => h.elim XO mX)
  have HG := Lib.hid hG
  have HK1 := Lib.hid hK1
  have HPX := Lib.hid (And.intro hpre hx)
  have HKZ := Lib.hid (And.intro hkz (And.intro hkr hlt))
  clear hG hK1 hpre hx hkz hkr hlt hM
  gi_wp2
  refine region_round (fun x' => x'.cell? ⟨w.heap.size, 0, none⟩ = some (.pointer (some ⟨X, 0, none⟩)) ∧ x'.cell? ⟨X, 0, none⟩ = some (.pointer (some ⟨O, 0, none⟩)) ∧ x'.cell? ⟨H, 1, none⟩ = some (.string x.key)) (by kernel_rfl) (by kernel_rfl) (fun ⟨_, _, h⟩ => h) ?_
  have hS : V.drew.cell? ⟨w.heap.size, 0, none⟩ = some (.pointer (some ⟨X, 0, none⟩)) ∧ V.drew.cell? ⟨X, 0, none⟩ = some (.pointer (some ⟨O, 0, none⟩)) ∧ V.drew.cell? ⟨H, 1, none⟩ = some (.string x.key) := ⟨a0, c0, c1⟩
  refine wpAnyH_take (i := 0) (v := .pointer (some ⟨X, 0, none⟩)) rfl (by kernel_rfl) (by kernel_rfl) (by kernel_rfl) (fun _ _ _ h => h) (Or.inl ⟨by rfl, fun w' hS' => by obtain ⟨s1, s2, s3⟩ := hS'; go_simp⟩) hS ?_
  simp only [Act.put, List.setIfInBounds_toArray, List.set_cons_zero, List.set_cons_succ]
  refine wpAnyH_take (i := 1) (v := .pointer (some ⟨X, 0, none⟩)) rfl (by kernel_rfl) (by kernel_rfl) (by kernel_rfl) (fun _ _ _ h => h) (Or.inl ⟨by rfl, fun w' hS' => by obtain ⟨s1, s2, s3⟩ := hS'; go_simp⟩) hS ?_
  simp only [Act.put, List.setIfInBounds_toArray, List.set_cons_zero, List.set_cons_succ]
  refine wpAnyH_take (i := 2) (v := .pointer (some ⟨X, 0, none⟩)) rfl (by kernel_rfl) (by kernel_rfl) (by kernel_rfl) (fun _ _ _ h => h) (Or.inl ⟨by rfl, fun w' hS' => by obtain ⟨s1, s2, s3⟩ := hS'; go_simp⟩) hS ?_
  simp only [Act.put, List.setIfInBounds_toArray, List.set_cons_zero, List.set_cons_succ]
  refine wpAnyH_take (i := 3) (v := .pointer (some ⟨O, 0, none⟩)) rfl (by kernel_rfl) (by kernel_rfl) (by kernel_rfl) (fun _ _ _ h => h) (Or.inl ⟨by rfl, fun w' hS' => by obtain ⟨s1, s2, s3⟩ := hS'; go_simp⟩) hS ?_
  simp only [Act.put, List.setIfInBounds_toArray, List.set_cons_zero, List.set_cons_succ]
  refine wpAnyH_take (i := 4) (v := .pointer (some ⟨H, 1, none⟩)) rfl (by kernel_rfl) (by kernel_rfl) (by kernel_rfl) (fun _ _ _ h => h) (Or.inl ⟨by rfl, fun w' hS' => by obtain ⟨s1, s2, s3⟩ := hS'; go_simp⟩) hS ?_
  simp only [Act.put, List.setIfInBounds_toArray, List.set_cons_zero, List.set_cons_succ]
  refine wpAnyH_take (i := 5) (v := .string x.key) rfl (by kernel_rfl) (by kernel_rfl) (by kernel_rfl) (fun _ _ _ h => h) (Or.inl ⟨by rfl, fun w' hS' => by obtain ⟨s1, s2, s3⟩ := hS'; go_simp⟩) hS ?_
  simp only [Act.put, List.setIfInBounds_toArray, List.set_cons_zero, List.set_cons_succ]
  refine wpAnyH_ready (rs := [6]) (by kernel_rfl) (by simp) ?_
  refine AllReadyH.cons rfl (fun K' hK => ?_) AllReadyH.nil
  go_simp
  refine (HG.out _ ((Upd.refl _ V).drew)).mono ?_
  rintro e w1 ⟨rfl, hO1⟩
  have U1 : Old V w1 := Upd.trans ((Upd.refl _ V).drew) hO1
  have hS1 : w1.cell? ⟨w.heap.size, 0, none⟩ = some (.pointer (some ⟨X, 0, none⟩)) ∧ w1.cell? ⟨X, 0, none⟩ = some (.pointer (some ⟨O, 0, none⟩)) ∧ w1.cell? ⟨H, 1, none⟩ = some (.string x.key) := ⟨Old.cellOf' U1 a0, Old.cellOf' U1 c0, Old.cellOf' U1 c1⟩
  refine hK.out _ _ hS1 (fun _ => ?_)
  obtain ⟨va, vc, hv⟩ := own_slice (HK1.out.row r hr)
  rw [hv]
  refine wpAnyH_take (i := 7) (v := .tuple #[.slice va (kz' r).length vc, .bool true]) rfl (by kernel_rfl) (by kernel_rfl) (by kernel_rfl) (fun _ _ _ h => h) (Or.inl ⟨by rfl, fun w' hS' => by obtain ⟨s1, s2, s3⟩ := hS'; go_simp⟩) hS1 ?_
  simp only [Act.put, List.setIfInBounds_toArray, List.set_cons_zero, List.set_cons_succ]
  refine wpAnyH_take (i := 8) (v := .slice va (kz' r).length vc) rfl (by kernel_rfl) (by kernel_rfl) (by kernel_rfl) (fun _ _ _ h => h) (Or.inl ⟨by rfl, fun w' hS' => by obtain ⟨s1, s2, s3⟩ := hS'; go_simp⟩) hS1 ?_
  simp only [Act.put, List.setIfInBounds_toArray, List.set_cons_zero, List.set_cons_succ]
  refine wpAnyH_take (i := 9) (v := .bool true) rfl (by kernel_rfl) (by kernel_rfl) (by kernel_rfl) (fun _ _ _ h => h) (Or.inl ⟨by rfl, fun w' hS' => by obtain ⟨s1, s2, s3⟩ := hS'; go_simp⟩) hS1 ?_
  simp only [Act.put, List.setIfInBounds_toArray, List.set_cons_zero, List.set_cons_succ]
  refine wpAnyH_take (i := 10) (v := .slice va (kz' r).length vc) rfl (by kernel_rfl) (by kernel_rfl) (by kernel_rfl) (fun _ _ _ h => h) (Or.inl ⟨by rfl, fun w' hS' => by obtain ⟨s1, s2, s3⟩ := hS'; go_simp⟩) hS1 ?_
  simp only [Act.put, List.setIfInBounds_toArray, List.set_cons_zero, List.set_cons_succ]
  refine wpAnyH_take (i := 11) (v := .bool true) rfl (by kernel_rfl) (by kernel_rfl) (by kernel_rfl) (fun _ _ _ h => h) (Or.inl ⟨by rfl, fun w' hS' => by obtain ⟨s1, s2, s3⟩ := hS'; go_simp⟩) hS1 ?_
  simp only [Act.put, List.setIfInBounds_toArray, List.set_cons_zero, List.set_cons_succ]
  refine wpAnyH_done (by kernel_rfl) ?_ _
  have hRow : w1.ownsRow 0 47 6 (.slice va (kz' r).length vc) (kz' r).length (rowOf (kz' r)) := by
   have := Upd.own U1 (HK1.out.row r hr) (fun _ _ x => x)
   rwa [hv] at this
  have hl5 := HK1.out.len r hr
  have hne := (HK1.out.mp r hr).1
  have HCL := Lib.hid (eclone_own hRow (by omega))
  have hVl : H < V.heap.size := hBH.lt
  have z1 := U1.size
  have HB1 := Lib.hid (Old.has U1 hBH)
  have HDF : Hid (∀ (w2 : World) (v2 : Value), w2.ownsRow 0 47 6 v2 (kz' r).length (rowOf (kz' r)) → Old w1 w2 → (∀ b', v2.ownBlock = some b' → w1.heap.size ≤ b') → ∃ g2 k2, v2 = .slice (some ⟨g2, 0, none⟩) (kz' r).length k2 ∧ w1.heap.size ≤ g2 ∧
   Calls Tryz.prog 91 #[.slice (some ⟨g2, 0, none⟩) (kz' r).length k2, .func (.func 92) #[] #[.pointer (some ⟨H, 0, none⟩)]] w2 fun en w' =>
    ∃ zs', zs' = (kz' r).filter (fun y => !entEq y x) ∧ en = .returned (.slice (some ⟨g2, 0, none⟩) zs'.length k2) ∧ w'.ownsRow 0 47 6 (.slice (some ⟨g2, 0, none⟩) zs'.length k2) zs'.length (rowOf zs') ∧ Upd (fun b => b = g2) w2 w') := fun w2 v2 h1 h2 h3 => by
   obtain ⟨g2, k2, rfl⟩ := own_block h1 (by cases hq : kz' r with | nil => exact absurd hq hne | cons _ _ => simp)
   refine ⟨g2, k2, rfl, h3 g2 rfl, dfunc h1 rfl (by omega) (fun W U y => drop1 (U.has (Old.has h2 HB1.out) (fun e => ?_)))⟩
   have := h3 g2 rfl
   omega
  have HS1 := Lib.hid hS1
  have HU1 := Lib.hid U1
  have HUU := Lib.hid u
  have HMV := Lib.hid hmv
  have HBS := Lib.hid (And.intro a0 (And.intro a1 a2))
  have hHm : mv'.ownBlock ≠ some H := fun h => by
   obtain ⟨cur, hc⟩ := own_has' HK1.out.om.own h
   unfold Has at hc hBH
   rw [hBH] at hc
   simp at hc
  clear hRow hl5 hne hS hS1 hBox hBH a0 a1 a2 c0 c1 u hmv hv U1 hO1 hK
  gi_wp2_with (first | (refine ⟨trivial, ?_⟩; gi_at_call 83; refine (callsIn_wide.2 HCL.out).mono ?_; rintro e w2 ⟨v2, rfl, hown2, hO2, hfr2⟩; obtain ⟨g2, k2, rfl, hg2, hdf⟩ := HDF.out w2 v2 hown2 hO2 hfr2; have HDF2 := Lib.hid hdf; have HO2 := Lib.hid hO2; clear hdf hO2 hown2 hfr2 HDF HCL) | (refine ⟨trivial, ?_⟩; gi_at_call 91; refine (callsIn_wide.2 HDF2.out).mono ?_; rintro e w3 ⟨zl, hzl, rfl, hown3, hU3⟩; have H3 := Lib.hid (And.intro hzl (And.intro hown3 hU3)); clear hzl hown3 hU3 HDF2; refine Hid.out ?_))
  have hzl := H3.out.1
  have O13 : Upd (fun b => b = g2) w1 w3 := (HO2.out.mono (fun _ _ x => x.elim)).trans H3.out.2.2
  have hV3 : Old V w3 := HU1.out.after O13 (fun b hb e => by omega)
  have hS3 : w3.cell? ⟨w.heap.size, 0, none⟩ = some (.pointer (some ⟨X, 0, none⟩)) ∧ w3.cell? ⟨X, 0, none⟩ = some (.pointer (some ⟨O, 0, none⟩)) ∧ w3.cell? ⟨H, 1, none⟩ = some (.string x.key) := by
   obtain ⟨q1, q2, q3⟩ := HS1.out
   have z := z1
   exact ⟨O13.cellOf q1 (by omega), O13.cellOf q2 (by omega), O13.cellOf q3 (by omega)⟩
  have HK3 := Lib.hid (HK1.out.upd hV3 (fun x => x) (fun _ _ x => x) (fun _ _ _ _ x => x))
  have hMeq : (fun k => if k = key' r then zl else leftOf M pre k) = leftOf M (pre ++ [x]) := by
   funext k
   rw [leftOf_snoc]
   by_cases e : k = key' r
   ·rw [if_pos e, e, (HK1.out.mp r hr).2]
    exact hzl
   ·rw [if_neg e, List.filter_eq_self.2]
    intro y hy
    unfold leftOf at hy
    have hyk := HKM.out k y (List.mem_filter.1 hy).1
    cases hq : entEq y x with
    | false => rfl
    | true =>
     exfalso
     rw [entEq_iff] at hq
     exact e (by rw [← hyk, hq, HKZ.out.2.1])
  have hmvl : ∀ b', mv'.ownBlock = some b' → b' < V.heap.size := fun b' e => (HK1.out.om.own.lt b' e).2
  have z3 := hV3.size
  have hVw : w.heap.size ≤ V.heap.size := HUU.out.size
  have hHw : w.heap.size + 3 ≤ H := by omega
  have nU : ∀ b', b' ≠ O → b' < w.heap.size + 1 + 1 + 1 → mv.ownBlock ≠ some b' → ¬ (b' = O ∨ mv'.ownBlock = some b') := fun b' h1 h2 h3 h => by
   rcases h with h | h
   ·exact h1 h
   ·rcases HMV.out b' h with h4 | h4
    ·exact h3 h4
    ·omega
  have nw : ∀ k, k < 3 → ¬ (w.heap.size + k = O ∨ mv'.ownBlock = some (w.heap.size + k)) := fun k hk => nU _ (by omega) (by omega) (fun e => by have := hml _ e; omega)
  have hS4 : ∀ W w4 : World, Old w3 W → Upd (fun b' => b' = O ∨ mv'.ownBlock = some b') W w4 → w4.cell? ⟨w.heap.size, 0, none⟩ = some (.pointer (some ⟨X, 0, none⟩)) ∧ w4.cell? ⟨X, 0, none⟩ = some (.pointer (some ⟨O, 0, none⟩)) ∧ w4.cell? ⟨H, 1, none⟩ = some (.string x.key) := fun W w4 hW hU => by
   obtain ⟨q1, q2, q3⟩ := hS3
   exact ⟨hU.cellOf (Old.cellOf' hW q1) (nw 0 (by omega)), hU.cellOf (Old.cellOf' hW q2) (nU _ XO (by omega) mX), hU.cellOf (Old.cellOf' hW q3) (fun h => h.elim (by omega) hHm)⟩
  have hfin : ∀ (W w4 : World) (mv4 : Value) (n4 : Nat) (key4 : Nat → ByteArray) (val4 : Nat → Value) (kz4 : Nat → List Ent), Old w3 W → KvIn w4 O mv4 n4 key4 val4 kz4 Bl (leftOf M (pre ++ [x])) → Upd (fun b' => b' = O ∨ mv'.ownBlock = some b') W w4 → (∀ b', mv4.ownBlock = some b' → mv'.ownBlock = some b' ∨ W.heap.size ≤ b') → KeepsFrom W0.heap.size V w4 ∧ DrI w X O i mv Bl M (pre ++ [x]) w4 := by
   intro W w4 mv4 n4 key4 val4 kz4 hW hK4 hU4 hm4
   have hVW : Old V W := Upd.trans hV3 hW
   have U : Upd (fun b' => b' = O ∨ mv'.ownBlock = some b') V w4 := (hVW.mono (fun _ _ x => x.elim)).trans hU4
   obtain ⟨a0, a1, a2⟩ := HBS.out
   refine ⟨⟨U.size, fun k o hB ho hc => ?_⟩, ⟨?_, ⟨mv4, n4, key4, val4, kz4, hK4, fun b' h => ?_⟩, U.cellOf a0 (nw 0 (by omega)), U.cellOf a1 (nw 1 (by omega)), U.cellOf a2 (nw 2 (by omega))⟩⟩
   ·refine (U.keep k (Array.getElem?_eq_some_iff.1 ho).1 (fun e => ?_)).trans ho
    rcases e with e | e
    ·omega
    ·obtain ⟨cur, hcur⟩ := own_has' HK1.out.om.own e
     unfold Has at hcur
     rw [hcur] at ho
     cases ho
     cases hc
   ·exact ((HUU.out.mono (fun _ _ h => .inl h)).trans (U.mono (fun b' _ h => h.elim (fun h => .inl (.inl h)) (fun h => (HMV.out b' h).elim (fun h => .inl (.inr h)) (fun h => .inr (by omega)))))).trim
   ·rcases hm4 b' h with h | h
    ·exact HMV.out b' h
    ·exact .inr (by have := hVW.size; omega)
  rw [HKZ.out.2.1] at hMeq
  have HM := Lib.hid hMeq
  have hown3 := H3.out.2.1
  have HF := Lib.hid hfin
  have HS4 := Lib.hid hS4
  have HS3 := Lib.hid hS3
  have HV3 := Lib.hid hV3
  by_cases hz : zl = []
  ·have HDEL : Hid (∀ W, Old w3 W → Calls Tryz.prog 93 #[.pointer (some ⟨O, 0, none⟩), .string x.key] W fun e w' => (∃ v, e = .returned v) ∧ ∃ mv4 n4 key4 val4 kz4, KvIn w' O mv4 n4 key4 val4 kz4 Bl (leftOf M (pre ++ [x])) ∧ Upd (fun b' => b' = O ∨ mv'.ownBlock = some b') W w' ∧ ∀ b', mv4.ownBlock = some b' → mv'.ownBlock = some b' ∨ W.heap.size ≤ b') := fun W U => by
    have h := (HK3.out.upd U (fun x => x) (fun _ _ x => x) (fun _ _ _ _ x => x)).del hr (by rw [HKZ.out.2.1]; exact HKZ.out.2.2)
    rw [HKZ.out.2.1] at h
    refine h.mono ?_
    rintro e w' ⟨he, mv4, n4, key4, val4, kz4, q1, q2, q3⟩
    refine ⟨he, mv4, n4, key4, val4, kz4, ?_, q2, fun b' h => .inl (q3 b' h)⟩
    rw [← HM.out, hz]
    exact q1
   rw [hz]
   clear hzl O13 hV3 hS3 hMeq hmvl nU nw hS4 hfin hown3
   refine Lib.hid ?_
   gi_wp2
   refine region_round (fun x' => x'.cell? ⟨w.heap.size, 0, none⟩ = some (.pointer (some ⟨X, 0, none⟩)) ∧ x'.cell? ⟨X, 0, none⟩ = some (.pointer (some ⟨O, 0, none⟩)) ∧ x'.cell? ⟨H, 1, none⟩ = some (.string x.key)) (by kernel_rfl) (by kernel_rfl) (fun ⟨_, _, h⟩ => h) ?_
   have hS : w3.drew.cell? ⟨w.heap.size, 0, none⟩ = some (.pointer (some ⟨X, 0, none⟩)) ∧ w3.drew.cell? ⟨X, 0, none⟩ = some (.pointer (some ⟨O, 0, none⟩)) ∧ w3.drew.cell? ⟨H, 1, none⟩ = some (.string x.key) := HS3.out
   refine wpAnyH_take (i := 0) (v := .pointer (some ⟨X, 0, none⟩)) rfl (by kernel_rfl) (by kernel_rfl) (by kernel_rfl) (fun _ _ _ h => h) (Or.inl ⟨by rfl, fun w' hS' => by obtain ⟨s1, s2, s3⟩ := hS'; go_simp⟩) hS ?_
   simp only [Act.put, List.setIfInBounds_toArray, List.set_cons_zero, List.set_cons_succ]
   refine wpAnyH_take (i := 1) (v := .pointer (some ⟨X, 0, none⟩)) rfl (by kernel_rfl) (by kernel_rfl) (by kernel_rfl) (fun _ _ _ h => h) (Or.inl ⟨by rfl, fun w' hS' => by obtain ⟨s1, s2, s3⟩ := hS'; go_simp⟩) hS ?_
   simp only [Act.put, List.setIfInBounds_toArray, List.set_cons_zero, List.set_cons_succ]
   refine wpAnyH_take (i := 2) (v := .pointer (some ⟨X, 0, none⟩)) rfl (by kernel_rfl) (by kernel_rfl) (by kernel_rfl) (fun _ _ _ h => h) (Or.inl ⟨by rfl, fun w' hS' => by obtain ⟨s1, s2, s3⟩ := hS'; go_simp⟩) hS ?_
   simp only [Act.put, List.setIfInBounds_toArray, List.set_cons_zero, List.set_cons_succ]
   refine wpAnyH_take (i := 3) (v := .pointer (some ⟨O, 0, none⟩)) rfl (by kernel_rfl) (by kernel_rfl) (by kernel_rfl) (fun _ _ _ h => h) (Or.inl ⟨by rfl, fun w' hS' => by obtain ⟨s1, s2, s3⟩ := hS'; go_simp⟩) hS ?_
   simp only [Act.put, List.setIfInBounds_toArray, List.set_cons_zero, List.set_cons_succ]
   refine wpAnyH_take (i := 4) (v := .pointer (some ⟨H, 1, none⟩)) rfl (by kernel_rfl) (by kernel_rfl) (by kernel_rfl) (fun _ _ _ h => h) (Or.inl ⟨by rfl, fun w' hS' => by obtain ⟨s1, s2, s3⟩ := hS'; go_simp⟩) hS ?_
   simp only [Act.put, List.setIfInBounds_toArray, List.set_cons_zero, List.set_cons_succ]
   refine wpAnyH_take (i := 5) (v := .string x.key) rfl (by kernel_rfl) (by kernel_rfl) (by kernel_rfl) (fun _ _ _ h => h) (Or.inl ⟨by rfl, fun w' hS' => by obtain ⟨s1, s2, s3⟩ := hS'; go_simp⟩) hS ?_
   simp only [Act.put, List.setIfInBounds_toArray, List.set_cons_zero, List.set_cons_succ]
   refine wpAnyH_ready (rs := [6]) (by kernel_rfl) (by simp) ?_
   refine AllReadyH.cons rfl (fun K' hK => ?_) AllReadyH.nil
   go_simp
   refine (HDEL.out _ ((Upd.refl _ w3).drew)).mono ?_
   rintro e w4 ⟨⟨v4, rfl⟩, mv4, n4, key4, val4, kz4, hK4, hU4, hm4⟩
   refine hK.out _ _ (HS4.out _ _ ((Upd.refl _ w3).drew) hU4) (fun _ => wpAnyH_done (by kernel_rfl) ?_ _)
   obtain ⟨f1, f2⟩ := HF.out _ _ _ _ _ _ _ ((Upd.refl _ w3).drew) hK4 hU4 hm4
   gi_wp2
   exact ⟨f1, trivial, f2⟩
  ·have hzpos : 0 < zl.length := by cases hq : zl with | nil => exact absurd hq hz | cons _ _ => simp
   have hz5 : zl.length ≤ 500 := by
    rw [hzl]
    have h1 := List.length_filter_le (fun y => !entEq y x) (kz' r)
    have h2 := HK1.out.len r hr
    omega
   have hzne : ((zl.length : Int) == 0) = false := by rw [beq_eq_false_iff_ne]; omega
   have HSET : Hid (∀ W, Old w3 W → Calls Tryz.prog 82 #[.pointer (some ⟨O, 0, none⟩), .string x.key, .slice (some ⟨g2, 0, none⟩) zl.length k2] W fun e w' => (∃ v, e = .returned v) ∧ ∃ mv4 n4 key4 val4 kz4, KvIn w' O mv4 n4 key4 val4 kz4 Bl (leftOf M (pre ++ [x])) ∧ Upd (fun b' => b' = O ∨ mv'.ownBlock = some b') W w' ∧ ∀ b', mv4.ownBlock = some b' → mv'.ownBlock = some b' ∨ W.heap.size ≤ b') := fun W U => by
    have h := (HK3.out.upd U (fun x => x) (fun _ _ x => x) (fun _ _ _ _ x => x)).set (l := zl) hr hz hz5 (Upd.own U hown3 (fun _ _ x => x)) (fun b' e => by
     simp [Value.ownBlock] at e
     subst e
     exact ⟨by omega, fun e => by have := hmvl _ e; omega⟩) (fun b' e => by
     simp [Value.ownBlock] at e
     subst e
     exact hBn _ (by omega))
    rw [HKZ.out.2.1, HM.out] at h
    exact h
   clear hzl O13 hV3 hS3 hMeq hmvl nU nw hS4 hfin hown3
   refine Lib.hid ?_
   gi_wp2
   refine region_round (fun x' => x'.cell? ⟨w.heap.size, 0, none⟩ = some (.pointer (some ⟨X, 0, none⟩)) ∧ x'.cell? ⟨X, 0, none⟩ = some (.pointer (some ⟨O, 0, none⟩)) ∧ x'.cell? ⟨H, 1, none⟩ = some (.string x.key)) (by kernel_rfl) (by kernel_rfl) (fun ⟨_, _, h⟩ => h) ?_
   have hS : w3.drew.cell? ⟨w.heap.size, 0, none⟩ = some (.pointer (some ⟨X, 0, none⟩)) ∧ w3.drew.cell? ⟨X, 0, none⟩ = some (.pointer (some ⟨O, 0, none⟩)) ∧ w3.drew.cell? ⟨H, 1, none⟩ = some (.string x.key) := HS3.out
   refine wpAnyH_take (i := 0) (v := .pointer (some ⟨X, 0, none⟩)) rfl (by kernel_rfl) (by kernel_rfl) (by kernel_rfl) (fun _ _ _ h => h) (Or.inl ⟨by rfl, fun w' hS' => by obtain ⟨s1, s2, s3⟩ := hS'; go_simp⟩) hS ?_
   simp only [Act.put, List.setIfInBounds_toArray, List.set_cons_zero, List.set_cons_succ]
   refine wpAnyH_take (i := 1) (v := .pointer (some ⟨X, 0, none⟩)) rfl (by kernel_rfl) (by kernel_rfl) (by kernel_rfl) (fun _ _ _ h => h) (Or.inl ⟨by rfl, fun w' hS' => by obtain ⟨s1, s2, s3⟩ := hS'; go_simp⟩) hS ?_
   simp only [Act.put, List.setIfInBounds_toArray, List.set_cons_zero, List.set_cons_succ]
   refine wpAnyH_take (i := 2) (v := .pointer (some ⟨X, 0, none⟩)) rfl (by kernel_rfl) (by kernel_rfl) (by kernel_rfl) (fun _ _ _ h => h) (Or.inl ⟨by rfl, fun w' hS' => by obtain ⟨s1, s2, s3⟩ := hS'; go_simp⟩) hS ?_
   simp only [Act.put, List.setIfInBounds_toArray, List.set_cons_zero, List.set_cons_succ]
   refine wpAnyH_take (i := 3) (v := .pointer (some ⟨O, 0, none⟩)) rfl (by kernel_rfl) (by kernel_rfl) (by kernel_rfl) (fun _ _ _ h => h) (Or.inl ⟨by rfl, fun w' hS' => by obtain ⟨s1, s2, s3⟩ := hS'; go_simp⟩) hS ?_
   simp only [Act.put, List.setIfInBounds_toArray, List.set_cons_zero, List.set_cons_succ]
   refine wpAnyH_take (i := 4) (v := .pointer (some ⟨H, 1, none⟩)) rfl (by kernel_rfl) (by kernel_rfl) (by kernel_rfl) (fun _ _ _ h => h) (Or.inl ⟨by rfl, fun w' hS' => by obtain ⟨s1, s2, s3⟩ := hS'; go_simp⟩) hS ?_
   simp only [Act.put, List.setIfInBounds_toArray, List.set_cons_zero, List.set_cons_succ]
   refine wpAnyH_take (i := 5) (v := .string x.key) rfl (by kernel_rfl) (by kernel_rfl) (by kernel_rfl) (fun _ _ _ h => h) (Or.inl ⟨by rfl, fun w' hS' => by obtain ⟨s1, s2, s3⟩ := hS'; go_simp⟩) hS ?_
   simp only [Act.put, List.setIfInBounds_toArray, List.set_cons_zero, List.set_cons_succ]
   refine wpAnyH_take (i := 6) (v := .slice (some ⟨g2, 0, none⟩) zl.length k2) rfl (by kernel_rfl) (by kernel_rfl) (by kernel_rfl) (fun _ _ _ h => h) (Or.inl ⟨by rfl, fun w' hS' => by obtain ⟨s1, s2, s3⟩ := hS'; go_simp⟩) hS ?_
   simp only [Act.put, List.setIfInBounds_toArray, List.set_cons_zero, List.set_cons_succ]
   refine wpAnyH_ready (rs := [7]) (by kernel_rfl) (by simp) ?_
   refine AllReadyH.cons rfl (fun K' hK => ?_) AllReadyH.nil
   go_simp
   refine (HSET.out _ ((Upd.refl _ w3).drew)).mono ?_
   rintro e w4 ⟨⟨v4, rfl⟩, mv4, n4, key4, val4, kz4, hK4, hU4, hm4⟩
   refine hK.out _ _ (HS4.out _ _ ((Upd.refl _ w3).drew) hU4) (fun _ => wpAnyH_done (by kernel_rfl) ?_ _)
   obtain ⟨f1, f2⟩ := HF.out _ _ _ _ _ _ _ ((Upd.refl _ w3).drew) hK4 hU4 hm4
   exact ⟨f1, trivial, f2⟩
 case done =>
  rintro D1 xs V1 hD rfl hI hKD
  have n1 : ∀ b', b' ≠ O → mv.ownBlock ≠ some b' → ¬ (b' = O ∨ mv.ownBlock = some b') := fun b' h1 h2 h => h.elim h1 h2
  have q0 := hI.b0
  have q1 := hI.u.cellOf hX1 (n1 _ XO mX)
  have q2 := hI.u.cellOf hSc (n1 _ SO mS)
  have hSV := hI.u.has hS (n1 _ SO mS)
  have q3 := hSV.frozen i
  have HI := Lib.hid hI
  have HSV := Lib.hid hSV
  have hD2 : w.heap.size + 3 ≤ D1 := by omega
  clear hI hSV hX hS hX0 hX1 hSc hSv hSl
  go_wp2
  have hKD' : (V1.setCell ⟨S, i, none⟩ (.slice none 0 0)).heap[D1]? = some (.deferred (some [])) := (Below.heap_setCell V1 ⟨S, i, none⟩ _ D1 (by show D1 ≠ S; omega)).trans hKD
  refine ⟨by simp, .inl ⟨_, _, rfl, run_takeDeferred hKD', ?_⟩⟩
  have U : Upd (fun b' => b' = S ∨ b' = D1) V1 ((V1.setCell ⟨S, i, none⟩ (.slice none 0 0)).putObj D1 (.deferred none)) := ((Upd.refl _ V1).setCell _ _ (.inl (.inl rfl))).grown (grownBy_putObj' _ D1 _) (fun k e => by cases e; exact .inl (.inr rfl))
  obtain ⟨u, ⟨mv', n', key', val', kz', hK1, hmv⟩, a0, a1, a2⟩ := HI.out
  have nD : ∀ {t : TypeId} {cur : Array Value}, ¬ Has V1 D1 t cur := fun {t cur} h => by
   unfold Has at h
   rw [hKD] at h
   cases h
  have hKv := hK1.upd U (fun h => h.elim (fun h => SO h.symm) (fun h => by omega)) (fun b' e h => by
   rcases h with rfl | rfl
   ·rcases hmv _ e with h | h
    ·exact mS h
    ·omega
   ·obtain ⟨cur, hc⟩ := own_has' hK1.om.own e
    exact nD hc) (fun r hr b' e h => by
   rcases h with rfl | rfl
   ·exact hBS (hK1.bl r hr _ e)
   ·obtain ⟨cur, hc⟩ := own_has' (hK1.row r hr) e
    exact nD hc)
  refine ⟨.tuple #[.int .i64 ((xs.length : Nat) : Int), .int .i64 0], ?_, rfl, mv', n', key', val', kz', hKv, fun b' h => (hmv b' h).imp id (fun h => by omega), ?_, ?_⟩
  ·simp [results, Tryz.f31, go_sem]
  ·have h := HSV.out.set i (.slice none 0 0)
   have U2 : Upd (fun b' => b' = D1) (V1.setCell ⟨S, i, none⟩ (.slice none 0 0)) ((V1.setCell ⟨S, i, none⟩ (.slice none 0 0)).putObj D1 (.deferred none)) := (Upd.refl _ _).grown (grownBy_putObj' _ D1 _) (fun k e => by cases e; exact .inl rfl)
   exact U2.has h (by omega)
  ·exact ((u.mono (fun _ _ h => .inl (.inl h))).trans (U.mono (fun b' _ h => h.elim (fun h => .inl (.inr h)) (fun h => .inr (by omega))))).trim
 case stop =>
  rintro D1 c V1 _ h _
  exact h.elim
end Go.M
