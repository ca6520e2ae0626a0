/- Walks 22. -/
import Derived.Test.YtnmkiflnonafbaaGreatDoorProg
import Derived.Test.YtnmkiflnonafbaaGreatDoorK21
import Derived.Test.YtnmkiflnonafbaaGreatDoorK19
import Derived.Test.YtnmkiflnonafbaaGreatDoorK17
set_option linter.unusedVariables false
set_option linter.unusedSimpArgs false
set_option maxRecDepth 100000
namespace Go.M
open Go.Proofs Go.RowKit Go.Shelf
set_option linter.unusedSimpArgs false
structure KvIn (V : World) (O : Nat) (mv : Value) (n : Nat) (key : Nat → ByteArray) (val : Nat → Value) (kz : Nat → List Ent) (B : Nat → Prop) (M : ByteArray → List Ent) : Prop where
 om : OMap V O mv n key val
 n5 : n ≤ 500
 mO : mv.ownBlock ≠ some O
 row : ∀ r, r < n → V.ownsRow 0 111 6 (val r) (kz r).length (rowOf (kz r))
 len : ∀ r, r < n → (kz r).length ≤ 500
 sep : ∀ r, r < n → ∀ b, (val r).ownBlock = some b → b ≠ O ∧ mv.ownBlock ≠ some b
 mp : ∀ r, r < n → kz r ≠ [] ∧ M (key r) = kz r
 on : ∀ k, M k ≠ [] → ∃ r, r < n ∧ key r = k
 inj : ∀ i j, i < n → j < n → key i = key j → i = j
 bl : ∀ r, r < n → ∀ b, (val r).ownBlock = some b → B b
variable {V : World} {O n : Nat} {mv : Value} {key : Nat → ByteArray} {val : Nat → Value} {kz : Nat → List Ent} {B : Nat → Prop} {M : ByteArray → List Ent}
theorem KvIn.upd {V' : World} {G : Nat → Prop} (h : KvIn V O mv n key val kz B M) (U : Upd G V V') (hO : ¬ G O) (hm : ∀ b, mv.ownBlock = some b → ¬ G b) (hr : ∀ r, r < n → ∀ b, (val r).ownBlock = some b → ¬ G b) : KvIn V' O mv n key val kz B M :=
 ⟨h.om.upd U hO hm, h.n5, h.mO, fun r hn => Upd.own U (h.row r hn) (hr r hn), h.len, h.sep, h.mp, h.on, h.inj, h.bl⟩
theorem KvIn.one (h : KvIn V O mv n key val kz B M) : ∀ i, i < n → (val i).oneCell' = true := fun i hi => by
 obtain ⟨a, c, e⟩ := Zac (h.row i hi);rw [e]; rfl
theorem KvIn.get (h : KvIn V O mv n key val kz B M) {k : ByteArray} (hk : M k ≠ []) : ∃ r, r < n ∧ key r = k ∧ kz r = M k ∧ (∀ i, i < r → Zah (key i) k = true) ∧ ∀ W, Old V W →
 Calls Tryz.prog 98 #[.pointer (some ⟨O, 0, none⟩), .string k] W fun e w' => e = .returned (.tuple #[val r, .bool true]) ∧ Old W w' := by
 obtain ⟨r, hr, rfl⟩ := h.on k hk;have pin : ∀ r', r' ≤ n → (∀ i, i < r' → Zah (key i) (key r) = true) → (∀ i, r' ≤ i → i < n → Zah (key i) (key r) = false) → r' = r := fun r' h1 h2 h3 => by
  rcases Nat.lt_trichotomy r' r with h4 | h4 | h4
  ·refine h.inj r' r (by omega) hr (Zdo (h3 r' (Nat.le_refl _) (by omega)) ?_)
   cases hq : Zah (key r) (key r') with
   | false => rfl
   | true =>
    have := h.om.sorted (key r') r' r (by omega) hr hq
    rw [ZaB] at this;cases this
  ·exact h4
  ·have := h2 r h4;rw [ZaB] at this;cases this
 obtain ⟨r0, h1, h2, h3⟩ := Zcb (key := key) (k := key r) n (h.om.sorted (key r));have e0 := pin r0 h1 h2 h3;subst e0;refine ⟨r0, hr, rfl, (h.mp r0 hr).2.symm, h2, fun W U => ?_⟩
 refine (ZeQ (k := key r0) (h.om.upd U (fun x => x) (fun _ _ x => x))).mono ?_
 rintro e w' ⟨r', q1, q2, q3, hU, ⟨q4, q5, rfl⟩ | ⟨q4, rfl⟩⟩
 ·rw [pin r' q1 q2 q3]; exact ⟨rfl, hU⟩
 ·have := pin r' q1 q2 q3;subst this;exact absurd ⟨hr, rfl⟩ q4
theorem KvIn.del (h : KvIn V O mv n key val kz B M) {r : Nat} (hr : r < n) (hlt : ∀ i, i < r → Zah (key i) (key r) = true) :
 Calls Tryz.prog 101 #[.pointer (some ⟨O, 0, none⟩), .string (key r)] V fun e w' => (∃ v, e = .returned v) ∧ ∃ mv' n' key' val' kz', KvIn w' O mv' n' key' val' kz' B (fun k => if k = key r then [] else M k) ∧ Upd (fun b => b = O ∨ mv.ownBlock = some b) V w' ∧ ∀ b, mv'.ownBlock = some b → mv.ownBlock = some b := by
 obtain ⟨m, rfl⟩ : ∃ m, n = m + 1 := ⟨n - 1, by omega⟩
 refine (Zr4 h.om h.mO (by omega) hlt h.one).mono ?_
 rintro e w' ⟨he, mv', hM, hU, hb⟩;have ix : ∀ i, i < m → ∃ j, j < m + 1 ∧ j ≠ r ∧ ZbG r key i = key j ∧ ZbG r val i = val j ∧ ZbG r kz i = kz j ∧ (j = if i < r then i else i + 1) := fun i hi => by
  unfold ZbG
  by_cases h1 : i < r
  ·exact ⟨i, by omega, by omega, if_pos h1, if_pos h1, if_pos h1, by rw [if_pos h1]⟩
  ·exact ⟨i + 1, by omega, by omega, if_neg h1, if_neg h1, if_neg h1, by rw [if_neg h1]⟩
 have hkr : ∀ j, j < m + 1 → j ≠ r → key j ≠ key r := fun j hj hne e => hne (h.inj j r hj hr e)
 refine ⟨he, mv', m, _, _, ZbG r kz, ⟨hM, by have := h.n5; omega, fun e => h.mO (hb O e), fun i hi => ?_, fun i hi => ?_, fun i hi b e => ?_, fun i hi => ?_, fun k hk => ?_, fun i j hi hj e => ?_, fun i hi b e => ?_⟩, hU, hb⟩
 ·obtain ⟨j, a1, a2, a3, a4, a5, -⟩ := ix i hi;rw [a4, a5]
  exact Upd.own hU (h.row j a1) (fun b e f => by
   have := h.sep j a1 b e;rcases f with f | f
   ·exact this.1 f
   ·exact this.2 f)
 ·obtain ⟨j, a1, a2, a3, a4, a5, -⟩ := ix i hi;rw [a5]; exact h.len j a1
 ·obtain ⟨j, a1, a2, a3, a4, a5, -⟩ := ix i hi;rw [a4] at e;have := h.sep j a1 b e;exact ⟨this.1, fun f => this.2 (hb b f)⟩
 ·obtain ⟨j, a1, a2, a3, a4, a5, -⟩ := ix i hi;rw [a3, a5, if_neg (hkr j a1 a2)];exact h.mp j a1
 ·by_cases e : k = key r
  ·rw [if_pos e] at hk; exact absurd rfl hk
  ·rw [if_neg e] at hk;obtain ⟨j, hj, rfl⟩ := h.on k hk;have hjr : j ≠ r := fun f => e (by rw [f])
   by_cases h1 : j < r
   ·exact ⟨j, by omega, by unfold ZbG; rw [if_pos h1]⟩
   ·exact ⟨j - 1, by omega, by unfold ZbG; rw [if_neg (by omega)]; congr 1; omega⟩
 ·obtain ⟨i', a1, a2, a3, -, -, a6⟩ := ix i hi;obtain ⟨j', b1, b2, b3, -, -, b6⟩ := ix j hj;rw [a3, b3] at e;have := h.inj i' j' a1 b1 e;rw [a6, b6] at this
  split at this <;> split at this <;> omega
 ·obtain ⟨j, a1, a2, a3, a4, a5, -⟩ := ix i hi;rw [a4] at e;exact h.bl j a1 b e
theorem KvIn.set (h : KvIn V O mv n key val kz B M) {r vn vc : Nat} {va : Option Addr} {l : List Ent} (hr : r < n) (hl : l ≠ []) (hl5 : l.length ≤ 500) (own : V.ownsRow 0 111 6 (.slice va vn vc) l.length (rowOf l)) (hs : ∀ b, (Value.slice va vn vc).ownBlock = some b → b ≠ O ∧ mv.ownBlock ≠ some b) (hB : ∀ b, (Value.slice va vn vc).ownBlock = some b → B b) :
 Calls Tryz.prog 89 #[.pointer (some ⟨O, 0, none⟩), .string (key r), .slice va vn vc] V fun e w' => (∃ v, e = .returned v) ∧ ∃ mv' n' key' val' kz', KvIn w' O mv' n' key' val' kz' B (fun k => if k = key r then l else M k) ∧ Upd (fun b => b = O ∨ mv.ownBlock = some b) V w' ∧ ∀ b, mv'.ownBlock = some b → mv.ownBlock = some b ∨ V.heap.size ≤ b := by
 refine (ZeS (k := key r) h.om h.mO h.one (by have := h.n5; omega)).mono ?_
 rintro e w' ⟨⟨u, b, rfl⟩, mv', n', key', val', hM, hU, hb, r', q1, q2, ⟨q3, q4, rfl, rfl, rfl⟩ | ⟨q3, -⟩⟩
 ·have e0 := h.inj r' r q3 hr q4;subst e0;obtain ⟨t, hO⟩ := h.om.made;have hOl := hO.lt;have nU : ∀ v : Value, (∀ b, v.ownBlock = some b → b ≠ O ∧ mv.ownBlock ≠ some b) → ∀ b, v.ownBlock = some b → ¬ (b = O ∨ mv.ownBlock = some b) := fun v hv b e f => by
   have := hv b e;rcases f with f | f
   ·exact this.1 f
   ·exact this.2 f
  have nm : ∀ v : Value, (∀ b, v.ownBlock = some b → b ≠ O ∧ mv.ownBlock ≠ some b) → (∀ b, v.ownBlock = some b → b < V.heap.size) → ∀ b, v.ownBlock = some b → b ≠ O ∧ mv'.ownBlock ≠ some b := fun v hv hlt b e => ⟨(hv b e).1, fun f => by
   rcases hb b f with f | f
   ·exact (hv b e).2 f
   ·have := hlt b e; omega⟩
  refine ⟨⟨_, rfl⟩, mv', _, _, _, fun i => if i = r' then l else kz i, ⟨hM, h.n5, fun f => ?_, fun i hi => ?_, fun i hi => ?_, fun i hi => ?_, fun i hi => ?_, fun k hk => ?_, h.inj, fun i hi b e => ?_⟩, hU, hb⟩
  ·rcases hb O f with f | f
   ·exact h.mO f
   ·omega
  ·by_cases e : i = r'
   ·simp only [if_pos e];exact Upd.own hU own (nU _ hs)
   ·simp only [if_neg e];exact Upd.own hU (h.row i hi) (nU _ (h.sep i hi))
  ·by_cases e : i = r'
   ·simp only [if_pos e]; exact hl5
   ·simp only [if_neg e]; exact h.len i hi
  ·by_cases e : i = r'
   ·simp only [if_pos e];exact nm _ hs (fun b e => (own.lt b e).2)
   ·simp only [if_neg e];exact nm _ (h.sep i hi) (fun b e => ((h.row i hi).lt b e).2)
  ·by_cases e : i = r'
   ·simp only [if_pos e];rw [e, if_pos rfl];exact ⟨hl, rfl⟩
   ·simp only [if_neg e];rw [if_neg (fun f => e (h.inj i r' hi hr f))]
    exact h.mp i hi
  ·split at hk
   ·next e => exact ⟨r', hr, e.symm⟩
   ·exact h.on k hk
  ·by_cases e2 : i = r'
   ·simp only [if_pos e2] at e;exact hB b e
   ·simp only [if_neg e2] at e;exact h.bl i hi b e
 ·exact absurd rfl (q3 r hr)
end Go.M
namespace Go.M
open Go.Proofs Go.RowKit Go.Shelf
attribute [local go_sem] Oper.semAt_some
theorem Zl7 (F : Fence) (n : Nat) (h7 : F.fn 108) (hro : F.round = none) (hn : 1 ≤ n) (l Bs b cap : Nat) (zs : List Ent) (hreach : zs.length ≤ 1000) (J Jx : List Ent → World → Prop)
 (hY : ∀ pre x W, J pre W → (pre = zs.take pre.length ∧ zs[pre.length]? = some x) → YieldAt F (n - 1) Tryz.prog l #[x.val] W fun e W' =>
   (e = .returned (.bool true) ∧ J (pre ++ [x]) W') ∨ (e = .returned (.bool false) ∧ Jx (pre ++ [x]) W'))
 (W : World) (hJ : AbidesFrom W.heap.size J) (hBs : W.cell? ⟨Bs, 0, none⟩ = some (.slice (some ⟨b, 0, none⟩) zs.length cap)) (hc : ∀ pre V, J pre V → ∀ i e, zs[i]? = some e → ∀ j u, e.cells[j]? = some u → V.cell? ⟨b, i * 6 + j, none⟩ = some u) (h0 : J [] W) :
 CallsIn F n Tryz.prog 108 #[.func (.yield l) #[] #[], .pointer (some ⟨Bs, 0, none⟩)] W fun e W' => (∃ v, e = .returned v) ∧
  ((∃ ys, ys = zs ∧ J ys W') ∨ (∃ pre, (∃ k, k ≤ zs.length ∧ pre = zs.take k) ∧ Jx pre W')) := by
 refine callsIn_of_wp Tryz.func108 rfl h7 ?_ hro;simp only [Tryz.ntmps108, List.size_toArray, List.length_cons, List.length_nil, Nat.reduceAdd, Nat.reduceSub, Array.replicate_succ, Array.replicate_zero, List.push_toArray, List.append_toArray, List.nil_append, List.cons_append];have HC := Lib.hid hc;have HY := Lib.hid hY;have HJ := Lib.hid hJ;clear hc hY hJ
 gi_wp2
 gi_loopw [7] (fun i wr => ∃ k : Nat, k ≤ zs.length ∧ i = .int .i64 k ∧ J (zs.take k) wr)
  (fun i _ => zs.length - (intOf i).toNat)
 case atStart => exact ⟨0, Nat.zero_le _, rfl, by simpa using h0⟩
 case round =>
  obtain ⟨k, hk, rfl, hJs⟩ := hrel
  by_cases hlt : k < zs.length
  ·obtain ⟨x, hx⟩ : ∃ x, zs[k]? = some x := ⟨zs[k]'(by omega), List.getElem?_eq_getElem _⟩
   have c0 : wr.cell? ⟨b, k * 6, none⟩ = some (.int .i64 ((x.seq : Nat) : Int)) := HC.out _ _ hJs k x hx 0 _ rfl;have c1 : wr.cell? ⟨b, k * 6 + 1, none⟩ = some (.string x.key) := HC.out _ _ hJs k x hx 1 _ rfl;have c2 : wr.cell? ⟨b, k * 6 + 2, none⟩ = some (.bool x.del) := HC.out _ _ hJs k x hx 2 _ rfl;have c3 : wr.cell? ⟨b, k * 6 + 3, none⟩ = some (.int .i64 ((x.slot : Nat) : Int)) := HC.out _ _ hJs k x hx 3 _ rfl;have c4 : wr.cell? ⟨b, k * 6 + 4, none⟩ = some (.int .i64 ((x.off : Nat) : Int)) := HC.out _ _ hJs k x hx 4 _ rfl;have c5 : wr.cell? ⟨b, k * 6 + 5, none⟩ = some (.int .i64 ((x.size : Nat) : Int)) := HC.out _ _ hJs k x hx 5 _ rfl;obtain ⟨fn, tmps, assign, body, hy, hR⟩ := HY.out (zs.take k) x (wr.alloc (.cells #[.int .i64 ((x.seq : Nat) : Int), .string x.key, .bool x.del, .int .i64 ((x.slot : Nat) : Int), .int .i64 ((x.off : Nat) : Int), .int .i64 ((x.size : Nat) : Int)] 111)) (HJ.out _ _ _ none hJs (World.grownBy_alloc _ _ none) (fun r e => by cases e)) (by rw [List.length_take, Nat.min_eq_left hk]; exact ⟨rfl, hx⟩)
   unfold Ent.val at hy;have hts : zs.take k ++ [x] = zs.take (k + 1) := by rw [List.take_add_one, hx]; rfl
   gi_wp2
   refine hR.mono ?_;rintro e W3 (⟨rfl, hJ3⟩ | ⟨rfl, hJx3⟩)
   ·gi_wp2
    go_roundw
    case rel => exact ⟨k + 1, by omega, by simp, by rw [← hts]; exact hJ3⟩
    case measure => simp [intOf]; omega
   ·gi_wp2
    refine bodyPost_ret (results_none rfl _ _ _) rfl ?_;exact ⟨⟨_, rfl⟩, .inr ⟨_, ⟨k + 1, by omega, hts⟩, hJx3⟩⟩
  ·obtain rfl : k = zs.length := by omega
   gi_wp2
   go_end0
   exact ⟨⟨_, rfl⟩, .inl ⟨_, rfl, by simpa using hJs⟩⟩
structure SlG (PX PS X S i m c b cap : Nat) (zs : List Ent) (V : World) : Prop where
 px : V.cell? ⟨PX, 0, none⟩ = some (.pointer (some ⟨X, 0, none⟩))
 ps : V.cell? ⟨PS, 0, none⟩ = some (.int .i64 ((i : Nat) : Int))
 x1 : V.cell? ⟨X, 1, none⟩ = some (.slice (some ⟨S, 0, none⟩) m c)
 s : V.cell? ⟨S, i, none⟩ = some (.slice (some ⟨b, 0, none⟩) zs.length cap)
 row : ∀ i e, zs[i]? = some e → ∀ j u, e.cells[j]? = some u → V.cell? ⟨b, i * 6 + j, none⟩ = some u
theorem SlG.old {PX PS X S i m c b cap : Nat} {zs : List Ent} {V V' : World} (h : SlG PX PS X S i m c b cap zs V) (U : Old V V') : SlG PX PS X S i m c b cap zs V' :=
 ⟨Old.cellOf' U h.px, Old.cellOf' U h.ps, Old.cellOf' U h.x1, Old.cellOf' U h.s, fun i e hi j u hu => Old.cellOf' U (h.row i e hi j u hu)⟩
set_option maxHeartbeats 2000000 in
theorem Zl8 {w : World} (nf : Nat) (hnf : 1 ≤ nf) {PX PS X S i m c b cap : Nat} {zs : List Ent} (hreach : zs.length ≤ 1000) (him : i < m) :
 ZpY Fence.wide nf Tryz.prog 52 #[.pointer (some ⟨PX, 0, none⟩), .pointer (some ⟨PS, 0, none⟩)] (fun x : Ent => #[x.val]) (fun _ V => SlG PX PS X S i m c b cap zs V) (fun pre x => pre = zs.take pre.length ∧ zs[pre.length]? = some x) (fun xs => xs = zs) w := by
 intro l J Jx W hW hJ hJx hG hY h0;refine callsIn_wide.2 ?_;show Calls Tryz.prog _ #[.func (.yield l) #[] #[], .pointer (some ⟨PX, 0, none⟩), .pointer (some ⟨PS, 0, none⟩)] W _;have g1 : ¬ ((i : Int) < 0) := by omega
 have g2 : (i : Int) < (m : Int) := by omega
 have g3 : ¬ ((m : Int) ≤ (i : Int)) := by omega
 have g4 : 0 < m := by omega
 obtain ⟨hPX, hPS, hX1, hS, -⟩ := hG [] W h0;have HV : Hid (∀ W1 : World, W.grownBy W1 none → W1.cell? ⟨W.heap.size, 0, none⟩ = some (.slice (some ⟨b, 0, none⟩) zs.length cap) → Calls Tryz.prog 108 #[.func (.yield l) #[] #[], .pointer (some ⟨W.heap.size, 0, none⟩)] W1 fun e V => (∃ v, e = .returned v) ∧ ((∃ xs, xs = zs ∧ J xs V) ∨ ∃ pre, Jx pre V)) := fun W1 hg hb => by
  refine (callsIn_wide.1 (Zl7 Fence.wide nf trivial rfl hnf l W.heap.size b cap zs hreach J Jx hY W1 (fun s A B row hs hg' hr => hJ s A B row hs hg' (fun r e => ⟨Nat.le_trans hg.size (hr r e).1, (hr r e).2⟩)) hb (fun pre V hj => (hG pre V hj).row) (hJ _ _ _ none h0 hg (fun r e => by cases e)))).mono ?_
  rintro e V ⟨h1, h2 | ⟨pre, _, h2⟩⟩
  ·exact ⟨h1, .inl h2⟩
  ·exact ⟨h1, .inr ⟨pre, h2⟩⟩
 have HVI := Lib.hid (fun w : World => values_in (w := w) (v := .slice (some ⟨b, 0, none⟩) zs.length cap) ⟨_, _, _, rfl⟩)
 clear hJ h0 hY hG hJx
 go_enter Tryz.func52, Tryz.ntmps52
 go_wp2_with (first | go_in)
 ·have HG : W.grownBy ((W.alloc (.cells #[.slice (some ⟨b, 0, none⟩) zs.length cap] 105)).drew) none := Zdq (World.grownBy_alloc _ _ none);have HB : ((W.alloc (.cells #[.slice (some ⟨b, 0, none⟩) zs.length cap] 105)).drew).cell? ⟨W.heap.size, 0, none⟩ = some (.slice (some ⟨b, 0, none⟩) zs.length cap) := by simp
  go_region_with (first | (go_at_call 54; refine (HVI.out _).mono ?_; rintro e w1 ⟨rfl, rfl⟩) | (go_at_call 108; refine (HV.out ((W.alloc (.cells #[.slice (some ⟨b, 0, none⟩) zs.length cap] 105)).drew) HG HB).mono ?_; rintro e w2 ⟨⟨v, rfl⟩, hC⟩))
  all_goals
   go_end0
   exact ⟨⟨_, rfl⟩, hC⟩
end Go.M
namespace Go.M
open Go.Proofs Go.RowKit
theorem Zl9 {α : Type} {F : Fence} {n : Nat} {P : Program} {g : Operand} {ps : Array Tmp} {assign body : Code} {Q : Exit → Act → World → Prop} {a : Act} {w : World} (hro : F.round = none) (h1 : 1 ≤ n) {gf : Nat} {lb : Array Value}
 (hg : a.eval g = .func (.func gf) #[] lb) (hF : F.fn gf) (eg : ∀ args w, (callFunc gf args).run P w = .ok (.enter gf args) w) {encs : α → Array Value} (hps : ∀ x, (encs x).size = ps.size)
 {G : List α → World → Prop} {ok : List α → α → Prop} {S : List α → Prop} (hseq : ZpY F (n - 1) P gf lb encs G ok S w)
 (I : List α → World → Prop) (Ix : Code → World → Prop) (hI : OwnFrom w.heap.size I) (hIx : ∀ c, OwnFrom w.heap.size (fun (_ : Unit) => Ix c)) (h0 : I [] w) (hG : ∀ pre V, I pre V → G pre V) (ob : α → Obj) (a1 : α → Nat → Act)
 (hassign : ∀ (l : Nat) (x : α) (V : World) (K : Act → World → Prop), K (a1 x V.heap.size) (V.alloc (ob x)) → assign.wpIn (F.inRound l) (n - 1 - 1) P (Exit.then K (fun _ _ _ => False)) { tmps := (ps.zip (encs x)).foldl (fun t (p, v) => t.setIfInBounds p v) a.tmps, defers := [] } V)
 (hbody : ∀ (l H : Nat) (pre : List α) (x : α) (V : World), w.heap.size ≤ l → w.heap.size ≤ H → V.heap[H]? = some (ob x) → I pre V → ok pre x → body.wpIn (F.inRound l) (n - 1 - 1) P (ownPostG w.heap.size (fun _ _ => True) I (fun c _ => Ix c) (pre ++ [x]) V) (a1 x H) V)
 (hdone : ∀ (D : Nat) (xs : List α) (V : World), w.heap.size ≤ D → S xs → I xs V → V.heap[D]? = some (.deferred (some [])) → Q .normal { a with defers := { target := .collected D, args := #[] } :: a.defers } V)
 (hstop : ∀ (D : Nat) (c : Code) (V : World), w.heap.size ≤ D → Ix c V → V.heap[D]? = some (.deferred (some [])) → c.wpIn F n P Q { a with defers := { target := .collected D, args := #[] } :: a.defers } V) :
 (Code.rangeFunc g ps assign body).wpIn F n P Q a w := by
 refine wpIn_rangeFunc fun fn hfn => ?_
 rw [hro];obtain ⟨b, hb⟩ : ∃ b, w.heap.size = b := ⟨_, rfl⟩;obtain ⟨r0, hr0⟩ : ∃ r0 : Loop, r0 = { state := .ready, pending := none, fn := fn, tmps := a.tmps, params := ps, assign := assign, body := body, defers := b } := ⟨_, rfl⟩;obtain ⟨V1, hV1⟩ : ∃ V1, (w.alloc (.deferred (some []))).alloc (.loop r0) = V1 := ⟨_, rfl⟩;have hz : V1.heap.size = b + 2 := by rw [← hV1, ← hb]; simp
 have U1 : Old w V1 := by rw [← hV1]; exact ((Upd.refl _ w).alloc _).alloc _
 have B1 : Bk b r0 V1 := by
  rw [← hV1];constructor
  ·rw [← hb]; exact (Below.heap_alloc _ _ _ (by simp)).trans (World.alloc_heap_new w _)
  ·have := World.alloc_heap_new (w.alloc (.deferred (some []))) (.loop r0);rwa [World.size_alloc, hb] at this
 have I1 : I [] V1 := by rw [← hV1]; exact hI.alloc _ (hI.alloc _ h0)
 refine ⟨b + 1, [{ target := .collected b, args := #[] }], V1, { target := .fn (.func gf) lb, args := #[.func (.yield (b + 1)) #[] #[]] }, V1, gf, #[.func (.yield (b + 1)) #[] #[]] ++ lb, V1, ?_, ?_, ?_, ?_, fun _ => h1, ?_⟩
 ·have := run_enterLoop_outer (P := P) (w := w) fn a.tmps ps assign body;rw [hb] at this;rw [this, ← hV1, hr0]
 ·simp only [resolve, hg];simp [go_sem]
 ·intro f' hf';simp [Target.leads] at hf';subst hf';exact hF
 ·simp [invoke, go_sem, eg]
 have row : ∀ {A : World} {r : Option Nat}, (∀ k, r = some k → V1.heap.size ≤ k ∧ ∃ o : Obj, A.heap[k]? = some o ∧ o.isWalk = true) → ∀ k, r = some k → w.heap.size ≤ k ∧ ∃ o : Obj, A.heap[k]? = some o ∧ o.isCells = false := fun h k e => by
  obtain ⟨h2, o, ho, hw⟩ := h k e;exact ⟨by omega, o, ho, Obj.not_cells_of_walk hw⟩
 refine (hseq (b + 1) (fun pre V => I pre V ∧ Bk b r0 V) (fun _ V => ∃ c, Ix c V ∧ Bk b { r0 with state := .done, pending := some c } V) V1 U1 ?_ ?_ (fun pre V h => hG pre V h.1) ?_ ⟨I1, B1⟩).mono ?_
 ·exact fun s A A' r h hgr hr => ⟨hI s A A' r h.1 hgr (row hr), h.2.far hgr (B := V1.heap.size) (by omega) (fun k e => (hr k e).1)⟩
 ·rintro s A A' r ⟨c, h1, h2⟩ hgr hr;exact ⟨c, hIx c () A A' r h1 hgr (row hr), h2.far hgr (B := V1.heap.size) (by omega) (fun k e => (hr k e).1)⟩
 ·rintro pre x V0 ⟨hi0, hk0⟩ hok;have hy := run_yield (P := P) (args := encs x) hk0.2 (by rw [hr0]; exact hps x)
  rw [hr0] at hy;refine ⟨fn, _, assign, body, hy, roundIn_of_wpIn hfn (hassign _ x V0 _ ?_)⟩;have lb0 : b + 1 < V0.heap.size := (Array.getElem?_eq_some_iff.1 hk0.2).1;have hi : I pre (V0.alloc (ob x)) := hI.alloc _ hi0;have hk : Bk b r0 (V0.alloc (ob x)) := hk0.far (World.grownBy_alloc V0 (ob x) none) lb0 (fun k e => by cases e)
  have hH : (V0.alloc (ob x)).heap[V0.heap.size]? = some (ob x) := World.alloc_heap_new V0 _;obtain ⟨V, hV⟩ : ∃ V, V0.alloc (ob x) = V := ⟨_, rfl⟩;rw [hV] at hi hk hH ⊢;refine ⟨_, run_beginRound hk.2 (by rw [hr0]), ?_⟩
  have hl : ∃ o : Obj, V.heap[b + 1]? = some o ∧ o.isCells = false := ⟨_, hk.2, rfl⟩;have hk2 := hk.put { r0 with state := .busy }
  have hi2 := hI.putObj (s := pre) (.loop { r0 with state := .busy }) hi (by omega) hk.2 rfl
  have ends : ∀ (j : Option Code) (V3 : World), KeepsFrom w.heap.size (V.putObj (b + 1) (.loop { r0 with state := .busy })) V3 → (Instr.endRound (b + 1) j).run P V3 = .ok (.bool j.isNone) (V3.putObj (b + 1) (.loop { r0 with state := if j.isNone then .ready else .done, pending := j })) ∧ Bk b { r0 with state := .busy } V3 := fun j V3 k3 => by
   have e1 := k3.same _ _ (by omega) hk2.1 rfl
   have e2 := k3.same _ _ (by omega) hk2.2 rfl
   have e3 := run_endRound (P := P) j e2;exact ⟨e3, e1, e2⟩
  refine wpIn_mono (hbody _ V0.heap.size pre x _ (by omega) (by omega) ((World.putObj_heap_other (by omega)).trans hH) hi2 hok) ?_
  intro e a3 V3 hp;have stop : ∀ c, KeepsFrom w.heap.size (V.putObj (b + 1) (.loop { r0 with state := .busy })) V3 ∧ Ix c V3 → ∃ v V4, (Instr.endRound (b + 1) (some c)).run P V3 = .ok v V4 ∧ ((Ending.returned v = .returned (.bool true) ∧ I (pre ++ [x]) V4 ∧ Bk b r0 V4) ∨ (Ending.returned v = .returned (.bool false) ∧ ∃ c, Ix c V4 ∧ Bk b { r0 with state := .done, pending := some c } V4)) := fun c h => by
   obtain ⟨e1, e2⟩ := ends (some c) V3 h.1;exact ⟨_, _, e1, .inr ⟨rfl, c, (hIx c).putObj (s := ()) _ h.2 (by omega) e2.2 rfl, by simpa using e2.put _⟩⟩
  cases e with
  | normal =>
   obtain ⟨k3, -, i3⟩ := hp;obtain ⟨e1, e2⟩ := ends none V3 k3;refine ⟨_, _, e1, .inl ⟨rfl, hI.putObj (s := pre ++ [x]) _ i3 (by omega) e2.2 rfl, ?_⟩⟩
   have := e2.put r0;rw [hr0] at this ⊢;exact this
  | ret => exact stop _ hp
  | exit id => exact stop _ hp
  | goto t => exact stop _ hp
  | panic ch => exact hp.elim
  | outgrown => exact hp.elim
 ·rintro e V2 ⟨⟨v, rfl⟩, ⟨xs, hS, hi, hk⟩ | ⟨pre, c, hc, hk⟩⟩
  ·have := run_endLoop (P := P) hk.2 (by rw [hr0]; simp)
   rw [show r0.pending = none by rw [hr0]] at this
   exact ⟨none, _, this, hdone b xs _ (by omega) hS (hI.putObj (s := xs) _ hi (by omega) hk.2 rfl) (hk.put _).1⟩
  ·have := run_endLoop (P := P) hk.2 (by simp)
   exact ⟨some c, _, this, hstop b c _ (by omega) ((hIx c).putObj (s := ()) _ hc (by omega) hk.2 rfl) (hk.put _).1⟩
end Go.M
