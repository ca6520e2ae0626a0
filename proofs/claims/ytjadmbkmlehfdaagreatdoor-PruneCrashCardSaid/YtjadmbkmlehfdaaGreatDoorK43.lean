/- Walks 43. -/
import Derived.Test.YtjadmbkmlehfdaaGreatDoorProg
import Derived.Test.YtjadmbkmlehfdaaGreatDoorK42
import Derived.Scope
set_option linter.unusedVariables false
set_option linter.unusedSimpArgs false
set_option maxRecDepth 100000
namespace Go.M
open Go.Proofs Go.RowKit Go.Shelf
set_option linter.unusedSimpArgs false
attribute [local go_sem] Oper.semAt_some
section
variable {P : Program} {F : Fence} {m : Nat} {b : Frame} {a : Act} {k : List Item} {cs : List Frame} {w : World} {Q : Exit → Act → World → Prop}
theorem stepR_scope {c : Code} : step P (lone (b.atR a (.code (.scope c) :: k)) cs w) = .next (lone (b.atR a (.code c :: .inScope c :: k)) cs w) :=
 step_lone_go (by simp [stepG, stepG.exec, Frame.atR])
theorem stepR_inScope {c : Code} : step P (lone (b.atR a (.inScope c :: k)) cs w) = .next (lone (b.atR a k) cs w) :=
 step_lone_go (by simp [stepG, stepG.exec, Frame.atR])
theorem wpIn_scope {c : Code} (h : c.wpIn F m P (Exit.noGoto Q) a w) : (Code.scope c).wpIn F m P Q a w := by
 intro b k cs hro hb hr
 have h0 : (lone (b.atR a (.code (.scope c) :: k)) cs w).fenced P F := fenced_calm hb hr rfl
 obtain ⟨e, a₁, w₁, hq, harr⟩ := h b (.inScope c :: k) cs hro hb hr
 cases e with
 | normal => exact ⟨.normal, a₁, w₁, hq, .head h0 stepR_scope (StepsIn.trans harr (.one (fenced_calm hb hr rfl) stepR_inScope))⟩
 | exit id =>
  have hx : exitTo id (.inScope c :: k) = exitTo id k := by simp [exitTo]
  exact ⟨_, a₁, w₁, hq, fun k' hk => .head h0 stepR_scope (harr.1 k' (by rw [hx]; exact hk)),
   fun hr' hk => let ⟨k₁, h1, h2⟩ := harr.2 hr' (by rw [hx]; exact hk); ⟨k₁, h1, .head h0 stepR_scope h2⟩⟩
 | goto l => exact hq.elim
 | ret => exact ⟨_, a₁, w₁, hq, .of_steps (.one h0 stepR_scope) harr⟩
 | panic ch => exact ⟨_, a₁, w₁, hq, .of_steps (.one h0 stepR_scope) harr⟩
 | outgrown => exact ⟨_, a₁, w₁, hq, .of_steps (.one h0 stepR_scope) harr⟩
end
variable {w : World} {col : Col} {PP D B X n r : Nat} {s : DevS} {st : Nat → Nat} {M : ByteArray → List Ent} {x : IdxS}
structure OrG (w0 : World) (PX PT X B : Nat) (V : World) : Prop where
 px : V.cell? ⟨PX, 0, none⟩ = some (.pointer (some ⟨X, 0, none⟩))
 pt : V.cell? ⟨PT, 0, none⟩ = some (.pointer (some ⟨B, 0, none⟩))
 o : Old w0 V
structure OrS (W : World) (C n : Nat) (J : List Nat → World → Prop) (Wr : World → Nat → Prop) (pre S : List Nat) (Y : Ix) (colr : Col) (xr : IdxS) (v : Value) (wr : World) : Prop where
 j : J pre wr
 idx : IdxC wr colr 3 C n Y.1 xr
 es : xr.es = Y.2
 row : wr.ownsRow 0 3 1 v S.length (intsV S)
 new : ∀ b, wr.heap.size ≤ b → (colr b).1 = 0
 r3 : ∀ b, (colr b).1 = 3 → W.heap.size ≤ b ∧ ¬ Wr wr b
 rv : ∀ b, v.ownBlock = some b → W.heap.size ≤ b ∧ ¬ Wr wr b ∧ (colr b).1 ≠ 3
theorem OrS.old {W : World} {C n : Nat} {J : List Nat → World → Prop} {Wr : World → Nat → Prop} {pre S : List Nat} {Y : Ix} {colr : Col} {xr : IdxS} {v : Value} {wr wr' : World} (h : OrS W C n J Wr pre S Y colr xr v wr) (hJ : OwnFrom W.heap.size J) (hW : WrOk W.heap.size Wr J) (U : Old wr wr') : OrS W C n J Wr pre S Y colr xr v wr' := by
 have sz := U.size
 exact ⟨own_by_old hJ h.j U, h.idx.other U (fun _ x => x.elim) (Kept.refl _ _), h.es, U.own h.row (fun _ _ x => x), fun b hb => h.new b (by omega), fun b hb => ⟨(h.r3 b hb).1, fun hw => (h.r3 b hb).2 (hW.by_old h.j U hw)⟩, fun b hb => ⟨(h.rv b hb).1, fun hw => (h.rv b hb).2.1 (hW.by_old h.j U hw), (h.rv b hb).2.2⟩⟩
theorem OrS.yielded {w0 W : World} {PX PT X B C n i : Nat} {J : List Nat → World → Prop} {Wr : World → Nat → Prop} {pre S : List Nat} {Y : Ix} {colr : Col} {xr : IdxS} {v : Value} {wr wr' : World} (h : OrS W C n J Wr pre S Y colr xr v wr) (hG : ∀ pre V, J pre V → OrG w0 PX PT X B V) (hk : KeepsW W.heap.size Wr wr wr') (hf : FreshW Wr wr wr') (hj : J (pre ++ [i]) wr') : OrS W C n J Wr (pre ++ [i]) S Y colr xr v wr' := by
 have o1 := (hG _ _ h.j).o
 have o2 := (hG _ _ hj).o
 have U : Upd (fun b => b < W.heap.size ∨ Wr wr b) wr wr' := ⟨hk.1, fun b hb hn => hk.2 b (Nat.le_of_not_lt fun h => hn (.inl h)) hb (fun h => hn (.inr h)), o2.tape.trans o1.tape.symm, o2.os.trans o1.os.symm, o2.out.trans o1.out.symm⟩
 have lr : ∀ b, (colr b).1 = 3 → b < wr.heap.size := fun b hb => Nat.lt_of_not_le fun hl => by have := h.new b hl; omega
 have nw : ∀ b, b < wr.heap.size → ¬ Wr wr b → ¬ Wr wr' b := fun b hb hn hw => by
  rcases hf b hw with h | h
  ·exact hn h
  ·omega
 refine ⟨hj, h.idx.other U (fun b hb e => ?_) (Kept.refl _ _), h.es, U.own h.row (fun b hb e => ?_), fun b hb => h.new b (Nat.le_trans hk.1 hb), fun b hb => ⟨(h.r3 b hb).1, nw b (lr b hb) (h.r3 b hb).2⟩, fun b hb => ⟨(h.rv b hb).1, nw b (own_lt' h.row hb) (h.rv b hb).2.1, (h.rv b hb).2.2⟩⟩
 ·obtain ⟨q1, q2⟩ := h.r3 b e
  rcases hb with hb | hb
  ·omega
  ·exact q2 hb
 ·obtain ⟨q1, q2, -⟩ := h.rv b hb
  rcases e with e | e
  ·omega
  ·exact q2 e
theorem OrS.dropped {W : World} {C n i : Nat} {J : List Nat → World → Prop} {Wr : World → Nat → Prop} {pre S S' : List Nat} {Y : Ix} {colr col' : Col} {xr x' : IdxS} {v v' : Value} {wr w1 w2 : World} (h : OrS W C n J Wr pre S Y colr xr v wr) (hW : WrOk W.heap.size Wr J) (hSt : StW W.heap.size Wr J)
 (U1 : Upd (fun b => (colr b).1 = 3) wr w1) (hi : IdxC w1 col' 3 C n (leftOf Y.1 (Y.2 i)) x') (hx : x'.es = dropE xr.es i) (hk : Kept wr colr col') (hn : ∀ b, w1.heap.size ≤ b → (col' b).1 = 0)
 (U2 : Upd (fun b => v.ownBlock = some b) w1 w2) (hr : w2.ownsRow 0 3 1 v' S'.length (intsV S')) (hv : ∀ b, v'.ownBlock = some b → v.ownBlock = some b) : OrS W C n J Wr pre S' (dropX Y i) col' x' v' w2 := by
 have U : Upd (fun b => W.heap.size ≤ b ∧ ¬ Wr wr b) wr w2 := (U1.mono (fun b _ hb => h.r3 b hb)).after U2 (fun b _ hb => by obtain ⟨q1, q2, -⟩ := h.rv b hb; exact ⟨q1, q2⟩)
 obtain ⟨hj, hw⟩ := hSt _ _ _ h.j U
 have lv : ∀ b, v.ownBlock = some b → b < wr.heap.size := fun b hb => own_lt' h.row hb
 have cv : ∀ b, v.ownBlock = some b → (col' b).1 ≠ 3 := fun b hb => by rw [hk b (lv b hb)]; exact (h.rv b hb).2.2
 refine ⟨hj, hi.other U2 (fun b hb => cv b hb) (Kept.refl _ _), by rw [hx, h.es]; rfl, hr, fun b hb => hn b (Nat.le_trans U2.size hb), fun b hb => ?_, fun b hb => ?_⟩
 ·rcases Nat.lt_or_ge b wr.heap.size with hl | hl
  ·rw [hk b hl] at hb
   exact ⟨(h.r3 b hb).1, fun h2 => (h.r3 b hb).2 (hw b h2)⟩
  ·obtain ⟨tX, fX⟩ := h.idx.fX
   have hC := (h.r3 C (by rw [h.idx.cX])).1
   have hCl := fX.lt
   refine ⟨by omega, fun h2 => ?_⟩
   obtain ⟨o, h3, -⟩ := hW.cells _ _ _ h.j (hw b h2)
   have := (Array.getElem?_eq_some_iff.1 h3).1
   omega
 ·have hb' := hv b hb
  obtain ⟨q1, q2, q3⟩ := h.rv b hb'
  exact ⟨q1, fun h2 => q2 (hw b h2), cv b hb'⟩
theorem noGoto_ret {Q : Exit → Act → World → Prop} {a : Act} {w : World} (h : Q .ret a w) : Exit.noGoto Q .ret a w := h
theorem erase_at : ∀ {S : List Nat} {k y : Nat}, S.Nodup → S[k]? = some y → S.erase y = S.take k ++ S.drop (k + 1)
 | [], k, y, _, h => by simp at h
 | a :: S, 0, y, hn, h => by
  simp at h
  subst h
  simp
 | a :: S, k + 1, y, hn, h => by
  have h2 : S[k]? = some y := by simpa using h
  obtain ⟨h3, h4⟩ := List.nodup_cons.1 hn
  have hne : a ≠ y := fun e => h3 (by rw [e]; exact List.mem_of_getElem? h2)
  rw [List.erase_cons_tail (by simpa using hne), erase_at h4 h2]
  simp
theorem find_at {p : Nat → Bool} : ∀ {S : List Nat} {k y : Nat}, S[k]? = some y → (∀ z ∈ S.take k, p z = false) → p y = true → S.find? p = some y
 | [], k, y, h, _, _ => by simp at h
 | a :: S, 0, y, h, _, hp => by
  simp at h
  subst h
  simp [hp]
 | a :: S, k + 1, y, h, hz, hp => by
  rw [List.find?_cons, hz a (by simp)]
  exact find_at (by simpa using h) (fun z hz2 => hz z (by simp [hz2])) hp
def OrR (W : World) (C n : Nat) (J : List Nat → World → Prop) (Wr : World → Nat → Prop) (full : List Nat) (v : Value) (wr : World) : Prop :=
 ∃ pre S f Y colr xr, OrS W C n J Wr pre S Y colr xr v wr ∧ full = pre ++ ordL f S Y ∧ S.Nodup ∧ S.length ≤ f ∧ (∀ i ∈ S, i < n ∧ Y.2 i ≠ []) ∧ pre.length + S.length ≤ n
def OrK (W : World) (C n : Nat) (J : List Nat → World → Prop) (Wr : World → Nat → Prop) (pre S : List Nat) (Y : Ix) (colr : Col) (xr : IdxS) (v i : Value) (wr : World) : Prop :=
 ∃ k : Nat, k ≤ S.length ∧ i = .int .i64 k ∧ (∀ y ∈ S.take k, redM Y.1 Y.2 y = false) ∧ OrS W C n J Wr pre S Y colr xr v wr
theorem stL_nodup (st : Nat → Nat) (k a : Nat) : (stL st k a).Nodup := List.nodup_range.filter _
theorem stL_mem {st : Nat → Nat} {k a i : Nat} : i ∈ stL st k a ↔ i < k ∧ st i = a := by
 unfold stL
 rw [List.mem_filter, List.mem_range]
 simp
theorem stL_len (st : Nat → Nat) (k a : Nat) : (stL st k a).length ≤ k := by
 have := List.length_filter_le (fun j => st j == a) (List.range k)
 rwa [List.length_range] at this
def sliceLen : Value → Nat
 | .slice _ n _ => n
 | _ => 0
set_option maxHeartbeats 1600000 in
theorem order_n (h : EIr w col PP D B X n r st M x) (hne : ∀ i, i < n → st i = 2 → x.es i ≠ []) {PX PT : Nat} {W0 : World} (O0 : Old w W0) :
 SeqN 158 #[.pointer (some ⟨PX, 0, none⟩), .pointer (some ⟨PT, 0, none⟩)] (fun _ V => OrG w PX PT X B V) (fun pre i => i < n ∧ pre.length < n) (ordL 10 (stL st n 2) (M, x.es)) W0 := by
 intro l J Jx Wr W hW hJ hJx hG hWr hSt hY h0
 have hg := hG _ _ h0
 have HJ := Lib.hid hJ
 have HJX := Lib.hid hJx
 have HG := Lib.hid hG
 have HWr := Lib.hid hWr
 have HST := Lib.hid hSt
 have HY := Lib.hid hY
 have H0 := Lib.hid h0
 have HH := Lib.hid h
 clear hJ hJx hWr hY h0 hG hSt
 have HC := Lib.hid (fun (V : World) (U : Old w V) => (h.old U).idx.copy 3)
 have HI := Lib.hid (fun (V : World) => table_in (w := V) (B := B))
 have HL := Lib.hid (fun (V : World) (U : Old w V) (PT PQ : Nat) h1 h2 => (h.old U).tab.collect (PT := PT) (PQ := PQ) h1 h2)
 have c1 := hg.px
 have c2 := hg.pt
 have HO := Lib.hid hg.o
 clear h hg
 refine callsIn_of_wp Tryz.func158 rfl trivial ?_ rfl
 simp only [Tryz.ntmps158, List.size_toArray, List.length_cons, List.length_nil, Nat.reduceAdd, Nat.reduceSub, Array.replicate_succ, Array.replicate_zero, List.push_toArray, List.append_toArray, List.nil_append, List.cons_append]
 refine wpIn_scope ?_
 gi_wp2_with (first | (refine ⟨trivial, ?_⟩; gi_at_call 28; refine (callsIn_wide.2 (HC.out _ HO.out)).mono ?_; rintro e w1 ⟨C, cc, x', rfl, hO, hxe, hix⟩; have H1 := Lib.hid (And.intro hO (And.intro hxe hix)); have HO1 := Lib.hid (Upd.trans HO.out hO); have c3 := Old.cellOf' hO c2; clear hO hxe hix HC) | (refine ⟨trivial, ?_⟩; gi_at_call 29; refine (callsIn_wide.2 (HI.out _)).mono ?_; rintro e w2 ⟨PT2, PQ2, rfl, hp1, hp2, hO⟩; have H2 := Lib.hid (And.intro hp1 (And.intro hp2 hO)); have HO2 := Lib.hid (Upd.trans HO1.out hO); clear hp1 hp2 hO HI) | (refine ⟨trivial, ?_⟩; gi_at_call 74; refine (callsIn_wide.2 (HL.out _ HO2.out _ _ H2.out.1 H2.out.2.1)).mono ?_; rintro e w3 ⟨v, rfl, hown, hO, hfr⟩; have H3 := Lib.hid (And.intro hown (And.intro hO hfr)); have HO3 := Lib.hid (Upd.trans HO2.out hO); clear hown hO hfr HL))
 refine wpIn_label ?_
 gi_wp2
 have hst5 := (HH.out.tab.few)
 have hnn : n ≤ 9 := HH.out.n9
 have hU3 : Old W w3 := Upd.trans H1.out.1 (Upd.trans H2.out.2.2 H3.out.2.1)
 have z1 := H1.out.1.size
 have z2 := H2.out.2.2.size
 have z3 := H3.out.2.1.size
 have nw : ∀ k, W.heap.size ≤ k → ¬ Wr w3 k := fun k hk hw => by
  obtain ⟨o, h1, -⟩ := HWr.out.cells _ _ _ H0.out (HWr.out.by_old H0.out hU3 hw)
  have := (Array.getElem?_eq_some_iff.1 h1).1
  omega
 have hS0 : OrS W C n J Wr [] (stL st n 2) (M, x.es) (fun b => if b < W.heap.size then (0, 0) else if b < w1.heap.size then cc b else (0, 0)) x' v w3 := by
  have hix := H1.out.2.2 (fun b => if b < W.heap.size then (0, 0) else if b < w1.heap.size then cc b else (0, 0)) (fun b h1 h2 => by show (if b < W.heap.size then ((0, 0) : Nat × Nat) else _) = _; rw [if_neg (by omega), if_pos h2])
  have c3 : ∀ b, ((fun b => if b < W.heap.size then (0, 0) else if b < w1.heap.size then cc b else (0, 0) : Col) b).1 = 3 → W.heap.size ≤ b ∧ b < w1.heap.size := fun b hb => by
   simp only at hb
   split at hb
   ·cases hb
   ·split at hb
    ·omega
    ·cases hb
  refine ⟨own_by_old HJ.out H0.out hU3, hix.other (Upd.trans H2.out.2.2 H3.out.2.1) (fun _ x => x.elim) (Kept.refl _ _), H1.out.2.1, H3.out.1, fun b hb => ?_, fun b hb => ⟨(c3 b hb).1, nw b (c3 b hb).1⟩, fun b hb => ?_⟩
  ·(try simp only)
   rw [if_neg (by omega), if_neg (by omega)]
  ·have := H3.out.2.2 b hb
   exact ⟨by omega, nw b (by omega), fun h => by have := c3 b h; omega⟩
 have HS0 := Lib.hid hS0
 clear hS0 nw hst5
 gi_loopw [5] (fun v' wr => OrR W C n J Wr (ordL 10 (stL st n 2) (M, x.es)) v' wr) (fun v' _ => sliceLen v')
 case atStart =>
  refine ⟨[], stL st n 2, 10, (M, x.es), _, _, HS0.out, rfl, stL_nodup _ _ _, by have := stL_len st n 2; omega, fun i hi => ?_, by have := stL_len st n 2; simpa using this⟩
  obtain ⟨q1, q2⟩ := stL_mem.1 hi
  exact ⟨q1, hne i q1 q2⟩
 case round =>
  obtain ⟨pre, S, f, Y, colr, xr, hS, hfull, hnd, hlf, hmem, hln⟩ := hrel
  obtain ⟨va, vc, rfl⟩ := own_slice hS.row
  have HF := Lib.hid (And.intro hfull (And.intro hnd (And.intro hlf (And.intro hmem hln))))
  have HSS := Lib.hid hS
  have hSl : S.length ≤ 9 := by omega
  clear hS hfull hnd hlf hmem hln HS0 H1 H2 H3 HO1 HO2 HO3 hne
  gi_wp2
  gi_loopw [5, 17] (fun v5 i wr' => v5 = .slice va S.length vc ∧ OrK W C n J Wr pre S Y colr xr (.slice va S.length vc) i wr') (fun _ i _ => S.length - (intOf i).toNat)
  case atStart => exact ⟨rfl, 0, Nat.zero_le _, rfl, fun y hy => by simp at hy, HSS.out⟩
  case round =>
   obtain ⟨rfl, k, hk, rfl, hno, hS⟩ := hrel
   by_cases hkl : k < S.length
   ·obtain ⟨y, hy⟩ : ∃ y, S[k]? = some y := ⟨S[k], List.getElem?_eq_getElem hkl⟩
    obtain ⟨g, vc2, hv⟩ := own_block hS.row (by omega)
    injection hv with hv1 hv2 hv3
    subst hv1 hv3
    obtain ⟨hfull, hnd, hlf, hmem, hln⟩ := HF.out
    have hyS : y ∈ S := List.mem_of_getElem? hy
    obtain ⟨hyn, hyne⟩ := hmem y hyS
    have ck : wr.cell? ⟨g, k, none⟩ = some (.int .i64 ((y : Nat) : Int)) := by
     have := hS.row.cells (g := g) rfl k (.int .i64 ((y : Nat) : Int)) (by unfold intsV; rw [List.getElem?_map, hy]; rfl)
     rwa [show (⟨g, 0, none⟩ : Addr).add k = ⟨g, k, none⟩ from by unfold Addr.add; split <;> simp_all] at this
    have hR := hS.idx.red hyn
    rw [hS.es] at hR
    have HR := Lib.hid hR
    have HS1 := Lib.hid hS
    have HNO := Lib.hid hno
    have HYY := Lib.hid (And.intro hy (And.intro hyS (And.intro hyn hyne)))
    clear hR hS hno hy hyS hyne hfull hnd hlf hmem
    cases hb : redM Y.1 Y.2 y with
    | false =>
     rw [hb] at HR
     have HB := Lib.hid hb
     clear hb
     gi_wp2_with (first | (refine ⟨trivial, ?_⟩; gi_at_call 30; refine (callsIn_wide.2 HR.out).mono ?_; rintro e w4 ⟨rfl, hO⟩; have HO4 := Lib.hid hO; clear hO))
     go_roundw
     case rel =>
      refine ⟨rfl, k + 1, by omega, by go_num, fun z hz => ?_, HS1.out.old HJ.out HWr.out HO4.out⟩
      rw [List.take_add_one, HYY.out.1] at hz
      rcases List.mem_append.1 hz with hz | hz
      ·exact HNO.out z hz
      ·simp at hz; rw [hz]; exact HB.out
     case measure => simp [intOf]; omega
    | true =>
     rw [hb] at HR
     have HB := Lib.hid hb
     clear hb
     gi_wp2_with (first | (refine ⟨trivial, ?_⟩; gi_at_call 30; refine (callsIn_wide.2 HR.out).mono ?_; rintro e w4 ⟨rfl, hO⟩; have HS4 := Lib.hid (HS1.out.old HJ.out HWr.out hO); clear hO; obtain ⟨fn, tmps, assign, body, hy, hRR⟩ := HY.out pre y w4 HS4.out.j ⟨hyn, by omega⟩))
     refine hRR.mono ?_
     rintro e V' ⟨hkk, ⟨rfl, hJ2, hf⟩ | ⟨rfl, hJx2⟩⟩
     ·have hS5 := HS4.out.yielded HG.out hkk hf hJ2
      have HS5 := Lib.hid hS5
      have hRow := hS5.row
      obtain ⟨hfull, hnd, hlf, hmem, hln⟩ := HF.out
      obtain ⟨m, hm⟩ : ∃ m, S.length = m + 1 := ⟨S.length - 1, by omega⟩
      rw [hm] at hRow
      have HD := Lib.hid (fun (V : World) (c' : Col) (x2 : IdxS) (M2 : ByteArray → List Ent) (h : IdxC V c' 3 C n M2 x2) (h1 : x2.es y ≠ []) (h2 : ∀ b, V.heap.size ≤ b → (c' b).1 = 0) => h.drop HYY.out.2.2.1 h1 h2 (by decide))
      clear hS5 hfull hnd hlf hmem hkk hf hJ2 hRow
      gi_wp2_with (first | (refine ⟨trivial, ?_⟩; gi_at_call 31; refine (callsIn_wide.2 (HD.out _ _ _ _ HS5.out.idx (by rw [HS5.out.es]; exact HYY.out.2.2.2) HS5.out.new)).mono ?_; rintro e w6 ⟨⟨kk, rfl⟩, hU6, col6, x6, hi6, hx6, hk6, hn6, -⟩; have hrow6 := (show w6.ownsRow 0 3 1 (.slice (some ⟨g, 0, none⟩) (m + 1) vc) (m + 1) (intsV S) from by rw [← hm]; exact Upd.own hU6 HS5.out.row (fun b hb => (HS5.out.rv b hb).2.2)); have H6 := Lib.hid (And.intro hU6 (And.intro hi6 (And.intro hx6 (And.intro hk6 (And.intro hn6 hrow6))))); clear hU6 hi6 hx6 hk6 hn6 hrow6) | (refine ⟨trivial, ?_⟩; gi_at_call 159; refine (callsIn_wide.2 (del_int H6.out.2.2.2.2.2 (fun u hu => by obtain ⟨z, -, rfl⟩ := List.mem_map.1 hu; rfl) (by omega) (by omega))).mono ?_; rintro e w7 ⟨rfl, hr7, hU7⟩; have H7 := Lib.hid (And.intro hr7 hU7); clear hr7 hU7))
      go_roundw
      case rel =>
       obtain ⟨hfull, hnd, hlf, hmem, hln⟩ := HF.out
       obtain ⟨hy1, hy2, hy3, hy4⟩ := HYY.out
       obtain ⟨q1, q2, q3, q4, q5, q6⟩ := H6.out
       have he := erase_at hnd hy1
       have hel : (S.erase y).length = m := by rw [List.length_erase_of_mem hy2]; omega
       have hei : (intsV S).take k ++ (intsV S).drop (k + 1) = intsV (S.erase y) := by
        rw [he]
        unfold intsV
        rw [List.map_append, List.map_take, List.map_drop]
       obtain ⟨f2, rfl⟩ : ∃ f2, f = f2 + 1 := ⟨f - 1, by omega⟩
       refine ⟨pre ++ [y], S.erase y, f2, dropX Y y, col6, x6, HS5.out.dropped (i := y) HWr.out HST.out q1 (by rw [HS5.out.es] at q2; exact q2) q3.1 q4 q5 (H7.out.2.mono (fun b _ hb => by rw [hb]; rfl)) (by rw [hel, ← hei]; exact H7.out.1) (fun b hb => hb), ?_, hnd.erase y, by omega, fun i hi => ?_, by rw [List.length_append, hel]; simp; omega⟩
       ·rw [hfull, List.append_assoc]
        congr 1
        have hfind : S.find? (fun s => redM Y.1 Y.2 s) = some y := find_at hy1 HNO.out HB.out
        conv => lhs; unfold ordL
        rw [hfind]
        rfl
       ·obtain ⟨h1, h2⟩ := hnd.mem_erase_iff.1 hi
        obtain ⟨h3, h4⟩ := hmem i h2
        exact ⟨h3, by show dropE Y.2 y i ≠ []; unfold dropE; rw [if_neg h1]; exact h4⟩
      case measure => simp [sliceLen]; omega
     ·gi_wp2
      refine noGoto_ret ?_
      refine bodyPost_ret (results_none rfl _ _ _) rfl ?_
      exact ⟨⟨_, rfl⟩, .inr ⟨_, hJx2⟩⟩
   ·obtain rfl : k = S.length := by omega
    have hend : ordL f S Y = [] := by
     cases f with
     | zero => rfl
     | succ f =>
      unfold ordL
      rw [List.find?_eq_none.2 (fun z hz => by rw [hno z (by rw [List.take_length]; exact hz)]; decide)]
    have HE := Lib.hid (show pre = ordL 10 (stL st n 2) (M, x.es) by rw [HF.out.1, hend, List.append_nil])
    have HS1 := Lib.hid hS
    clear hend hS hno
    gi_wp2
    refine noGoto_ret ?_
    refine bodyPost_ret (results_none rfl _ _ _) rfl ?_
    exact ⟨⟨_, rfl⟩, .inl ⟨_, HE.out, HS1.out.j⟩⟩
end Go.M
namespace Go.M
open Go.Proofs Go.RowKit
set_option linter.unusedSimpArgs false
variable {w : World} {col : Col} {PP D B X n r : Nat} {s : DevS} {st : Nat → Nat} {M : ByteArray → List Ent} {x : IdxS}
theorem EIr.pcheck (h : EIr w col PP D B X n r st M x) :
 Calls Tryz.prog 73 #[.pointer (some ⟨B, 0, none⟩), .pointer (some ⟨X, 0, none⟩)] w fun e w' => e = .returned (.int .i64 0) ∧ Old w w' := by
 have HT := Lib.hid (h.tab.copy 2)
 have HX := Lib.hid (fun (W : World) (U : Old w W) => (h.old U).idx.copy 3)
 have h9 := h.n9
 have HS := Lib.hid (fun (W : World) (U : Old w W) => t_sizes ((h.old U).tab.tsl) (by omega))
 have HL := Lib.hid (fun (W : World) (U : Old w W) => x_slots ((h.old U).idx.xsl) (by omega))
 clear h
 go_enter Tryz.func73, Tryz.ntmps73
 go_wp2_with (first | (go_at_call 44; refine HT.out.mono ?_; rintro e w1 ⟨C, c, rfl, hU, -⟩; have H1 := Lib.hid hU; clear hU) | (go_at_call 28; refine (HX.out _ H1.out).mono ?_; rintro e w2 ⟨C2, c2, x2, rfl, hU, -⟩; have H2 := Lib.hid (Upd.trans H1.out hU); clear hU) | (go_at_call 156; refine (HS.out _ H2.out).mono ?_; rintro e w3 ⟨r3, rfl, hU⟩; have H3 := Lib.hid (Upd.trans H2.out hU); clear hU) | (go_at_call 77; refine (HL.out _ H3.out).mono ?_; rintro e w4 ⟨rfl, rfl⟩))
 go_ret
 exact ⟨rfl, H3.out⟩
def ordO (n : Nat) (st : Nat → Nat) (M : ByteArray → List Ent) (x : IdxS) : List Nat := ordL 10 (stL st n 2) (M, x.es)
theorem ordO_len (n : Nat) (st : Nat → Nat) (M : ByteArray → List Ent) (x : IdxS) : (ordO n st M x).Nodup ∧ ∀ i ∈ ordO n st M x, i < n ∧ st i = 2 :=
 ⟨ordL_nodup _ _ _ (stL_nodup _ _ _), fun i hi => stL_mem.1 (ordL_sub _ _ _ i hi)⟩
def OrdPost (w : World) (L : List Nat) (e : Ending) (w' : World) : Prop := ∃ v, e = .returned (.tuple #[v, .int .i64 0]) ∧ w'.ownsRow 0 3 1 v L.length (intsV L) ∧ Old w w' ∧ ∀ b, v.ownBlock = some b → w.heap.size ≤ b
theorem EIr.porder (h : EIr w col PP D B X n r st M x) (hne : ∀ i, i < n → st i = 2 → x.es i ≠ []) :
 Calls Tryz.prog 24 #[.pointer (some ⟨B, 0, none⟩), .pointer (some ⟨X, 0, none⟩)] w (OrdPost w (ordO n st M x)) := by
 have HC := Lib.hid h.pcheck
 have h9 := h.n9
 have HL : Hid (∀ (W : World) (PX PT : Nat), Old w W → W.cell? ⟨PX, 0, none⟩ = some (.pointer (some ⟨X, 0, none⟩)) → W.cell? ⟨PT, 0, none⟩ = some (.pointer (some ⟨B, 0, none⟩)) → Calls Tryz.prog 74 #[.func (.func 158) #[] #[.pointer (some ⟨PX, 0, none⟩), .pointer (some ⟨PT, 0, none⟩)]] W (NewRow W 3 1 (ordO n st M x).length (intsV (ordO n st M x)))) :=
  Lib.hid (fun W PX PT U h1 h2 => collect (enters_of Tryz.func158 (by kernel_rfl) rfl) (fun W' U' => order_n h hne (Upd.trans U U')) (fun pre V U' => ⟨Old.cellOf' U' h1, Old.cellOf' U' h2, Upd.trans U U'⟩) (fun pre i hi => by have := hi.2; omega))
 clear h hne
 go_enter Tryz.func24, Tryz.ntmps24
 go_wp2_with (first | (go_at_call 73; refine HC.out.mono ?_; rintro e w1 ⟨rfl, hU⟩; have H1 := Lib.hid hU; clear hU) | (go_at_call 74; refine (HL.out _ _ _ ?_ ?_ ?_).mono ?_; (exact ((H1.out.alloc _).alloc _)); (go_simp); (go_simp); rintro e w2 ⟨v, rfl, h2, h3, h4⟩; have H2 := Lib.hid (And.intro h2 (And.intro (Upd.trans ((H1.out.alloc _).alloc _) h3) h4)); clear h2 h3 h4) | go_in)
 go_ret2
 exact ⟨_, rfl, H2.out.1, H2.out.2.1, fun b hb => by have := H2.out.2.2 b hb; have := H1.out.size; simp at *; omega⟩
theorem EIn.porder (h : EIn w col PP D B X n s r st M x) (hne : ∀ i, i < n → st i = 2 → x.es i ≠ []) :
 Calls Tryz.prog 24 #[.pointer (some ⟨B, 0, none⟩), .pointer (some ⟨X, 0, none⟩)] w (OrdPost w (ordO n st M x)) := h.rest.porder hne
theorem ordL_at : ∀ f S (Y : Ix) k y, (ordL f S Y)[k]? = some y → redM (((ordL f S Y).take k).foldl dropX Y).1 (((ordL f S Y).take k).foldl dropX Y).2 y = true
 | 0, S, Y, k, y, h => by simp [ordL] at h
 | f + 1, S, Y, k, y, h => by
  unfold ordL at h ⊢
  split at h
  ·simp at h
  ·next t ht =>
   cases k with
   | zero =>
    simp at h
    subst h
    simpa using List.find?_some ht
   | succ k =>
    rw [List.take_succ_cons, List.foldl_cons]
    exact ordL_at f (S.erase t) (dropX Y t) k y (by simpa using h)
structure RuS (w : World) (col : Col) (PP D B X n r : Nat) (s : DevS) (st : Nat → Nat) (M : ByteArray → List Ent) (x : IdxS) (o : Int) (L : List Nat) (w' : World) : Prop where
 e : ∃ col' s' st' M' x', EIn w' col' PP D B X n s' r st' M' x' ∧ (M', x'.es) = L.foldl dropX (M, x.es) ∧ (∀ i, st' i = if i ∈ L then 0 else st i) ∧ (∀ i, i < n → (s'.img i).bs = if i ∈ L then [] else (s.img i).bs) ∧ EOk n s' st' x' (o + 10 * (L.length : Int)) ∧ Kept w col col' ∧ (L = [] → s' = s) ∧ s'.ops = s.ops + ((if L = [] then 0 else cntU s n + L.length : Nat) : Int) ∧ (L ≠ [] → cntU s' n = 0)
 u : Upd (EF col) w w'
theorem RuS.next {w w1 : World} {L : List Nat} {y : Nat} {o : Int} (h : RuS w col PP D B X n r s st M x o L w1) (hn : ∀ b, w.heap.size ≤ b → (col b).1 = 0) (ho : o + 10 * (L.length : Int) ≤ 800) (hy : y < n) (h2 : st y = 2) (hL : y ∉ L) (hr : redM (L.foldl dropX (M, x.es)).1 (L.foldl dropX (M, x.es)).2 y = true) :
 Calls Tryz.prog 14 #[.pointer (some ⟨D, 0, none⟩), .pointer (some ⟨B, 0, none⟩), .pointer (some ⟨X, 0, none⟩), .int .i64 ((y : Nat) : Int)] w1 fun e w' => e = .returned (.int .i64 0) ∧ RuS w col PP D B X n r s st M x o (L ++ [y]) w' := by
 obtain ⟨⟨col', s', st', M', x', hE, hX, hst, him, ok, hk, h0, hop, hcu0⟩, hu⟩ := h
 have hX1 : M' = (L.foldl dropX (M, x.es)).1 := congrArg Prod.fst hX
 have hX2 : x'.es = (L.foldl dropX (M, x.es)).2 := congrArg Prod.snd hX
 refine (hE.erase hy (by rw [hX1, hX2]; exact hr) (by rw [hst, if_neg hL]; exact h2) ⟨ok.ne, ok.du, ok.o0, by have := ok.o1; omega⟩).mono ?_
 rintro e w' ⟨rfl, U, col2, s2, x2, hE2, hD, ⟨hx, -⟩, hk2⟩
 refine ⟨rfl, ⟨col2, s2, _, _, x2, hE2, ?_, fun i => ?_, fun i hi => ?_, ⟨fun i hi hs2 => ?_, fun i hi _ => ?_, ?_, ?_⟩, fun b hb => by rw [hk2 b (Nat.lt_of_lt_of_le hb hu.size), hk b hb], fun h => by simp at h, ?_, fun _ => ?_⟩, ?_⟩
 ·rw [List.foldl_append]
  show _ = dropX (L.foldl dropX (M, x.es)) y
  rw [← hX]
  show (leftOf M' (x'.es y), x2.es) = (leftOf M' (x'.es y), dropE x'.es y)
  rw [hx]
 ·unfold setSt
  by_cases e : i = y
  ·subst e; simp
  ·rw [if_neg e, hst i]
   simp [e]
 ·rw [hD.img i hi, him i hi]
  by_cases e : i = y
  ·subst e; simp
  ·simp [e]
 ·unfold setSt at hs2
  by_cases e : i = y
  ·rw [if_pos e] at hs2; cases hs2
  ·rw [if_neg e] at hs2
   rw [hx]
   unfold dropE
   rw [if_neg e]
   exact ok.ne i hi hs2
 ·unfold unsOf
  rw [hD.dur i hi]
  simp
 ·rw [hD.ops]
  have := ok.o0
  omega
 ·rw [hD.ops]
  have := ok.o1
  have := cntU_le s' n
  have := hE.n9
  simp
  omega
 ·rw [hD.ops, hop]
  have e2 : (if L ++ [y] = [] then 0 else cntU s n + (L ++ [y]).length : Nat) = cntU s n + L.length + 1 := by
   rw [if_neg (by simp), List.length_append]
   rfl
  rw [e2]
  by_cases e : L = []
  ·rw [if_pos e, h0 e, e]
   simp
   omega
  ·rw [if_neg e, hcu0 e]
   simp
   omega
 ·unfold cntU
  rw [List.length_eq_zero_iff, List.filter_eq_nil_iff]
  intro i hi
  have := hD.dur i (List.mem_range.1 hi)
  simp [unsOf, this]
 ·refine hu.after U (fun b hb hf => ?_)
  unfold EF at hf ⊢
  rwa [hk b hb] at hf
theorem RuS.base {w w0 w' : World} {o : Int} {L : List Nat} (h : RuS w0 col PP D B X n r s st M x o L w') (U : Old w w0) : RuS w col PP D B X n r s st M x o L w' := by
 obtain ⟨⟨col', s', st', M', x', hE, hX, hst, him, ok, hk, h0⟩, hu⟩ := h
 exact ⟨⟨col', s', st', M', x', hE, hX, hst, him, ok, fun b hb => hk b (Nat.lt_of_lt_of_le hb U.size), h0⟩, (U.mono (fun _ _ h => h.elim)).trans hu⟩
def RuK (w : World) (col : Col) (PP D B X n r : Nat) (s : DevS) (st : Nat → Nat) (M : ByteArray → List Ent) (x : IdxS) (o : Int) (L : List Nat) (i : Value) (w' : World) : Prop := ∃ k : Nat, k ≤ L.length ∧ i = .int .i64 k ∧ RuS w col PP D B X n r s st M x o (L.take k) w'
set_option maxHeartbeats 1000000 in
theorem EIn.prun (h : EIn w col PP D B X n s r st M x) {o : Int} (ok : EOk n s st x o) (ho : o + 10 * ((ordO n st M x).length : Int) ≤ 800) :
 Calls Tryz.prog 25 #[.pointer (some ⟨D, 0, none⟩), .pointer (some ⟨B, 0, none⟩), .pointer (some ⟨X, 0, none⟩)] w fun e w' => e = .returned (.tuple #[.int .i64 (((ordO n st M x).length : Nat) : Int), .int .i64 0]) ∧ RuS w col PP D B X n r s st M x o (ordO n st M x) w' := by
 have h9 := h.n9
 have hnew := h.new
 obtain ⟨hnd, hmem⟩ := ordO_len n st M x
 have hLn : (ordO n st M x).length ≤ 9 := by
  have := List.Nodup.length_le_of_subset hnd (fun i hi => List.mem_range.2 (hmem i hi).1)
  rw [List.length_range] at this
  omega
 have HAT : Hid (∀ k y, (ordO n st M x)[k]? = some y → redM (((ordO n st M x).take k).foldl dropX (M, x.es)).1 (((ordO n st M x).take k).foldl dropX (M, x.es)).2 y = true) := Lib.hid (fun k y h => ordL_at 10 (stL st n 2) (M, x.es) k y h)
 have HDC := Lib.hid h.dcopy
 have HO := Lib.hid (fun (W : World) (U : Old w W) => (h.old U).porder ok.ne)
 have HDS := Lib.hid (fun (W : World) (U : Old w W) => d_slots ((h.old U).dsl) (by omega))
 have HXS := Lib.hid (fun (W : World) (U : Old w W) => x_slots ((h.old U).idx.xsl) (by omega))
 have HDD := Lib.hid (fun (W : World) (U : Old w W) => d_down ((h.old U).dsl) (by omega) (by have := h.n4; omega))
 have HR0 : Hid (∀ W, Old w W → RuS W col PP D B X n r s st M x o [] W) := Lib.hid (fun W U => ⟨⟨col, s, st, M, x, h.old U, rfl, fun i => by simp, fun i hi => by simp, ⟨ok.ne, ok.du, ok.o0, by have := ok.o1; simp; omega⟩, Kept.refl _ _, fun _ => rfl, by simp, fun h => absurd rfl h⟩, Upd.refl _ _⟩)
 have HMEM := Lib.hid (And.intro hnd hmem)
 clear h ok hnd hmem
 generalize ordO n st M x = L at *
 go_enter Tryz.func25, Tryz.ntmps25
 go_wp2_with (first | (go_at_call 43; refine HDC.out.mono ?_; rintro e w1 ⟨C, c, rfl, hU, -⟩; have H1 := Lib.hid hU; clear hU) | (go_at_call 24; refine (HO.out _ H1.out).mono ?_; rintro e w2 ⟨v, rfl, h2, h3, h4⟩; have H2 := Lib.hid (And.intro h2 (And.intro (Upd.trans H1.out h3) h4)); have hs1 := H1.out.size; obtain ⟨va, vc, rfl⟩ := own_slice h2; clear h2 h3 h4) | (go_at_call 76; refine (HDS.out _ H2.out.2.1).mono ?_; rintro e w4 ⟨rfl, rfl⟩) | (go_at_call 77; refine (HXS.out _ H2.out.2.1).mono ?_; rintro e w4 ⟨rfl, rfl⟩) | (go_at_call 16; refine (HDD.out _ H2.out.2.1).mono ?_; rintro e w5 ⟨rfl, hU⟩; have H5 := Lib.hid hU; clear hU))
 go_loopw [37] (fun i wr => RuK w5 col PP D B X n r s st M x o L i wr) (fun i _ => L.length - (intOf i).toNat)
 case atStart => exact ⟨0, Nat.zero_le _, rfl, HR0.out _ (Upd.trans H2.out.2.1 H5.out)⟩
 case round =>
  obtain ⟨k, hk, rfl, hS⟩ := hrel
  by_cases hkl : k < L.length
  ·obtain ⟨y, hy⟩ : ∃ y, L[k]? = some y := ⟨L[k], List.getElem?_eq_getElem hkl⟩
   obtain ⟨hnd, hmem⟩ := HMEM.out
   obtain ⟨hyn, hy2⟩ := hmem y (List.mem_of_getElem? hy)
   obtain ⟨g, vc2, hv⟩ := own_block H2.out.1 (by omega)
   injection hv with hv1 hv2 hv3
   subst hv1 hv3
   have hg := H2.out.2.2 g rfl
   have ck : wr.cell? ⟨g, k, none⟩ = some (.int .i64 ((y : Nat) : Int)) := by
    have := (H2.out.1).cells (g := g) rfl k (.int .i64 ((y : Nat) : Int)) (by unfold intsV; rw [List.getElem?_map, hy]; rfl)
    rw [show (⟨g, 0, none⟩ : Addr).add k = ⟨g, k, none⟩ from by unfold Addr.add; split <;> simp_all] at this
    exact hS.u.cellOf (Old.cellOf' H5.out this) (fun e => by have := hnew g (by omega); unfold EF at e; omega)
   have hsz : w.heap.size ≤ w5.heap.size := (Upd.trans H2.out.2.1 H5.out).size
   have hnx := hS.next (y := y) (fun b hb => hnew b (by omega)) (by rw [List.length_take]; omega) hyn hy2 (fun hm => ?hnot) (HAT.out k y hy)
   case hnot =>
    obtain ⟨j, hj, hjy⟩ := List.getElem_of_mem hm
    rw [List.getElem_take] at hjy
    rw [List.length_take] at hj
    have hk2 : L[k]'hkl = y := by have := List.getElem?_eq_getElem hkl; rw [hy] at this; injection this with this; exact this.symm
    have := (List.getElem_inj hnd).1 (hjy.trans hk2.symm)
    omega
   have HN := Lib.hid hnx
   have HY := Lib.hid hy
   clear hnx hS hnd hmem hy
   go_wp2_with (first | (go_at_call 14; refine HN.out.mono ?_; rintro e w6 ⟨rfl, hS6⟩; have HS6 := Lib.hid hS6; clear hS6))
   go_roundw
   case rel => exact ⟨k + 1, by omega, by go_num, by rw [List.take_add_one, HY.out]; exact HS6.out⟩
   case measure => simp [intOf]; omega
  ·obtain rfl : k = L.length := by omega
   rw [List.take_length] at hS
   have HS := Lib.hid hS
   clear hS
   go_wp2
   go_ret2
   exact ⟨rfl, HS.out.base (Upd.trans H2.out.2.1 H5.out)⟩
end Go.M
