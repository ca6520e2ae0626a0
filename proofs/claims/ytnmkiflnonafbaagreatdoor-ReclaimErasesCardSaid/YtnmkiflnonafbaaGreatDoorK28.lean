/- Walks 28. -/
import Derived.Test.YtnmkiflnonafbaaGreatDoorProg
import Derived.Test.YtnmkiflnonafbaaGreatDoorK26
import Derived.Test.YtnmkiflnonafbaaGreatDoorK27
import Derived.Test.YtnmkiflnonafbaaGreatDoorK24
import Derived.Test.YtnmkiflnonafbaaGreatDoorK25
set_option linter.unusedVariables false
set_option linter.unusedSimpArgs false
set_option maxRecDepth 100000
namespace Go.M
open Go.Proofs Go.RowKit Go.Shelf
set_option linter.unusedSimpArgs false
attribute [local go_sem] Oper.semAt_some
def Zb3 (key : Nat → ByteArray) (kz : Nat → List Ent) (k : Nat) : List (ByteArray × Ent) := (List.range k).filterMap fun i => (Za5 (kz i)).map fun e => (key i, e)
theorem ZfJ (key : Nat → ByteArray) (kz : Nat → List Ent) (k : Nat) : Zb3 key kz (k + 1) = Zb3 key kz k ++ (match Za5 (kz k) with | none => [] | some e => [(key k, e)]) := by
 unfold Zb3;rw [List.range_succ, List.filterMap_append]
 congr 1
 cases h : Za5 (kz k) <;> simp [h]
structure LvG (PX X O S m c n : Nat) (mv : Value) (key : Nat → ByteArray) (val : Nat → Value) (kz : Nat → List Ent) (B : Nat → Prop) (M : ByteArray → List Ent) (V : World) : Prop where
 px : V.cell? ⟨PX, 0, none⟩ = some (.pointer (some ⟨X, 0, none⟩))
 x0 : V.cell? ⟨X, 0, none⟩ = some (.pointer (some ⟨O, 0, none⟩))
 x1 : V.cell? ⟨X, 1, none⟩ = some (.slice (some ⟨S, 0, none⟩) m c)
 kv : KvIn V O mv n key val kz B M
set_option maxHeartbeats 800000 in
theorem ZqO {w : World} {PX X O S m c n : Nat} {mv : Value} {key : Nat → ByteArray} {val : Nat → Value} {kz : Nat → List Ent} {B : Nat → Prop} {M : ByteArray → List Ent} (d : Nat) (hd : 1 ≤ d) (hm : 0 < m) (hfew : n ≤ 500) (hv1 : ∀ i, i < n → ∃ a c d, val i = .slice a c d) :
 ZqM Fence.wide d Tryz.prog 103 #[.pointer (some ⟨PX, 0, none⟩)] (fun x : ByteArray × Ent => #[.string x.1, x.2.val]) (fun _ V => LvG PX X O S m c n mv key val kz B M V)
  (fun pre x => ∃ i, i < n ∧ key i = x.1 ∧ Za5 (kz i) = some x.2 ∧ pre = Zb3 key kz i) (fun xs => xs = Zb3 key kz n) w := by
 intro l J Jx Wr W hW hJ hJx hG hWr hY h0;obtain ⟨hPX, hX0, hX1, hM⟩ := hG _ _ h0;have l1 := World.block_lt_of_cell? W _ hPX;have l2 := World.block_lt_of_cell? W _ hX0;simp only at l1 l2;have HJ := Lib.hid hJ;have HJX := Lib.hid hJx;have HG := Lib.hid hG;have HWr := Lib.hid hWr;have HY := Lib.hid hY;have H0 := Lib.hid h0;clear hJ hJx hG hWr hY h0 hM;refine callsIn_of_wp_marks Tryz.func103 rfl trivial ?_ rfl;simp only [Tryz.ntmps103, List.size_toArray, List.length_cons, List.length_nil, Nat.reduceAdd, Nat.reduceSub, Array.replicate_succ, Array.replicate_zero, List.push_toArray, List.append_toArray, List.nil_append, List.cons_append];refine wpIn_wide.2 ?_
 go_wp2_with (first | go_in)
 generalize hW0 : World.alloc (World.alloc W _) _ = W0;have U0 : Old W W0 := by subst hW0; exact ((Upd.refl _ W).alloc _).alloc _
 have b1 : W0.cell? ⟨W.heap.size, 0, none⟩ = some (.func (.yield l) #[] #[]) := by subst hW0; go_simp
 have b2 : W0.cell? ⟨W.heap.size + 1, 0, none⟩ = some (.pointer (some ⟨X, 0, none⟩)) := by subst hW0; go_simp
 clear hW0;have hz := U0.size;have nw : ∀ k, W.heap.size ≤ k → ¬ Wr W0 k := fun k hk hw => by
  obtain ⟨o, h1, -⟩ := HWr.out.cells _ _ _ H0.out (HWr.out.by_old H0.out U0 hw);have := (Array.getElem?_eq_some_iff.1 h1).1;omega
 refine (wpIn_wide (n := 8)).1 ?_;refine Zmd rfl (by omega) (gf := 161) (lb := #[.pointer (some ⟨W.heap.size + 1, 0, none⟩)]) rfl trivial (enters_of Tryz.func161 (by kernel_rfl) rfl) (encs := fun i : Nat => #[.string (key i)]) (fun _ => rfl)
  (ZqN (PX := W.heap.size + 1) (X := X) (O := O) (S := S) (m := m) (c := c) (mv := mv) 7 (by omega) hm (by omega) hv1)
  (fun pre V => (∃ k, pre = List.range k ∧ J (Zb3 key kz k) V) ∧ V.cell? ⟨W.heap.size, 0, none⟩ = some (.func (.yield l) #[] #[]) ∧ V.cell? ⟨W.heap.size + 1, 0, none⟩ = some (.pointer (some ⟨X, 0, none⟩)) ∧ ¬ Wr V W.heap.size ∧ ¬ Wr V (W.heap.size + 1))
  (fun c V => c = .ret ∧ ∃ pre, Jx pre V) Wr ⟨fun s V k h hw => by obtain ⟨⟨q, -, h⟩, -⟩ := h; exact HWr.out.cells _ _ _ h hw, fun s A B' row h hg hr k hw => by obtain ⟨⟨q, -, h⟩, -⟩ := h; exact HWr.out.step _ _ _ _ h hg (fun r e => ⟨by have := (hr r e).1; omega, (hr r e).2⟩) _ hw⟩
  (fun pre A B' row hs hg hr => by
    obtain ⟨⟨k, hp, h⟩, c1, c2, n1, n2⟩ := hs;have hr' : ∀ r, row = some r → W.heap.size ≤ r ∧ ∃ o : Obj, A.heap[r]? = some o ∧ o.isCells = false := fun r e => ⟨by have := (hr r e).1; omega, (hr r e).2⟩
    exact ⟨⟨k, hp, HJ.out _ _ _ _ h hg hr'⟩, cell_kept c1 hg (fun r e => (hr r e).2), cell_kept c2 hg (fun r e => (hr r e).2), fun x => n1 (HWr.out.step _ _ _ _ h hg hr' _ x), fun x => n2 (HWr.out.step _ _ _ _ h hg hr' _ x)⟩)
  (fun c _ A B' row hs hg hr => ⟨hs.1, by obtain ⟨pre, h⟩ := hs.2; exact ⟨pre, HJX.out _ _ _ _ h hg (fun r e => ⟨by have := (hr r e).1; omega, (hr r e).2⟩)⟩⟩)
  ⟨⟨0, rfl, ZcE HJ.out H0.out U0⟩, b1, b2, nw _ (Nat.le_refl _), nw _ (by omega)⟩ (fun pre V h => by obtain ⟨⟨k, -, hj⟩, -, h2, -⟩ := h; have g := HG.out _ _ hj; exact ⟨h2, g.x0, g.x1, g.kv.om⟩)
  (fun i => { tmps := #[.func (.yield l) #[] #[], .pointer (some ⟨PX, 0, none⟩), .pointer (some ⟨W.heap.size, 0, none⟩), .string (key i), undef, undef, undef, .pointer (some ⟨X, 0, none⟩), .func (.func 161) #[] #[.pointer (some ⟨W.heap.size + 1, 0, none⟩)], .string (key i), undef, undef, undef, undef, undef, undef, undef, undef, undef, undef, undef, undef, undef, undef, undef], defers := [] })
  ?assign ?body ?done ?stop
 case assign =>
  intro l2 x V K hK
  gi_wp2
  exact hK
 case body =>
  rintro l2 pre x V hl ⟨⟨k, rfl, hJ1⟩, c1, c2, n1, n2⟩ ⟨hx, hpk⟩;have hkx : k = x := by have := congrArg List.length hpk; simpa using this
  subst hkx;have g := HG.out _ _ hJ1;have px := g.px;obtain ⟨sv, hI⟩ := g.kv.ixk g.x0 g.x1 hm (key k);rw [(g.kv.mp k hx).2] at hI;have HF := Lib.hid (fun W' (U : Old V W') => ZrH (hI.old U))
  have hls := ZfJ key kz k;have lb1 := World.block_lt_of_cell? V _ c1;have lb2 := World.block_lt_of_cell? V _ c2;simp only at lb1 lb2;clear g hI;cases hq : Za5 (kz k) with
  | none =>
   rw [hq] at HF hls;simp only [Option.getD_none, Option.isSome_none, List.append_nil] at HF hls;unfold Ent.val Ent.zero at HF
   gi_wp2_with (first | (refine ⟨trivial, ?_⟩; gi_at_call 105; refine (CallsIn.inRound l2 (callsIn_wide.2 (HF.out _ (Upd.refl _ _)))).mono ?_; rintro e V2 ⟨rfl, hU⟩))
   refine ⟨fun _ h => (by cases h), ?_⟩
   gi_wp2
   have hO : Old V (V2.alloc (.cells #[.int .i64 0, .string ⟨#[]⟩, .bool false, .int .i64 0, .int .i64 0, .int .i64 0] 111)) := Upd.trans hU ((Upd.refl _ _).alloc _);exact ⟨ZaC.old hO, fun q hw => .inl (HWr.out.by_old hJ1 hO hw), ⟨k + 1, List.range_succ.symm, by rw [hls]; exact ZcE HJ.out hJ1 hO⟩, Old.cellOf' hO c1, Old.cellOf' hO c2, fun h => n1 (HWr.out.by_old hJ1 hO h), fun h => n2 (HWr.out.by_old hJ1 hO h)⟩
  | some e =>
   rw [hq] at HF hls;simp only [Option.getD_some, Option.isSome_some] at HF hls;have HYE := Lib.hid (fun V3 (U : Old V V3) => HY.out (Zb3 key kz k) (key k, e) V3 (ZcE HJ.out hJ1 U) ⟨k, hx, rfl, hq, rfl⟩)
   unfold Ent.val at HF HYE
   gi_wp2_with (first | (refine ⟨trivial, ?_⟩; gi_at_call 105; refine (CallsIn.inRound l2 (callsIn_wide.2 (HF.out _ (Upd.refl _ _)))).mono ?_; rintro e V2 ⟨rfl, hU⟩; refine Hid.out ?_))
   have hO : Old V (V2.alloc (.cells #[.int .i64 ((e.seq : Nat) : Int), .string e.key, .bool e.del, .int .i64 ((e.slot : Nat) : Int), .int .i64 ((e.off : Nat) : Int), .int .i64 ((e.size : Nat) : Int)] 111)) := Upd.trans hU ((Upd.refl _ _).alloc _);obtain ⟨fn, tmps, assign, body, hy, hR⟩ := HYE.out _ hO;have d1 := Old.cellOf' hU c1;have m1 := World.block_lt_of_cell? V2 _ d1;simp only at m1;refine Lib.hid ?_
   gi_wp2
   refine (RoundIn.into rfl hR).mono ?_;clear hR hy;generalize World.alloc V2 _ = V3 at hO;rintro e2 V' ⟨hk, ⟨rfl, hJ2, hf⟩ | ⟨rfl, hJx2⟩⟩
   ·gi_wp2
    have hk' := hk.behind HWr.out hJ1 hO;have hf' := hf.behind HWr.out hJ1 hO;refine ⟨hk'.mono hz, hf', ⟨k + 1, List.range_succ.symm, by rw [hls]; exact hJ2⟩, hk'.cell c1 (Nat.le_refl _) n1, hk'.cell c2 (by show W.heap.size ≤ W.heap.size + 1; omega) n2, fun h => ?_, fun h => ?_⟩
    ·rcases hf' _ h with h | h
     ·exact n1 h
     ·omega
    ·rcases hf' _ h with h | h
     ·exact n2 h
     ·omega
   ·gi_wp2
    exact ⟨(hk.behind HWr.out hJ1 hO).mono hz, rfl, _, hJx2⟩
 case done =>
  rintro D1 xs V1 hD rfl ⟨⟨k, hk, hJ1⟩, -⟩ hKD;have hkn : k = n := by have := congrArg List.length hk; simpa using this.symm
  subst hkn;clear hk
  gi_wp2
  refine ⟨by simp, .inl ⟨_, _, rfl, run_takeDeferred hKD, ?_⟩⟩
  refine ⟨_, results_none rfl _ _ _, ⟨_, rfl⟩, .inl ⟨_, rfl, ?_⟩⟩;exact HJ.out.putObj _ hJ1 (by omega) hKD rfl
 case stop =>
  rintro D1 c V1 hD ⟨rfl, pre, hJ1⟩ hKD
  gi_wp2
  refine ⟨by simp, .inl ⟨_, _, rfl, run_takeDeferred hKD, ?_⟩⟩
  refine ⟨_, results_none rfl _ _ _, ⟨_, rfl⟩, .inr ⟨pre, ?_⟩⟩;exact HJX.out.putObj _ hJ1 (by omega) hKD rfl
end Go.M
namespace Go.M
open Go.Proofs Go.RowKit Go.Shelf
set_option linter.unusedSimpArgs false
attribute [local go_sem] Oper.semAt_some
def ZfK (l : List (ByteArray × Ent)) : List (ByteArray × Nat) := l.map fun x => (x.1, x.2.seq)
theorem ZhB (key : Nat → ByteArray) (kz : Nat → List Ent) (k : Nat) : (Zb3 key kz k).length ≤ k := by
 have := List.length_filterMap_le (fun i => (Za5 (kz i)).map fun e => (key i, e)) (List.range k)
 rwa [List.length_range] at this
theorem Zkx (l : List (ByteArray × Nat)) (x : ByteArray × Nat) : Zcq (l ++ [x]) = Zcq l ++ [.string x.1, .int .i64 ((x.2 : Nat) : Int)] := by
 simp [Zcq]
theorem ZnG : (Tryz.prog.info? 113).map (fun i => (i.zero, i.size, i.bytes)) = some (some (.agg #[.string ⟨#[]⟩, .int .i64 0]), 2, 24) := by kernel_rfl
theorem ZnH (W : World) (a b : Value) (t : TypeId) : ∀ j u, [a, b][j]? = some u → (W.alloc (.cells #[a, b] t)).cell? ((⟨W.heap.size, 0, none⟩ : Addr).add j) = some u := fun j u hj => by
 rw [show (⟨W.heap.size, 0, none⟩ : Addr).add j = ⟨W.heap.size, j, none⟩ from by unfold Addr.add; split <;> simp_all]
 rw [(Has.new W t #[a, b]).cell];simpa using hj
theorem Zds {F : Fence} {n : Nat} {P : Program} (w : World) {ops : Array Oper} {rest : List Oper} {o : Oper} {a : Act} {Q : Exit → Act → World → Prop}
 (hg : o.guard = none) (s x : Operand) (t : TypeId) (hop : o.op = Op.call { callee := Callee.builtin Builtin.append, args := #[s, x], argTypes := #[t, t] })
 (e : TypeId) (i : TypeInfo) (z : Value) (size bytes : Nat) (h1 : P.underlying t = some (.slice e)) (h2 : P.info? e = some i) (h3 : i.zero = some z) (h4 : i.size = size) (h5 : i.bytes = bytes) (h6 : z.cells.size = size) (h7 : 0 < size)
 (v : Value) (k : Nat) (xs : List Value) (hs : a.eval s = v) (hown : w.ownsRow 0 e size v k xs) (ad : Addr) (m c : Nat) (news : List Value) (hx : a.eval x = .slice (some ad) m c) (hn : news.length = m * size)
 (hc : ∀ j u, news[j]? = some u → w.cell? (ad.add j) = some u) (h1c : ∀ u ∈ news, u.oneCell' = true) (b1 : k + m ≤ maxLen) (b2 : (k + m) * bytes ≤ 140737488355328)
 (hK : ∀ v' w', w'.ownsRow 0 e size v' (k + m) (xs ++ news) → w.grownBy w' v.ownBlock → (∀ k, v'.ownBlock = some k → v.ownBlock = some k ∨ w.heap.size ≤ k) → wpListIn F n P ops Q rest (a.put o.dst v') w') :
 wpListIn F n P ops Q (o :: rest) a w := by
 refine wpListIn_plain hg fun K hK' => ?_
 obtain ⟨v', w', hrun, r1, r2, -, r3⟩ := Zbm (P := P) w t o.type e i z size bytes h1 h2 h3 h4 h5 h6 h7 v k xs hown ad m c news hn hc h1c b1 b2;unfold Oper.wpIn;refine ⟨?_, ?_⟩
 ·simp [Oper.about, hop, resolve, Target.leads, Sem.run_pure]
 ·rw [Oper.semAt_plain F _ _ (by rw [hop]; intro c hc'; cases hc')]
  simp [execOp, hop, resolve, invoke, builtin, hs, hx, hrun, Result.andThen];exact hK' _ _ (hK v' w' r1 r2 r3)
structure LvI (w : World) (X : Nat) (pre : List (ByteArray × Ent)) (v : Value) (V : World) : Prop where
 h : Has V w.heap.size 53 #[v]
 r : V.ownsRow 0 113 2 v (ZfK pre).length (Zcq (ZfK pre))
 n : ∀ b, v.ownBlock = some b → w.heap.size + 2 ≤ b
 p : V.cell? ⟨w.heap.size + 1, 0, none⟩ = some (.pointer (some ⟨X, 0, none⟩))
 o : Old w V
def LvW (w : World) (V : World) (k : Nat) : Prop := ∃ v, V.cell? ⟨w.heap.size, 0, none⟩ = some v ∧ v.ownBlock = some k
theorem LvI.own {w V : World} {X k : Nat} {pre : List (ByteArray × Ent)} {v : Value} (h : LvI w X pre v V) : LvW w V k ↔ v.ownBlock = some k := by
 have hc : V.cell? ⟨w.heap.size, 0, none⟩ = some v := h.h.cell 0;unfold LvW;rw [hc];simp
theorem LvI.grown {w A B : World} {X : Nat} {pre : List (ByteArray × Ent)} {v : Value} {row : Option Nat} (h : LvI w X pre v A) (hg : A.grownBy B row) (hr : ∀ r, row = some r → w.heap.size ≤ r ∧ ∃ o : Obj, A.heap[r]? = some o ∧ o.isCells = false) : LvI w X pre v B := by
 have U : Upd (fun b => row = some b) A B := (Upd.refl _ A).grown hg (fun k e => .inl e)
 have nr : ∀ {b : Nat} {t : TypeId} {c : Array Value}, Has A b t c → ¬ row = some b := fun hh => not_row hh (fun r e => (hr r e).2)
 refine ⟨U.has h.h (nr h.h), Upd.own U h.r (fun b hb => ?_), h.n, cell_kept h.p hg (fun r e => (hr r e).2), h.o.grown hg (fun k e => .inr (hr k e).1)⟩
 obtain ⟨cur, hc⟩ := ZaQ h.r hb;exact nr hc
theorem Zme {w V w1 : World} {X : Nat} {pre : List (ByteArray × Ent)} {v : Value} {o : Obj} (h : LvI w X pre v V) (hg : (V.alloc o).grownBy w1 v.ownBlock) :
 Has w1 w.heap.size 53 #[v] ∧ w1.cell? ⟨w.heap.size + 1, 0, none⟩ = some (.pointer (some ⟨X, 0, none⟩)) ∧ Upd (fun b => v.ownBlock = some b) V w1 ∧ Old w w1 := by
 have U : Upd (fun b => v.ownBlock = some b) V w1 := ((Upd.refl _ V).alloc _).grown hg (fun k e => .inl e)
 have hp := World.block_lt_of_cell? V _ h.p;refine ⟨U.has h.h (fun e => by have := h.n _ e; omega), U.cellOf h.p (fun e => by have := h.n _ e; omega), U, (h.o.alloc _).grown hg (fun k e => .inr (by have := h.n k e; omega))⟩
theorem Zpu {w V w1 : World} {X B0 : Nat} {pre : List (ByteArray × Ent)} {x : ByteArray × Ent} {v v' : Value} {o : Obj} (h : LvI w X pre v V) (hB0 : w.heap.size + 2 ≤ B0)
 (hA : Has w1 w.heap.size 53 #[v] ∧ w1.cell? ⟨w.heap.size + 1, 0, none⟩ = some (.pointer (some ⟨X, 0, none⟩)) ∧ Upd (fun b => v.ownBlock = some b) V w1 ∧ Old w w1)
 (hown : w1.ownsRow 0 113 2 v' ((ZfK pre).length + 1) (Zcq (ZfK pre) ++ [.string x.1, .int .i64 ((x.2.seq : Nat) : Int)])) (hfr : ∀ k, v'.ownBlock = some k → v.ownBlock = some k ∨ (V.alloc o).heap.size ≤ k) :
 ZaC B0 (LvW w) V (w1.setCell ⟨w.heap.size, 0, none⟩ v') ∧ ZcL (LvW w) V (w1.setCell ⟨w.heap.size, 0, none⟩ v') ∧ ∃ v, LvI w X (pre ++ [x]) v (w1.setCell ⟨w.heap.size, 0, none⟩ v') := by
 obtain ⟨h1, h2, h3, h4⟩ := hA;have hlt := h.h.lt;have hp := World.block_lt_of_cell? V _ h.p;simp only at hp;have hn : ∀ b, v'.ownBlock = some b → w.heap.size + 2 ≤ b := fun b hb => by
  rcases hfr b hb with h5 | h5
  ·exact h.n b h5
  ·simp at h5; omega
 have U2 : Upd (fun b => b = w.heap.size) w1 (w1.setCell ⟨w.heap.size, 0, none⟩ v') := (Upd.refl _ _).setCell _ _ (.inl rfl)
 have hI : LvI w X (pre ++ [x]) v' (w1.setCell ⟨w.heap.size, 0, none⟩ v') := by
  refine ⟨by have := h1.set 0 v'; simpa using this, ?_, hn, U2.cellOf h2 (by show ¬ _ = _; omega), h4.setCell _ _ (.inr (Nat.le_refl _))⟩
  have e : ZfK (pre ++ [x]) = ZfK pre ++ [(x.1, x.2.seq)] := by simp [ZfK]
  rw [e, Zkx, List.length_append];exact Upd.own U2 hown (fun b hb e => by have := hn b hb; omega)
 refine ⟨⟨Nat.le_trans h3.size U2.size, fun k hk hl hw => ?_⟩, fun k hw => ?_, v', hI⟩
 ·rw [U2.keep k (by have := h3.size; omega) (by omega)]
  exact h3.keep k hl (fun e => hw (h.own.2 e))
 ·rcases hfr k (hI.own.1 hw) with h5 | h5
  ·exact .inl (h.own.2 h5)
  ·exact .inr (by simp at h5; omega)
set_option maxHeartbeats 800000 in
theorem Zmf {w : World} {X O S m c n : Nat} {mv : Value} {key : Nat → ByteArray} {val : Nat → Value} {kz : Nat → List Ent} {B : Nat → Prop} {M : ByteArray → List Ent} (hm : 0 < m) (hX0 : w.cell? ⟨X, 0, none⟩ = some (.pointer (some ⟨O, 0, none⟩))) (hX1 : w.cell? ⟨X, 1, none⟩ = some (.slice (some ⟨S, 0, none⟩) m c)) (hK : KvIn w O mv n key val kz B M) :
 Calls Tryz.prog 17 #[.pointer (some ⟨X, 0, none⟩)] w (Zcf w 113 2 (ZfK (Zb3 key kz n)).length (Zcq (ZfK (Zb3 key kz n)))) := by
 have hfew := hK.n5;have hv1 : ∀ i, i < n → ∃ a c d, val i = .slice a c d := fun i hi => by obtain ⟨a, c, h⟩ := Zac (hK.row i hi); exact ⟨a, _, c, h⟩
 have HK := Lib.hid hK;clear hK;obtain ⟨i0, hi0, hz0, hz1, hz2⟩ := info_parts ZnG;refine (callsIn_wide (n := 8)).1 ?_;refine callsIn_of_wp_marks Tryz.func17 rfl trivial ?_ rfl;simp only [Tryz.ntmps17, List.size_toArray, List.length_cons, List.length_nil, Nat.reduceAdd, Nat.reduceSub, Array.replicate_succ, Array.replicate_zero, List.push_toArray, List.append_toArray, List.nil_append, List.cons_append];refine wpIn_wide.2 ?_
 go_wp2_with (first | go_in)
 generalize hW0 : World.alloc (World.alloc w _) _ = W0;have U0 : Old w W0 := by subst hW0; exact ((Upd.refl _ w).alloc _).alloc _
 have c0 : Has W0 w.heap.size 53 #[.slice none 0 0] := by subst hW0; exact (Has.new w _ _).alloc _
 have c1 : W0.cell? ⟨w.heap.size + 1, 0, none⟩ = some (.pointer (some ⟨X, 0, none⟩)) := by subst hW0; go_simp
 have z0 : W0.heap.size = w.heap.size + 2 := by subst hW0; simp
 clear hW0;have hI0 : LvI w X [] (.slice none 0 0) W0 := ⟨c0, World.ownsRow_nil _ _ _ _, fun b hb => (by cases hb), c1, U0⟩
 refine (wpIn_wide (n := 8)).1 ?_;refine ZnF rfl (by omega) (gf := 103) (lb := #[.pointer (some ⟨w.heap.size + 1, 0, none⟩)]) rfl trivial (enters_of Tryz.func103 (by kernel_rfl) rfl) (encs := fun x : ByteArray × Ent => #[.string x.1, x.2.val]) (fun _ => rfl)
  (ZqO (PX := w.heap.size + 1) (X := X) (O := O) (S := S) (m := m) (c := c) (mv := mv) (key := key) (kz := kz) (B := B) (M := M) 7 (by omega) hm hfew hv1)
  (fun pre V => ∃ v, LvI w X pre v V) (fun _ _ => False) (LvW w) ⟨fun s V k h hw => ?wc, fun s A B' row h hg hr k hw => ?ws⟩
  (fun pre A B' row hs hg hr => by obtain ⟨v, h⟩ := hs; exact ⟨v, h.grown hg (fun r e => ⟨by have := (hr r e).1; omega, (hr r e).2⟩)⟩)
  (fun _ _ _ _ _ h _ _ => h) ⟨_, hI0⟩ (fun pre V h => by obtain ⟨v, h⟩ := h; exact ⟨h.p, Old.cellOf' h.o hX0, Old.cellOf' h.o hX1, HK.out.upd h.o (fun x => x) (fun _ _ x => x) (fun _ _ _ _ x => x)⟩)
  (fun x => .cells #[.int .i64 ((x.2.seq : Nat) : Int), .string x.2.key, .bool x.2.del, .int .i64 ((x.2.slot : Nat) : Int), .int .i64 ((x.2.off : Nat) : Int), .int .i64 ((x.2.size : Nat) : Int)] 111)
  (fun x H => { tmps := #[.pointer (some ⟨X, 0, none⟩), undef, .slice none 0 0, .pointer (some ⟨w.heap.size, 0, none⟩), .string x.1, .pointer (some ⟨H, 0, none⟩), .pointer (some ⟨X, 0, none⟩), .func (.func 103) #[] #[.pointer (some ⟨w.heap.size + 1, 0, none⟩)], .string x.1, x.2.val, undef, undef, undef, undef, undef, undef, undef, undef], defers := [] })
  ?assign ?body ?done ?stop
 case wc =>
  obtain ⟨v, h⟩ := h;obtain ⟨cur, hc⟩ := ZaQ h.r (h.own.1 hw);exact ⟨_, hc, rfl⟩
 case ws =>
  obtain ⟨v, h⟩ := h;exact h.own.2 ((h.grown hg (fun r e => ⟨by have := (hr r e).1; omega, (hr r e).2⟩)).own.1 hw)
 case assign =>
  intro l2 x V K hK;unfold Ent.val at hK ⊢
  gi_wp2
  exact hK
 case body =>
  rintro l2 H pre x V hl hHl hH hnH ⟨v, hv⟩ ⟨i, hi, hki, hli, hpre⟩;have x0 : V.cell? ⟨H, 0, none⟩ = some (.int .i64 ((x.2.seq : Nat) : Int)) := (show Has V H _ _ from hH).cell 0
  have hcell : V.cell? ⟨w.heap.size, 0, none⟩ = some v := hv.h.cell 0;have hfz := hv.h.frozen 0;have hlt := hv.h.lt;have hlen : (ZfK pre).length ≤ 500 := by rw [hpre]; unfold ZfK; rw [List.length_map]; have := ZhB key kz i; omega
  have HV := Lib.hid hv;obtain ⟨va0, vc0, rfl⟩ := Zac hv.r;unfold Ent.val;clear hv hpre hli hki
  gi_wp2_with (gi_at_builtin; refine Zds _ rfl _ _ 53 rfl 113 i0 (.agg #[.string ⟨#[]⟩, .int .i64 0]) 2 24 Tryz.underlying53 hi0 hz0 hz1 hz2 rfl (by decide) (.slice va0 (ZfK pre).length vc0) (ZfK pre).length (Zcq (ZfK pre)) rfl (by exact Upd.own ((Upd.refl _ V).alloc _) HV.out.r (fun _ _ x => x)) ⟨V.heap.size, 0, none⟩ 1 1 [.string x.1, .int .i64 ((x.2.seq : Nat) : Int)] rfl rfl (ZnH V _ _ _) (by simp [Value.oneCell']) (by unfold maxLen; omega) (by omega) ?_; intro v' w1 hown' hgrow hfr; have hA := Zme HV.out hgrow; have hc1 : w1.cell? ⟨w.heap.size, 0, none⟩ = some (.slice va0 (ZfK pre).length vc0) := hA.1.cell 0; have hf1 := hA.1.frozen 0; have hl1 := hA.1.lt; obtain ⟨va, vc, rfl⟩ := Zac hown')
  exact Zpu HV.out (by omega) hA hown' hfr
 case done =>
  rintro D1 xs V1 hD rfl ⟨v, h⟩ hKD;have hcell : V1.cell? ⟨w.heap.size, 0, none⟩ = some v := h.h.cell 0;have HV := Lib.hid h;have hl1 := h.h.lt;clear h;go_wp2;refine ⟨by simp, .inl ⟨_, _, rfl, run_takeDeferred hKD, ?_⟩⟩
  have h2 := HV.out.grown (grownBy_putObj' V1 D1 (.deferred none)) (fun r e => by cases e; exact ⟨by omega, _, hKD, rfl⟩)
  exact ⟨_, results_tmp rfl _ _ _, v, rfl, h2.r, h2.o, fun b hb => by have := h2.n b hb; omega⟩
 case stop =>
  rintro D1 c V1 _ h _;exact h.elim
end Go.M
namespace Go.M
open Go.Proofs Go.RowKit
set_option linter.unusedSimpArgs false
theorem ZnI {M : ByteArray → List Ent} {es : Nat → List Ent} {i : Nat} : Zku M es i = true ↔ ∀ x ∈ es i, Zbn (M x.key) x = false := by
 unfold Zku;rw [beq_iff_eq, List.length_eq_zero_iff, List.filter_eq_nil_iff];exact ⟨fun h x hx => by simpa using h x hx, fun h x hx => by simp [h x hx]⟩
theorem Zmg {h : Ent} {t : List Ent} (hp : ∀ y ∈ t, y.seq < h.seq) (hn : Zbn (h :: t) h = false) : h.del = true ∧ ∀ y ∈ t, y.slot = h.slot := by
 have a1 : (h :: t).any (nd1 h) = false := by
  rw [List.any_eq_false];intro y hy;rcases List.mem_cons.1 hy with rfl | hy
  ·simp [nd1]
  ·have := hp y hy; simp [nd1]; omega
 have a2 : (h :: t).any (nd2 h) = false := by
  rw [List.any_eq_false];intro y hy;rcases List.mem_cons.1 hy with rfl | hy
  ·simp [nd2]
  ·have := hp y hy; simp [nd2]; omega
 unfold Zbn at hn;rw [a1, a2] at hn;simp only [Bool.false_eq_true, if_false] at hn;cases hd : h.del with
 | false => rw [hd] at hn; cases hn
 | true =>
  rw [hd] at hn;simp only [if_true] at hn;refine ⟨rfl, fun y hy => ?_⟩
  have := (List.any_eq_false.1 hn) y (List.mem_cons_of_mem _ hy);have hl := hp y hy;simp only [nd3, Bool.and_eq_true, decide_eq_true_eq, not_and] at this;exact Classical.not_not.1 (fun hne => this hl hne)
theorem Zmh {n : Nat} {M : ByteArray → List Ent} {es : Nat → List Ent} (h : ConM n M es) {i : Nat} (hi : i < n) (hr : Zku M es i = true) (k : ByteArray) : Za5 (leftOf M (es i) k) = Za5 (M k) := by
 have hb := h.b k;have ho := h.ord k;rcases hM : M k with _ | ⟨x, t⟩
 ·unfold leftOf; rw [hM]; rfl
 ·rw [hM] at hb ho;obtain ⟨hk, hs, he⟩ := hb x (List.mem_cons_self ..);have hp : ∀ y ∈ t, y.seq < x.seq := (List.pairwise_cons.1 ho).1
  by_cases hx : x ∈ es i
  ·have hn := ZnI.1 hr x hx;rw [hk, hM] at hn;obtain ⟨hd, hsl⟩ := Zmg hp hn;have hxi := (h.a i hi x hx).1;have hall : leftOf M (es i) k = [] := by
    rw [List.eq_nil_iff_forall_not_mem];intro y hy;obtain ⟨h1, h2⟩ := Zbq.1 hy;rw [hM] at h1;rcases List.mem_cons.1 h1 with rfl | h1
    ·exact h2 hx
    ·obtain ⟨-, -, h3⟩ := hb y (List.mem_cons_of_mem _ h1);rw [hsl y h1, hxi] at h3;exact h2 h3
   rw [hall];simp [Za5, hd]
  ·have : leftOf M (es i) k = x :: t.filter (fun y => (es i).all fun z => !ZaR y z) := by
    unfold leftOf;rw [hM, List.filter_cons, if_pos];rw [List.all_eq_true];intro z hz;cases he : ZaR x z with
    | false => rfl
    | true => exact absurd ((Zco x z).1 he ▸ hz) hx
   rw [this];rfl
theorem ZfL {α : Type} {R : α → α → Prop} (ha : ∀ a b, R a b → R b a → False) : ∀ (l l' : List α), l.Pairwise R → l'.Pairwise R → (∀ x, x ∈ l ↔ x ∈ l') → l = l'
 | [], [], _, _, _ => rfl
 | [], b :: t, _, _, h => by have := (h b).2 (List.mem_cons_self ..); cases this
 | a :: t, [], _, _, h => by have := (h a).1 (List.mem_cons_self ..); cases this
 | a :: t, b :: t', p, p', h => by
  have ir : ∀ a, ¬ R a a := fun a h => ha a a h h
  obtain ⟨p1, p2⟩ := List.pairwise_cons.1 p;obtain ⟨q1, q2⟩ := List.pairwise_cons.1 p';have e : a = b := by
   rcases List.mem_cons.1 ((h a).1 (List.mem_cons_self ..)) with e | h1
   ·exact e
   ·rcases List.mem_cons.1 ((h b).2 (List.mem_cons_self ..)) with e | h2
    ·exact e.symm
    ·exact (ha a b (p1 b h2) (q1 a h1)).elim
  subst e;rw [ZfL ha t t' p2 q2 (fun x => ⟨fun hx => ?_, fun hx => ?_⟩)]
  ·rcases List.mem_cons.1 ((h x).1 (List.mem_cons_of_mem _ hx)) with rfl | h1
   ·exact (ir _ (p1 _ hx)).elim
   ·exact h1
  ·rcases List.mem_cons.1 ((h x).2 (List.mem_cons_of_mem _ hx)) with rfl | h1
   ·exact (ir _ (q1 _ hx)).elim
   ·exact h1
theorem ZhC {key : Nat → ByteArray} {kz : Nat → List Ent} {k : Nat} {x : ByteArray × Ent} : x ∈ Zb3 key kz k ↔ ∃ i, i < k ∧ key i = x.1 ∧ Za5 (kz i) = some x.2 := by
 unfold Zb3;rw [List.mem_filterMap];constructor
 ·rintro ⟨i, hi, h⟩;rw [List.mem_range] at hi;obtain ⟨e, he, rfl⟩ := Option.map_eq_some_iff.1 h;exact ⟨i, hi, rfl, he⟩
 ·rintro ⟨i, hi, h1, h2⟩;exact ⟨i, List.mem_range.2 hi, by obtain ⟨x1, x2⟩ := x; simp only at h1 h2; rw [h2, h1]; rfl⟩
variable {V : World} {O n : Nat} {mv : Value} {key : Nat → ByteArray} {val : Nat → Value} {kz : Nat → List Ent} {B : Nat → Prop} {M : ByteArray → List Ent}
theorem KvIn.strict (h : KvIn V O mv n key val kz B M) {i j : Nat} (hij : i < j) (hj : j < n) : Zah (key i) (key j) = true := by
 cases hq : Zah (key i) (key j) with
 | true => rfl
 | false =>
  cases hp : Zah (key j) (key i) with
  | true =>
   have := h.om.sorted (key i) i j (by omega) hj hp
   rw [ZaB] at this;cases this
  | false =>
   have := h.inj i j (by omega) hj (Zdo hq hp)
   omega
theorem KvIn.live_sorted (h : KvIn V O mv n key val kz B M) : ∀ k, k ≤ n → (Zb3 key kz k).Pairwise (fun x y => Zah x.1 y.1 = true)
 | 0, _ => List.Pairwise.nil
 | k + 1, hk => by
  rw [ZfJ];refine List.pairwise_append.2 ⟨KvIn.live_sorted h k (by omega), ?_, fun x hx y hy => ?_⟩
  ·split <;> simp
  ·obtain ⟨i, h1, h2, h3⟩ := ZhC.1 hx
   split at hy
   ·cases hy
   ·simp at hy;subst hy;rw [← h2];exact h.strict h1 (by omega)
theorem KvIn.live_mem (h : KvIn V O mv n key val kz B M) {x : ByteArray × Ent} : x ∈ Zb3 key kz n ↔ Za5 (M x.1) = some x.2 := by
 rw [ZhC];constructor
 ·rintro ⟨i, h1, h2, h3⟩;rw [← h2, (h.mp i h1).2];exact h3
 ·intro hl;have hne : M x.1 ≠ [] := fun e => by rw [e] at hl; cases hl
  obtain ⟨i, h1, h2⟩ := h.on _ hne;exact ⟨i, h1, h2, by rw [← (h.mp i h1).2, h2]; exact hl⟩
theorem Zmi {V' : World} {O' n' : Nat} {mv' : Value} {key' : Nat → ByteArray} {val' : Nat → Value} {kz' : Nat → List Ent} {B' : Nat → Prop} {M' : ByteArray → List Ent} (h : KvIn V O mv n key val kz B M) (h' : KvIn V' O' mv' n' key' val' kz' B' M') (hl : ∀ k, Za5 (M' k) = Za5 (M k)) : Zb3 key' kz' n' = Zb3 key kz n :=
 ZfL (R := fun x y => Zah x.1 y.1 = true) (fun a b h1 h2 => by have := ZeR h1 h2; rw [ZaB] at this; cases this) _ _ (h'.live_sorted n' (Nat.le_refl _)) (h.live_sorted n (Nat.le_refl _)) (fun x => by rw [h'.live_mem, h.live_mem, hl])
end Go.M
