/- Walks 7. -/
import Derived.Test.YtjadmbkmlehfdaaGreatDoorProg
import Derived.Test.YtjadmbkmlehfdaaGreatDoorK6
import Derived.Test.YtjadmbkmlehfdaaGreatDoorK5
import Derived.Maps.AppendAt
set_option linter.unusedVariables false
set_option linter.unusedSimpArgs false
set_option maxRecDepth 100000
namespace Go.M
open Go.Proofs Go.RowKit Go.Shelf
attribute [local go_sem] Oper.semAt_some
theorem run_equalIn_func {P : Program} (w : World) (d : Nat) (t : TypeId) (ds : TypeDesc) (f : Fn) (b : Array Value) (h : P.underlying t = some ds) (hd : (match ds with | .func .. => true | _ => false) = true) : (Op.equalIn (d + 1) t (.func f #[] b) .nilFunc).run P w = .ok false w := by
 cases ds <;> simp at hd
 simp [Op.equalIn, run_underlying h]
theorem run_eql_func {P : Program} (w : World) (t : TypeId) (ds : TypeDesc) (f : Fn) (b : Array Value) (h : P.underlying t = some ds) (hd : (match ds with | .func .. => true | _ => false) = true) : (binOp .eql t (.func f #[] b) .nilFunc).run P w = .ok (.bool false) w := by
 simp only [binOp]
 simp [Op.equal, Op.maxDepth, run_equalIn_func w 9999 t ds f b h hd]
theorem yields_in {w : World} {f : Nat} {b : Array Value} :
 Calls Tryz.prog 116 #[.func (.func f) #[] b] w fun e w' => e = .returned (.func (.func f) #[] b) ∧ w = w' := by
 have hq : ∀ w : World, (binOp .eql 156 (.func (.func f) #[] b) .nilFunc).run Tryz.prog w = .ok (.bool false) w := fun w => run_eql_func w _ _ _ _ Tryz.underlying156 rfl
 go_enter Tryz.func116, Tryz.ntmps116
 go_wp2
 go_ret
 exact ⟨rfl, rfl⟩
theorem own_zero {w : World} {e : TypeId} {base size n : Nat} {v : Value} {xs : List Value} (own : w.ownsRow base e size v n xs) : w.ownsRow 0 e size v n xs := by
 refine ⟨own.1, ?_⟩
 rcases own.2 with h | ⟨g, cap, cur, h1, h2, h3⟩
 ·exact .inl h
 ·exact .inr ⟨g, cap, cur, h1, Nat.zero_le _, h3⟩
theorem own_base {w : World} {e : TypeId} {base size n : Nat} {v : Value} {xs : List Value} (own : w.ownsRow base e size v n xs) : ∀ b, v.ownBlock = some b → base ≤ b := by
 intro b hb
 rcases own.2 with ⟨h1, h2⟩ | ⟨g, cap, cur, h1, h2, h3⟩
 ·rw [h1] at hb; cases hb
 ·rw [h1] at hb
  simp [Value.ownBlock] at hb
  omega
theorem old_of_below {w w' : World} (h : Below w.heap.size w w') : Old w w' := ⟨h.size, fun b hb _ => h.block b hb, h.tape, h.os, h.output⟩
theorem has_own {β : Type} (B : Nat) (t : TypeId) (f : β → Array Value) : Own (fun s W => Has W B t (f s)) := fun s X Y row hs hg hrow => by
 have h : some B ≠ row := fun e' => by
  obtain ⟨o, ho, hc⟩ := hrow B e'.symm
  unfold Has at hs
  rw [hs] at ho; cases ho; cases hc
 unfold Has at *
 exact (hg.block B (Has.lt (t := t) hs) h).trans hs
theorem ent_news (w : World) (x : Ent) (t : TypeId) : ∀ j u, x.cells[j]? = some u → (w.alloc (.cells #[.int .i64 ((x.seq : Nat) : Int), .string x.key, .bool x.del, .int .i64 ((x.slot : Nat) : Int), .int .i64 ((x.off : Nat) : Int), .int .i64 ((x.size : Nat) : Int)] t)).cell? ((⟨w.heap.size, 0, none⟩ : Addr).add j) = some u := by
 intro j u hj
 rw [show (⟨w.heap.size, 0, none⟩ : Addr).add j = ⟨w.heap.size, j, none⟩ from by unfold Addr.add; split <;> simp_all]
 rw [(Has.new w t #[.int .i64 ((x.seq : Nat) : Int), .string x.key, .bool x.del, .int .i64 ((x.slot : Nat) : Int), .int .i64 ((x.off : Nat) : Int), .int .i64 ((x.size : Nat) : Int)]).cell j]
 simpa [Ent.cells] using hj
theorem ent_one (x : Ent) : ∀ u ∈ x.cells, u.oneCell' = true := by
 intro u hu
 simp [Ent.cells] at hu
 rcases hu with rfl | rfl | rfl | rfl | rfl | rfl <;> rfl
theorem slot_stops {q : Ent → Prop} (n : Nat) (hn : 1 ≤ n) (PX PS X S i m c n₀ : Nat) (sv : Value) (zs : List {x : Ent // q x}) (hreach : zs.length ≤ 1000) (w : World) (hn0 : n₀ ≤ w.heap.size) (hPX : w.cell? ⟨PX, 0, none⟩ = some (.pointer (some ⟨X, 0, none⟩))) (hPS : w.cell? ⟨PS, 0, none⟩ = some (.int .i64 ((i : Nat) : Int)))
 (hX1 : w.cell? ⟨X, 1, none⟩ = some (.slice (some ⟨S, 0, none⟩) m c)) (hS : w.cell? ⟨S, i, none⟩ = some sv) (him : i < m) (hE : EntsB n₀ w sv zs) :
 SeqStopsK Fence.wide n Tryz.prog 168 #[.pointer (some ⟨PX, 0, none⟩), .pointer (some ⟨PS, 0, none⟩)] (fun x : {x : Ent // q x} => #[x.1.val]) (Below n₀) (fun ys => ys = zs) (fun pre => pre <+: zs) zs.length w := fun l J Jx W hW hJ hJx hY h0 => by
 have b1 := World.block_lt_of_cell? w _ hPX
 have b2 := World.block_lt_of_cell? w _ hPS
 have b3 := World.block_lt_of_cell? w _ hX1
 have b4 := World.block_lt_of_cell? w _ hS
 exact callsIn_wide.2 (slot_iter n hn l PX PS X S i m c n₀ sv sv zs hreach J Jx hY W hJ (Nat.le_trans hn0 hW.size) ((hW.cell b1).trans hPX) ((hW.cell b2).trans hPS) ((hW.cell b3).trans hX1) ((hW.cell b4).trans hS) him (hE.below (hW.mono hn0)) h0)
theorem info_entA : (Tryz.prog.info? 47).map (fun i => (i.zero, i.size, i.bytes)) = some (some (.agg #[.int .i64 0, .string ⟨#[]⟩, .bool false, .int .i64 0, .int .i64 0, .int .i64 0]), 6, 56) := by kernel_rfl
set_option maxHeartbeats 2000000 in
theorem pslot {w : World} {PP X S i m c : Nat} {O sv : Value} {es : List Ent} (hP : w.cell? ⟨PP, 9, none⟩ = some (.pointer (some ⟨X, 0, none⟩))) (hX1 : w.cell? ⟨X, 1, none⟩ = some (.slice (some ⟨S, 0, none⟩) m c)) (hS : w.cell? ⟨S, i, none⟩ = some sv) (him : i < m) (hm : m ≤ 10)
 (own : w.ownsRow 0 47 6 sv es.length (rowOf es)) (hl : es.length ≤ 500) :
 Calls Tryz.prog 49 #[.pointer (some ⟨PP, 0, none⟩), .int .i64 ((i : Nat) : Int)] w (NewRow w 47 6 es.length (rowOf es)) := by
 refine (callsIn_wide (n := 8)).1 ?_
 refine callsIn_of_wp_marks Tryz.func49 rfl trivial ?_ rfl
 simp only [Tryz.ntmps49, List.size_toArray, List.length_cons, List.length_nil, Nat.reduceAdd, Nat.reduceSub, Array.replicate_succ, Array.replicate_zero, List.push_toArray, List.append_toArray, List.nil_append, List.cons_append]
 refine wpIn_wide.2 ?_
 have hPl : PP < w.heap.size := World.block_lt_of_cell? w _ hP
 have hXl : X < w.heap.size := World.block_lt_of_cell? w _ hX1
 have hSl : S < w.heap.size := World.block_lt_of_cell? w _ hS
 have HW := Lib.hid own
 clear own
 go_wp2_with (first | (go_at_call 116; refine yields_in.mono ?_; rintro e w1 ⟨rfl, rfl⟩) | go_in)
 have bO := Boxed.new w 33 (.slice none 0 0)
 have hO3 : Old w (((w.alloc (.cells #[.slice none 0 0] 33)).alloc (.cells #[.pointer (some ⟨X, 0, none⟩)] 39)).alloc (.cells #[.int .i64 ((i : Nat) : Int)] 3)) := (((Upd.refl _ w).alloc _).alloc _).alloc _
 have bO3 := (bO.alloc (.cells #[.pointer (some ⟨X, 0, none⟩)] 39)).alloc (.cells #[.int .i64 ((i : Nat) : Int)] 3)
 have bX := (Boxed.new (w.alloc (.cells #[.slice none 0 0] 33)) 39 (.pointer (some ⟨X, 0, none⟩))).alloc (.cells #[.int .i64 ((i : Nat) : Int)] 3)
 have bI := Boxed.new ((w.alloc (.cells #[.slice none 0 0] 33)).alloc (.cells #[.pointer (some ⟨X, 0, none⟩)] 39)) 3 (.int .i64 ((i : Nat) : Int))
 have hB0 : Below w.heap.size w (((w.alloc (.cells #[.slice none 0 0] 33)).alloc (.cells #[.pointer (some ⟨X, 0, none⟩)] 39)).alloc (.cells #[.int .i64 ((i : Nat) : Int)] 3)) := (((Below.refl _ w).alloc (Nat.le_refl _) _).alloc (by simp) _).alloc (by simp; omega) _
 have hsz : (((w.alloc (.cells #[.slice none 0 0] 33)).alloc (.cells #[.pointer (some ⟨X, 0, none⟩)] 39)).alloc (.cells #[.int .i64 ((i : Nat) : Int)] 3)).heap.size = w.heap.size + 3 := by simp
 simp only [World.size_alloc] at bX bI
 obtain ⟨W0, hW0⟩ : ∃ W0, (((w.alloc (.cells #[.slice none 0 0] 33)).alloc (.cells #[.pointer (some ⟨X, 0, none⟩)] 39)).alloc (.cells #[.int .i64 ((i : Nat) : Int)] 3)) = W0 := ⟨_, rfl⟩
 rw [hW0] at bO3 bX bI hB0 hsz hO3 ⊢
 clear hW0 bO
 have hz := withQ_map (fun _ => True) es (fun _ _ => trivial)
 have hE : EntsB w.heap.size w sv (withQ (fun _ => True) es (fun _ _ => trivial)) := EntsB.of_own HW.out _ hz
 generalize withQ (fun _ => True) es (fun _ _ => trivial) = zs at hz hE
 have hzl : zs.length = es.length := by rw [← hz, List.length_map]
 obtain ⟨i0, hi0, hz0, hz1, hz2⟩ := info_parts info_entA
 refine (wpIn_wide (n := 8)).1 ?_
 refine wpIn_rangeFunc_ownH rfl (by omega) (gf := 168) (lb := #[.pointer (some ⟨w.heap.size + 1, 0, none⟩), .pointer (some ⟨w.heap.size + 1 + 1, 0, none⟩)]) rfl trivial (enters_of Tryz.func168 (by kernel_rfl) rfl)
  (slot_stops 7 (by omega) (w.heap.size + 1) (w.heap.size + 1 + 1) X S i m c w.heap.size sv zs (by omega) W0 (by omega) bX.cell bI.cell (Old.cellOf' hO3 hX1) (Old.cellOf' hO3 hS) him (hE.old hO3)) belowK_t (belowK_b (by omega)) (Below.refl _ _) (fun _ => rfl)
  (fun (pre : List {x : Ent // True}) W => (∃ v, Boxed W w.heap.size 33 v ∧ W.ownsRow w.heap.size 47 6 v pre.length (rowOf (pre.map (·.1))) ∧ True) ∧ Below w.heap.size w W)
  (fun _ _ _ => False)
  (OwnFrom.and (Own.from (holdsRow_own w.heap.size w.heap.size 33 47 6 (fun (pre : List {x : Ent // True}) => pre.length) (fun (pre : List {x : Ent // True}) => rowOf (pre.map (·.1))) (fun _ _ => True)) _) (ownFrom_below (Nat.le_refl _) (by omega)))
  (fun _ _ _ _ _ hs _ _ => hs)
  ⟨⟨_, bO3, World.ownsRow_nil _ _ _ _, trivial⟩, hB0⟩
  (fun x a' W => ∃ Bx, w.heap.size < Bx ∧ Has W Bx 47 #[.int .i64 ((x.1.seq : Nat) : Int), .string x.1.key, .bool x.1.del, .int .i64 ((x.1.slot : Nat) : Int), .int .i64 ((x.1.off : Nat) : Int), .int .i64 ((x.1.size : Nat) : Int)] ∧ a' = { tmps := #[.pointer (some ⟨PP, 0, none⟩), .int .i64 ((i : Nat) : Int), undef, undef, .slice none 0 0, .pointer (some ⟨w.heap.size, 0, none⟩), .pointer (some ⟨Bx, 0, none⟩), .pointer (some ⟨PP, 0, none⟩), .pointer (some ⟨PP, 0, none⟩), .pointer (some ⟨PP, 9, none⟩), .pointer (some ⟨X, 0, none⟩), .int .i64 ((i : Nat) : Int), .func (.func 168) #[] #[.pointer (some ⟨w.heap.size + 1, 0, none⟩), .pointer (some ⟨w.heap.size + 1 + 1, 0, none⟩)], .func (.func 168) #[] #[.pointer (some ⟨w.heap.size + 1, 0, none⟩), .pointer (some ⟨w.heap.size + 1 + 1, 0, none⟩)], x.1.val, undef, undef, undef, undef, undef, undef, undef, undef], defers := [] })
  (fun x a' _ X Y row hs hg hr => by obtain ⟨Bx, h1, h2, h3⟩ := hs; exact ⟨Bx, h1, has_own Bx _ (fun (_ : Unit) => #[.int .i64 ((x.1.seq : Nat) : Int), .string x.1.key, .bool x.1.del, .int .i64 ((x.1.slot : Nat) : Int), .int .i64 ((x.1.off : Nat) : Int), .int .i64 ((x.1.size : Nat) : Int)]) () X Y row h2 hg (fun r e => (hr r e).2), h3⟩)
  ?assign ?body ?done ?stop
 case assign =>
  rintro l pre x W K ⟨⟨v, hv, hrow, -⟩, hB1⟩ hK
  unfold Ent.val
  gi_wp2
  exact hK _ _ ((KeepsOthers.alloc _ _).from _) ((Below.refl _ W).alloc hB1.size _) ⟨⟨v, hv.alloc _, hrow.alloc _, trivial⟩, hB1.alloc hB1.size _⟩ ⟨W.heap.size, hv.lt, Has.new W _ _, rfl⟩
 case body =>
  rintro l pre x a' W hl ⟨r, hr⟩ ⟨⟨v, hv, hrow, -⟩, hB1⟩ ⟨Bx, hBx, hX, rfl⟩ hlt
  have hc := hv.cell
  unfold Ent.val
  have x0 : W.cell? ⟨Bx, 0, none⟩ = some (.int .i64 ((x.1.seq : Nat) : Int)) := hX.cell 0
  have x1 : W.cell? ⟨Bx, 1, none⟩ = some (.string x.1.key) := hX.cell 1
  have x2 : W.cell? ⟨Bx, 2, none⟩ = some (.bool x.1.del) := hX.cell 2
  have x3 : W.cell? ⟨Bx, 3, none⟩ = some (.int .i64 ((x.1.slot : Nat) : Int)) := hX.cell 3
  have x4 : W.cell? ⟨Bx, 4, none⟩ = some (.int .i64 ((x.1.off : Nat) : Int)) := hX.cell 4
  have x5 : W.cell? ⟨Bx, 5, none⟩ = some (.int .i64 ((x.1.size : Nat) : Int)) := hX.cell 5
  gi_wp2_with (gi_at_builtin; refine wpListIn_append_own _ rfl _ _ 33 rfl w.heap.size 47 i0 (.agg #[.int .i64 0, .string ⟨#[]⟩, .bool false, .int .i64 0, .int .i64 0, .int .i64 0]) 6 56 Tryz.underlying33 hi0 hz0 hz1 hz2 rfl (by decide) _ _ _ rfl (hrow.alloc _) ⟨W.heap.size, 0, none⟩ 1 1 x.1.cells rfl rfl (ent_news W x.1 _) (ent_one x.1) (by unfold maxLen; omega) (by omega) (by have := hB1.size; simp; omega) ?_; intro v' w1 hown' hgrow _; obtain ⟨g', cap', rfl⟩ := ownsRow_succ hown'; obtain ⟨hv1, hv2, hr2, hk2, hb2⟩ := hv.appended (by decide) hrow hB1.size (Nat.le_refl _) hown' hgrow; have hc1 := hv1.cell; have hf1 := hv1.frozen)
  exact ⟨hk2.from _, hb2, ⟨_, hv2, by rw [List.map_append, rowOf_append, List.length_append]; simpa [rowOf] using hr2, trivial⟩, hB1.trans hb2⟩
 case done =>
  rintro D ys W hD rfl ⟨⟨v, hv, hrow, -⟩, hB⟩ hK
  have hc := hv.cell
  go_wp2
  refine ⟨by simp, .inl ⟨_, _, rfl, run_takeDeferred hK, ?_⟩⟩
  have hrow' := ownsRow_putObj hrow (.deferred none) hK rfl
  rw [hz, hzl] at hrow'
  exact ⟨_, results_tmp rfl _ _ _, v, rfl, own_zero hrow', old_of_below (hB.trans (belowK_b (w := w) (Nat.le_refl _) W D _ _ (by omega) hK rfl rfl)), own_base hrow'⟩
 case stop =>
  rintro D c pre W _ _ h _
  exact h.elim
end Go.M
namespace Go.M
open Go.Proofs Go.RowKit
def SeqG {α : Type} (F : Fence) (n : Nat) (P : Program) (g : Nat) (lb : Array Value) (encs : α → Array Value) (G : List α → World → Prop) (ok : List α → α → Prop) (S : List α → Prop) (w : World) : Prop :=
 ∀ (l : Nat) (J Jx : List α → World → Prop) (W : World), Old w W → AbidesFrom W.heap.size J → AbidesFrom W.heap.size Jx → (∀ pre V, J pre V → G pre V) →
  (∀ pre x V, J pre V → ok pre x → YieldAt F (n - 1) P l (encs x) V fun e V' => (e = .returned (.bool true) ∧ J (pre ++ [x]) V') ∨ (e = .returned (.bool false) ∧ Jx (pre ++ [x]) V')) →
  J [] W → CallsIn F n P g (#[.func (.yield l) #[] #[]] ++ lb) W fun e V => (∃ v, e = .returned v) ∧ ((∃ xs, S xs ∧ J xs V) ∨ ∃ pre, Jx pre V)
def Bk (b : Nat) (r : Loop) (W : World) : Prop := W.heap[b]? = some (.deferred (some [])) ∧ W.heap[b + 1]? = some (.loop r)
theorem Bk.far {b B : Nat} {r : Loop} {W W' : World} {row : Option Nat} (h : Bk b r W) (hg : W.grownBy W' row) (hB : b + 1 < B) (hr : ∀ k, row = some k → B ≤ k) : Bk b r W' := by
 have l1 := (Array.getElem?_eq_some_iff.1 h.2).1
 refine ⟨(hg.block b (by omega) (fun e => ?_)).trans h.1, (hg.block (b + 1) l1 (fun e => ?_)).trans h.2⟩
 ·have := hr b e.symm; omega
 ·have := hr (b + 1) e.symm; omega
theorem Bk.put {b : Nat} {r : Loop} {W : World} (h : Bk b r W) (r' : Loop) : Bk b r' (W.putObj (b + 1) (.loop r')) :=
 ⟨(World.putObj_heap_other (by omega)).trans h.1, World.putObj_heap_same (Array.getElem?_eq_some_iff.1 h.2).1⟩
theorem keepsFrom_upd {F : Nat → Prop} {B : Nat} {W W' : World} (h : Upd F W W') (hF : ∀ b, F b → b < B) : KeepsFrom B W W' :=
 ⟨h.size, fun k o hB ho _ => (h.keep k (Array.getElem?_eq_some_iff.1 ho).1 (fun hf => by have := hF k hf; omega)).trans ho⟩
theorem range_told {α : Type} {F : Fence} {n : Nat} {P : Program} {g : Operand} {ps : Array Tmp} {assign body : Code} {Q : Exit → Act → World → Prop} {a : Act} {w : World} (hro : F.round = none) (h1 : 1 ≤ n) {gf : Nat} {lb : Array Value}
 (hg : a.eval g = .func (.func gf) #[] lb) (hF : F.fn gf) (eg : ∀ args w, (callFunc gf args).run P w = .ok (.enter gf args) w) {encs : α → Array Value} (hps : ∀ x, (encs x).size = ps.size)
 {G : List α → World → Prop} {ok : List α → α → Prop} {S : List α → Prop} (hseq : SeqG F (n - 1) P gf lb encs G ok S w)
 (I : List α → World → Prop) (Ix : Code → World → Prop) (hI : OwnFrom w.heap.size I) (hIx : ∀ c, OwnFrom w.heap.size (fun (_ : Unit) => Ix c)) (h0 : I [] w) (hG : ∀ pre V, I pre V → G pre V) (a1 : α → Act)
 (hassign : ∀ (l : Nat) (x : α) (V : World) (K : Act → World → Prop), K (a1 x) V → assign.wpIn (F.inRound l) (n - 1 - 1) P (Exit.then K (fun _ _ _ => False)) { tmps := (ps.zip (encs x)).foldl (fun t (p, v) => t.setIfInBounds p v) a.tmps, defers := [] } V)
 (hbody : ∀ (l : Nat) (pre : List α) (x : α) (V : World), w.heap.size ≤ l → I pre V → ok pre x → body.wpIn (F.inRound l) (n - 1 - 1) P (ownPostG w.heap.size (fun _ _ => True) I (fun c _ => Ix c) (pre ++ [x]) V) (a1 x) V)
 (hdone : ∀ (D : Nat) (xs : List α) (V : World), w.heap.size ≤ D → S xs → I xs V → V.heap[D]? = some (.deferred (some [])) → Q .normal { a with defers := { target := .collected D, args := #[] } :: a.defers } V)
 (hstop : ∀ (D : Nat) (c : Code) (V : World), w.heap.size ≤ D → Ix c V → V.heap[D]? = some (.deferred (some [])) → c.wpIn F n P Q { a with defers := { target := .collected D, args := #[] } :: a.defers } V) :
 (Code.rangeFunc g ps assign body).wpIn F n P Q a w := by
 refine wpIn_rangeFunc fun fn hfn => ?_
 rw [hro]
 obtain ⟨b, hb⟩ : ∃ b, w.heap.size = b := ⟨_, rfl⟩
 obtain ⟨r0, hr0⟩ : ∃ r0 : Loop, r0 = { state := .ready, pending := none, fn := fn, tmps := a.tmps, params := ps, assign := assign, body := body, defers := b } := ⟨_, rfl⟩
 obtain ⟨V1, hV1⟩ : ∃ V1, (w.alloc (.deferred (some []))).alloc (.loop r0) = V1 := ⟨_, rfl⟩
 have hz : V1.heap.size = b + 2 := by rw [← hV1, ← hb]; simp
 have U1 : Old w V1 := by rw [← hV1]; exact ((Upd.refl _ w).alloc _).alloc _
 have B1 : Bk b r0 V1 := by
  rw [← hV1]
  constructor
  ·rw [← hb]; exact (Below.heap_alloc _ _ _ (by simp)).trans (World.alloc_heap_new w _)
  ·have := World.alloc_heap_new (w.alloc (.deferred (some []))) (.loop r0)
   rwa [World.size_alloc, hb] at this
 have I1 : I [] V1 := by rw [← hV1]; exact hI.alloc _ (hI.alloc _ h0)
 refine ⟨b + 1, [{ target := .collected b, args := #[] }], V1, { target := .fn (.func gf) lb, args := #[.func (.yield (b + 1)) #[] #[]] }, V1, gf, #[.func (.yield (b + 1)) #[] #[]] ++ lb, V1, ?_, ?_, ?_, ?_, fun _ => h1, ?_⟩
 ·have := run_enterLoop_outer (P := P) (w := w) fn a.tmps ps assign body
  rw [hb] at this
  rw [this, ← hV1, hr0]
 ·simp only [resolve, hg]
  simp [go_sem]
 ·intro f' hf'
  simp [Target.leads] at hf'
  subst hf'
  exact hF
 ·simp [invoke, go_sem, eg]
 have row : ∀ {A : World} {r : Option Nat}, (∀ k, r = some k → V1.heap.size ≤ k ∧ ∃ o : Obj, A.heap[k]? = some o ∧ o.isWalk = true) → ∀ k, r = some k → w.heap.size ≤ k ∧ ∃ o : Obj, A.heap[k]? = some o ∧ o.isCells = false := fun h k e => by
  obtain ⟨h2, o, ho, hw⟩ := h k e
  exact ⟨by omega, o, ho, Obj.not_cells_of_walk hw⟩
 refine (hseq (b + 1) (fun pre V => I pre V ∧ Bk b r0 V) (fun _ V => ∃ c, Ix c V ∧ Bk b { r0 with state := .done, pending := some c } V) V1 U1 ?_ ?_ (fun pre V h => hG pre V h.1) ?_ ⟨I1, B1⟩).mono ?_
 ·exact fun s A A' r h hgr hr => ⟨hI s A A' r h.1 hgr (row hr), h.2.far hgr (B := V1.heap.size) (by omega) (fun k e => (hr k e).1)⟩
 ·rintro s A A' r ⟨c, h1, h2⟩ hgr hr
  exact ⟨c, hIx c () A A' r h1 hgr (row hr), h2.far hgr (B := V1.heap.size) (by omega) (fun k e => (hr k e).1)⟩
 ·rintro pre x V ⟨hi, hk⟩ hok
  have hy := run_yield (P := P) (args := encs x) hk.2 (by rw [hr0]; exact hps x)
  rw [hr0] at hy
  refine ⟨fn, _, assign, body, hy, roundIn_of_wpIn hfn (hassign _ x V _ ?_)⟩
  refine ⟨_, run_beginRound hk.2 (by rw [hr0]), ?_⟩
  have hl : ∃ o : Obj, V.heap[b + 1]? = some o ∧ o.isCells = false := ⟨_, hk.2, rfl⟩
  have hk2 := hk.put { r0 with state := .busy }
  have hi2 := hI.putObj (s := pre) (.loop { r0 with state := .busy }) hi (by omega) hk.2 rfl
  have ends : ∀ (j : Option Code) (V3 : World), KeepsFrom w.heap.size (V.putObj (b + 1) (.loop { r0 with state := .busy })) V3 → (Instr.endRound (b + 1) j).run P V3 = .ok (.bool j.isNone) (V3.putObj (b + 1) (.loop { r0 with state := if j.isNone then .ready else .done, pending := j })) ∧ Bk b { r0 with state := .busy } V3 := fun j V3 k3 => by
   have e1 := k3.same _ _ (by omega) hk2.1 rfl
   have e2 := k3.same _ _ (by omega) hk2.2 rfl
   have e3 := run_endRound (P := P) j e2
   exact ⟨e3, e1, e2⟩
  refine wpIn_mono (hbody _ pre x _ (by omega) hi2 hok) ?_
  intro e a3 V3 hp
  have stop : ∀ c, KeepsFrom w.heap.size (V.putObj (b + 1) (.loop { r0 with state := .busy })) V3 ∧ Ix c V3 → ∃ v V4, (Instr.endRound (b + 1) (some c)).run P V3 = .ok v V4 ∧ ((Ending.returned v = .returned (.bool true) ∧ I (pre ++ [x]) V4 ∧ Bk b r0 V4) ∨ (Ending.returned v = .returned (.bool false) ∧ ∃ c, Ix c V4 ∧ Bk b { r0 with state := .done, pending := some c } V4)) := fun c h => by
   obtain ⟨e1, e2⟩ := ends (some c) V3 h.1
   exact ⟨_, _, e1, .inr ⟨rfl, c, (hIx c).putObj (s := ()) _ h.2 (by omega) e2.2 rfl, by simpa using e2.put _⟩⟩
  cases e with
  | normal =>
   obtain ⟨k3, -, i3⟩ := hp
   obtain ⟨e1, e2⟩ := ends none V3 k3
   refine ⟨_, _, e1, .inl ⟨rfl, hI.putObj (s := pre ++ [x]) _ i3 (by omega) e2.2 rfl, ?_⟩⟩
   have := e2.put r0
   rw [hr0] at this ⊢
   exact this
  | ret => exact stop _ hp
  | exit id => exact stop _ hp
  | goto t => exact stop _ hp
  | panic ch => exact hp.elim
  | outgrown => exact hp.elim
 ·rintro e V2 ⟨⟨v, rfl⟩, ⟨xs, hS, hi, hk⟩ | ⟨pre, c, hc, hk⟩⟩
  ·have := run_endLoop (P := P) hk.2 (by rw [hr0]; simp)
   rw [show r0.pending = none by rw [hr0]] at this
   exact ⟨none, _, this, hdone b xs _ (by omega) hS (hI.putObj (s := xs) _ hi (by omega) hk.2 rfl) (hk.put _).1⟩
  ·have := run_endLoop (P := P) hk.2 (by simp)
   exact ⟨some c, _, this, hstop b c _ (by omega) ((hIx c).putObj (s := ()) _ hc (by omega) hk.2 rfl) (hk.put _).1⟩
end Go.M
