/- Walks 9. -/
import Derived.Test.YtjadmbkmlehfdaaGreatDoorProg
import Derived.Test.YtjadmbkmlehfdaaGreatDoorK7
import Derived.Test.YtjadmbkmlehfdaaGreatDoorK5
import Derived.Test.YtjadmbkmlehfdaaGreatDoorK8
import Derived.RegionIn
set_option linter.unusedVariables false
set_option linter.unusedSimpArgs false
set_option maxRecDepth 100000
namespace Go.M
open Go.Proofs Go.RowKit Go.Shelf
attribute [local go_sem] Oper.semAt_some
theorem below_of_old {w w' : World} (h : Old w w') : Below w.heap.size w w' := ⟨h.os, h.tape, h.out, h.size, fun b hb => h.keep b hb (fun x => x)⟩
theorem of_stops {q : Ent → Prop} (n : Nat) (hn : 1 ≤ n) (PX PK X O S m c n₀ mn : Nat) (mv : Value) (ky : ByteArray) (key : Nat → ByteArray) (val : Nat → Value) (w : World) (hn0 : n₀ ≤ w.heap.size) (hPX : w.cell? ⟨PX, 0, none⟩ = some (.pointer (some ⟨X, 0, none⟩))) (hPK : w.cell? ⟨PK, 0, none⟩ = some (.string ky))
 (hX0 : w.cell? ⟨X, 0, none⟩ = some (.pointer (some ⟨O, 0, none⟩))) (hX1 : w.cell? ⟨X, 1, none⟩ = some (.slice (some ⟨S, 0, none⟩) m c)) (hm : 0 < m) (hM : OMap w O mv mn key val)
 (hE : ∀ r, r < mn → ∃ zs : List {x : Ent // q x}, zs.length ≤ 500 ∧ EntsB n₀ w (val r) zs) :
 SeqStopsK Fence.wide n Tryz.prog 214 #[.pointer (some ⟨PX, 0, none⟩), .pointer (some ⟨PK, 0, none⟩)] (fun x : {x : Ent // q x} => #[x.1.val]) (Below n₀) (fun ys => True) (fun pre => True) 1000 w := fun l J Jx W hW hJ hJx hY h0 => by
 have b1 := World.block_lt_of_cell? w _ hPX
 have b2 := World.block_lt_of_cell? w _ hPK
 have b3 := World.block_lt_of_cell? w _ hX1
 refine callsIn_wide.2 ((of_iter n hn l PX PK X O S m c n₀ mv ky key val J Jx W hJ (Nat.le_trans hn0 hW.size) ((hW.cell b1).trans hPX) ((hW.cell b2).trans hPK) ((hW.cell (p := ⟨X, 0, none⟩) b3).trans hX0) ((hW.cell b3).trans hX1) hm mn (hM.old (old_of_below hW)) (fun r hr => by obtain ⟨zs, h1, h2⟩ := hE r hr; exact ⟨zs, h1, h2.below (hW.mono hn0)⟩) (fun N hN pre x W1 h1 h2 => hY pre x W1 h1 (by omega)) h0).mono ?_)
 rintro e W' ⟨h1, ⟨ys, h2⟩ | ⟨pre, h2⟩⟩
 ·exact ⟨h1, .inl ⟨ys, trivial, h2⟩⟩
 ·exact ⟨h1, .inr ⟨pre, trivial, h2⟩⟩
theorem EntsB.back {q : Ent → Prop} {A B : World} (h : Old A B) {sv : Value} {zs : List {x : Ent // q x}} : EntsB A.heap.size B sv zs → EntsB A.heap.size A sv zs
 | .inl e => .inl e
 | .inr ⟨b, cap, e, hb, hc⟩ => .inr ⟨b, cap, e, hb, fun i e he j u hj => by rw [← h.cell (a := ⟨b, i * 6 + j, none⟩) hb (fun x => x)]; exact hc i e he j u hj⟩
theorem EntsB.upd {q : Ent → Prop} {n₀ : Nat} {G : Nat → Prop} {A B : World} (h : Upd G A B) {sv : Value} {zs : List {x : Ent // q x}} (hg : ∀ b, sv.ownBlock = some b → ¬ G b) : EntsB n₀ A sv zs → EntsB n₀ B sv zs
 | .inl e => .inl e
 | .inr ⟨b, cap, e, hb, hc⟩ => .inr ⟨b, cap, e, hb, fun i e' he j u hj => h.cellOf (hc i e' he j u hj) (hg b (by rw [e]; rfl))⟩
structure AddApart (X O S mn : Nat) (mv sv : Value) (val : Nat → Value) : Prop where
 XS : X ≠ S
 XO : X ≠ O
 SO : S ≠ O
 sX : sv.ownBlock ≠ some X
 sS : sv.ownBlock ≠ some S
 sO : sv.ownBlock ≠ some O
 mX : mv.ownBlock ≠ some X
 mS : mv.ownBlock ≠ some S
 mO : mv.ownBlock ≠ some O
 ms : ∀ b, mv.ownBlock = some b → sv.ownBlock ≠ some b
 kS : ∀ r, r < mn → (val r).ownBlock ≠ some S
 kO : ∀ r, r < mn → (val r).ownBlock ≠ some O
 ks : ∀ r, r < mn → ∀ b, (val r).ownBlock = some b → sv.ownBlock ≠ some b
 km : ∀ r, r < mn → ∀ b, (val r).ownBlock = some b → mv.ownBlock ≠ some b
def Fit (e x : Ent) : Prop := x.seq = e.seq → x.key = e.key ∧ x.del = e.del ∧ x.size = e.size ∧ x.slot ≠ e.slot
theorem rowOf_take (r : Nat) (zs : List Ent) : rowOf (zs.take r) = (rowOf zs).take (r * 6) := by
 induction zs generalizing r with
 | nil => simp [rowOf]
 | cons z zs ih =>
  cases r with
  | zero => simp [rowOf]
  | succ r =>
   have := ih r
   simp only [rowOf, List.take_succ_cons, List.flatMap_cons] at this ⊢
   rw [this, show (r + 1) * 6 = z.cells.length + r * 6 by simp [Ent.cells]; omega, List.take_length_add_append]
theorem rowOf_drop (r : Nat) (zs : List Ent) : rowOf (zs.drop r) = (rowOf zs).drop (r * 6) := by
 induction zs generalizing r with
 | nil => simp [rowOf]
 | cons z zs ih =>
  cases r with
  | zero => simp [rowOf]
  | succ r =>
   have := ih r
   simp only [rowOf, List.drop_succ_cons, List.flatMap_cons] at this ⊢
   rw [this, show (r + 1) * 6 = z.cells.length + r * 6 by simp [Ent.cells]; omega, List.drop_length_add_append]
theorem rowOf_ins (r : Nat) (zs : List Ent) (e : Ent) : rowOf (zs.take r ++ e :: zs.drop r) = (rowOf zs).take (r * 6) ++ e.cells ++ (rowOf zs).drop (r * 6) := by
 rw [← rowOf_take, ← rowOf_drop]
 simp [rowOf]
def Place (e : Ent) (r : Nat) (zs : List Ent) : Prop := r ≤ zs.length ∧ ∀ i x, zs[i]? = some x → (x.before e = true ↔ i < r)
def AddPost (Q : Nat → List Ent → Prop) (key : Nat → ByteArray) (L : Nat) (w : World) (O S mn : Nat) (tS : TypeId) (mv sv : Value) (val : Nat → Value) (cS : Array Value) (es : List Ent) (e : Ent) (en : Ending) (w' : World) : Prop :=
 en = .returned (.int .i64 0) ∧ ∃ (sv' mv' v5 : Value) (mn' : Nat) (key' : Nat → ByteArray) (val' : Nat → Value) (zs : List Ent) (rk : Nat),
  Upd (fun b => b = O ∨ b = S ∨ sv.ownBlock = some b ∨ mv.ownBlock = some b) w w' ∧ Has w' S tS (cS.setIfInBounds e.slot sv') ∧ w'.ownsRow 0 47 6 sv' (es.length + 1) (rowOf (es ++ [e])) ∧
  (∀ b, sv'.ownBlock = some b → sv.ownBlock = some b ∨ w.heap.size ≤ b) ∧ OMap w' O mv' mn' key' val' ∧ (∀ b, mv'.ownBlock = some b → mv.ownBlock = some b ∨ w.heap.size ≤ b) ∧ mn' ≤ mn + 1 ∧
  (w'.ownsRow 0 47 6 v5 (zs.length + 1) (rowOf (zs.take rk ++ e :: zs.drop rk)) ∧ zs.length ≤ L ∧ (Place e rk zs ∧ ∀ x ∈ zs, Fit e x) ∧ ∀ b, v5.ownBlock = some b → w.heap.size ≤ b) ∧
  (∀ b, sv'.ownBlock = some b → v5.ownBlock ≠ some b ∧ mv'.ownBlock ≠ some b) ∧ (∀ b, mv'.ownBlock = some b → v5.ownBlock ≠ some b) ∧
  SetDesc mn e.key v5 key val mn' key' val' ∧ ((zs = [] ∧ ∀ r, r < mn → key r ≠ e.key) ∨ ∃ r, r < mn ∧ key r = e.key ∧ Q r zs)
structure AddSt (w W : World) (H D : Nat) (cE : Array Value) : Prop where
 h : Boxed W H 4 (.bool false)
 e : Has W w.heap.size 47 cE
 r : Has W (w.heap.size + 1) 43 #[.int .i64 0]
 k : W.heap[D]? = some (.deferred (some []))
theorem AddSt.upd {F : Nat → Prop} {w W W' : World} {H D : Nat} {cE : Array Value} (s : AddSt w W H D cE) (U : Upd F W W') (h1 : ¬ F H) (h2 : ¬ F w.heap.size) (h3 : ¬ F (w.heap.size + 1)) (h4 : ¬ F D) : AddSt w W' H D cE :=
 ⟨U.has (t := 4) s.h h1, U.has s.e h2, U.has s.r h3, by rw [U.keep D (Array.getElem?_eq_some_iff.1 s.k).1 h4]; exact s.k⟩
theorem AddSt.old {w W W' : World} {H D : Nat} {cE : Array Value} (s : AddSt w W H D cE) (U : Old W W') : AddSt w W' H D cE := s.upd U (fun x => x) (fun x => x) (fun x => x) (fun x => x)
theorem setc {w : World} {B S j i : Nat} {v x : Value} (h : B ≠ S) (hc : w.cell? ⟨B, i, none⟩ = some x) : (w.setCell ⟨S, j, none⟩ v).cell? ⟨B, i, none⟩ = some x :=
 ((Upd.refl (fun b => b = S) w).setCell ⟨S, j, none⟩ v (.inl rfl)).cellOf hc h
theorem EntsB.at {q : Ent → Prop} {n₀ : Nat} {W : World} {sv : Value} {zs : List {x : Ent // q x}} (h : EntsB n₀ W sv zs) : EntsAt W sv (zs.map (·.1)) := by
 rcases h with ⟨h1, h2⟩ | ⟨b, cap, h1, h2, h3⟩
 ·exact .inl ⟨h1, by rw [h2]; rfl⟩
 ·refine .inr ⟨b, cap, by rw [List.length_map]; exact h1, fun i e hi j u hj => ?_⟩
  rw [List.getElem?_map] at hi
  obtain ⟨x, hx, rfl⟩ := Option.map_eq_some_iff.1 hi
  exact h3 i x hx j u hj
theorem rowOf_at {es : List Ent} {j : Nat} {u : Value} (h : (rowOf es)[j]? = some u) : ∃ e, es[j / 6]? = some e ∧ e.cells[j % 6]? = some u := by
 have hl : j < es.length * 6 := by rw [← rowOf_length]; exact (List.getElem?_eq_some_iff.1 h).1
 have h1 : j / 6 < es.length := by omega
 refine ⟨es[j / 6], List.getElem?_eq_getElem h1, ?_⟩
 have h2 : j % 6 < (es[j / 6]).cells.length := by show j % 6 < 6; omega
 have h3 := rowOf_cell (List.getElem?_eq_getElem h1) (List.getElem?_eq_getElem h2)
 rw [show j / 6 * 6 + j % 6 = j by omega, h] at h3
 rw [List.getElem?_eq_getElem h2, ← h3]
theorem eclone_any {w : World} {v : Value} {es : List Ent} (h : EntsAt w v es) (hn : es.length ≤ 1000) :
 Calls Tryz.prog 83 #[v] w (NewRow w 47 6 es.length (rowOf es)) := by
 rcases h with ⟨rfl, rfl⟩ | ⟨g, c, rfl, h⟩
 ·exact eclone_nil
 ·refine eclone_some (rowOf_length es) (fun j u hj => ?_) rowOf_one hn
  obtain ⟨e, h1, h2⟩ := rowOf_at hj
  have := h _ e h1 _ u h2
  rw [show (⟨g, 0, none⟩ : Addr).add j = ⟨g, j, none⟩ from by unfold Addr.add; split <;> simp_all]
  rwa [show j / 6 * 6 + j % 6 = j by omega] at this
theorem OMap.upd {G : Nat → Prop} {w w' : World} {O n : Nat} {mv : Value} {key : Nat → ByteArray} {val : Nat → Value} (h : OMap w O mv n key val) (U : Upd G w w') (hO : ¬ G O) (hm : ∀ b, mv.ownBlock = some b → ¬ G b) : OMap w' O mv n key val := by
 obtain ⟨⟨t, h1⟩, own, hs, hf⟩ := h
 exact ⟨⟨t, U.has h1 hO⟩, Upd.own U own hm, hs, hf⟩
abbrev DCells (b X O : Nat) (e : Ent) (x : World) : Prop := x.cell? ⟨X, 0, none⟩ = some (.pointer (some ⟨O, 0, none⟩)) ∧ x.cell? ⟨b, 0, none⟩ = some (.int .i64 ((e.seq : Nat) : Int)) ∧ x.cell? ⟨b, 1, none⟩ = some (.string e.key) ∧ x.cell? ⟨b, 2, none⟩ = some (.bool e.del) ∧ x.cell? ⟨b, 3, none⟩ = some (.int .i64 ((e.slot : Nat) : Int)) ∧ x.cell? ⟨b, 4, none⟩ = some (.int .i64 ((e.off : Nat) : Int)) ∧ x.cell? ⟨b, 5, none⟩ = some (.int .i64 ((e.size : Nat) : Int))
theorem DCells.upd {G : Nat → Prop} {w w' : World} {b X O : Nat} {e : Ent} (h : DCells b X O e w) (U : Upd G w w') (hX : ¬ G X) (hb : ¬ G b) : DCells b X O e w' :=
 ⟨U.cellOf h.1 hX, U.cellOf h.2.1 hb, U.cellOf h.2.2.1 hb, U.cellOf h.2.2.2.1 hb, U.cellOf h.2.2.2.2.1 hb, U.cellOf h.2.2.2.2.2.1 hb, U.cellOf h.2.2.2.2.2.2 hb⟩
theorem own_has' {w : World} {e : TypeId} {base size n b : Nat} {v : Value} {xs : List Value} (own : w.ownsRow base e size v n xs) (hb : v.ownBlock = some b) : ∃ cur, Has w b e cur := by
 rcases own.2 with ⟨h1, h2⟩ | ⟨g, c, cur, h1, _, h3, _⟩
 ·rw [h1] at hb; cases hb
 ·rw [h1] at hb
  simp [Value.ownBlock] at hb
  subst hb
  exact ⟨cur, h3⟩
theorem Has.type {w : World} {b : Nat} {t t' : TypeId} {c c' : Array Value} (h : Has w b t c) (h' : Has w b t' c') : t = t' := by
 unfold Has at h h'
 rw [h] at h'
 injection h' with h'
 injection h' with _ h' _
theorem Upd.putObj {F : Nat → Prop} {w w' : World} (h : Upd F w w') (D : Nat) (o : Obj) (hD : F D ∨ w.heap.size ≤ D) : Upd F w (w'.putObj D o) :=
 h.grown (grownBy_putObj' w' D o) (fun k e => by cases e; exact hD)
theorem loop_end {w W : World} {H B R : Nat} {tB tE tR : TypeId} {cE cR : Array Value} (h : Boxed W H tB (.bool false)) (he : Has W B tE cE) (hr : Has W R tR cR) (hB : Below w.heap.size w W) (h1 : w.heap.size ≤ H) (hBH : H ≠ B) (hRH : H ≠ R) (o : Obj) (N : Nat) :
 KeepsFrom N W (((W.setCell ⟨H, 0, none⟩ (.bool false)).alloc o).drew) ∧ Below w.heap.size W (((W.setCell ⟨H, 0, none⟩ (.bool false)).alloc o).drew) ∧
  ((Boxed (((W.setCell ⟨H, 0, none⟩ (.bool false)).alloc o).drew) H tB (.bool false) ∧ Has (((W.setCell ⟨H, 0, none⟩ (.bool false)).alloc o).drew) B tE cE) ∧ Has (((W.setCell ⟨H, 0, none⟩ (.bool false)).alloc o).drew) R tR cR) ∧ Below w.heap.size w (((W.setCell ⟨H, 0, none⟩ (.bool false)).alloc o).drew) := by
 have b1 : Below w.heap.size W (((W.setCell ⟨H, 0, none⟩ (.bool false)).alloc o).drew) := (((Below.refl w.heap.size W).setCell (p := ⟨H, 0, none⟩) h1 _).alloc (by simpa using hB.size) _).drew
 exact ⟨(((KeepsOthers.setCell W _ _).trans (KeepsOthers.alloc _ _)).trans (KeepsOthers.drew _)).from _, b1, ⟨⟨((h.set _).alloc _), ((he.setOther (by exact hBH) _).alloc _).drew⟩, ((hr.setOther (by exact hRH) _).alloc _).drew⟩, hB.trans b1⟩
set_option maxHeartbeats 4000000 in
theorem iadd {Q : Nat → List Ent → Prop} {w : World} {X O S m c mn L : Nat} {tX tS : TypeId} {mv sv : Value} {key : Nat → ByteArray} {val : Nat → Value} {cS : Array Value} {es : List Ent} {e : Ent} (hL : L ≤ 500)
 (hX : Has w X tX #[.pointer (some ⟨O, 0, none⟩), .slice (some ⟨S, 0, none⟩) m c]) (hS : Has w S tS cS) (hSv : cS[e.slot]? = some sv) (him : e.slot < m) (hm : m ≤ 10)
 (hM : OMap w O mv mn key val) (hE : ∀ r, r < mn → ∃ zs : List {x : Ent // Fit e x}, zs.length ≤ L ∧ EntsB w.heap.size w (val r) zs ∧ Q r (zs.map (·.1))) (hsrt : ∀ r, r < mn → ∀ zs, Q r zs → zs.Pairwise (fun a b => b.before e = true → a.before e = true))
 (own : w.ownsRow 0 47 6 sv es.length (rowOf es)) (hl : es.length ≤ 500) (hes : ∀ x ∈ es, x.off + x.size ≤ e.off ∧ x.off < e.off) (hok : EntOk1 e) (hap : AddApart X O S mn mv sv val) (hmn : mn ≤ 500) :
 Calls Tryz.prog 64 #[.pointer (some ⟨X, 0, none⟩), e.val] w (AddPost Q key L w O S mn tS mv sv val cS es e) := by
 refine (callsIn_wide (n := 8)).1 ?_
 refine callsIn_of_wp_marks Tryz.func64 rfl trivial ?_ rfl
 simp only [Tryz.ntmps64, List.size_toArray, List.length_cons, List.length_nil, Nat.reduceAdd, Nat.reduceSub, Array.replicate_succ, Array.replicate_zero, List.push_toArray, List.append_toArray, List.nil_append, List.cons_append]
 refine wpIn_wide.2 ?_
 have x0 : w.cell? ⟨X, 0, none⟩ = some (.pointer (some ⟨O, 0, none⟩)) := hX.cell 0
 have x1 : w.cell? ⟨X, 1, none⟩ = some (.slice (some ⟨S, 0, none⟩) m c) := hX.cell 1
 have s0 : w.cell? ⟨S, e.slot, none⟩ = some sv := by rw [hS.cell]; exact hSv
 have HV := Lib.hid (fun w : World => evalid (w := w) hok)
 have g1 : ¬ ((e.slot : Int) < 0) := by omega
 have g2 : (e.slot : Int) < (m : Int) := by omega
 have g3 : ¬ ((m : Int) ≤ (e.slot : Int)) := by omega
 have g4 : (0 : Int) < (m : Int) := by omega
 have g5 : 0 < m := by omega
 have HM := Lib.hid hM
 have HE := Lib.hid hE
 have HSRT := Lib.hid hsrt
 clear hsrt
 have HES := Lib.hid hes
 have HOK := Lib.hid hok
 have HW := Lib.hid own
 have HX := Lib.hid hX
 have HS := Lib.hid hS
 have hXl := hX.lt
 have hSl := hS.lt
 clear hM hE hes hok own hX hS
 obtain ⟨seq, ky, del, slot, off, size⟩ := e
 unfold Ent.val at HV ⊢
 simp only at *
 have E : Hid (∀ w' : World, Old ((w.alloc (.cells #[.int .i64 ((seq : Nat) : Int), .string ky, .bool del, .int .i64 ((slot : Nat) : Int), .int .i64 ((off : Nat) : Int), .int .i64 ((size : Nat) : Int)] 47)).alloc (.cells #[.int .i64 0] 43)) w' →
  Has w' w.heap.size 47 #[.int .i64 ((seq : Nat) : Int), .string ky, .bool del, .int .i64 ((slot : Nat) : Int), .int .i64 ((off : Nat) : Int), .int .i64 ((size : Nat) : Int)] ∧ Has w' (w.heap.size + 1) 43 #[.int .i64 0] ∧ Old w w') :=
  fun w' U => ⟨U.has ((Has.new w _ _).alloc _), U.has (by have := Has.new (w.alloc (.cells #[.int .i64 ((seq : Nat) : Int), .string ky, .bool del, .int .i64 ((slot : Nat) : Int), .int .i64 ((off : Nat) : Int), .int .i64 ((size : Nat) : Int)] 47)) 43 #[.int .i64 0]; rwa [World.size_alloc] at this), (((Upd.refl _ w).alloc _).alloc _).trans U⟩
 go_wp2_with (first | (go_at_call 131; refine (HV.out _).mono ?_; rintro e1 w1 ⟨rfl, hO1⟩; obtain ⟨b1, r1, U1⟩ := E.out _ hO1; clear hO1; have y0 : w1.cell? ⟨X, 0, none⟩ = some (.pointer (some ⟨O, 0, none⟩)) := Old.cellOf' U1 x0; have b11 : w1.cell? ⟨w.heap.size, 1, none⟩ = some (.string ky) := b1.cell 1; have HB1 := Lib.hid b1; have HR1 := Lib.hid r1; have HU1 := Lib.hid U1; clear b1 r1 U1) | (go_at_call 90; fail) | go_in)
 have HG : Hid (Calls Tryz.prog 90 #[.pointer (some ⟨O, 0, none⟩), .string ky] w1.drew (GetEnts Q ky key L (fun x => Fit ⟨seq, ky, del, slot, off, size⟩ x) w.heap.size mn val w1.drew)) := get_ents (HM.out.old HU1.out.drew) (fun r hr => by obtain ⟨zs, h1, h2, h3⟩ := HE.out r hr; exact ⟨zs, h1, h2.old HU1.out.drew, h3⟩)
 go_region_held3 (fun x => x.cell? ⟨X, 0, none⟩ = some (.pointer (some ⟨O, 0, none⟩)) ∧ x.cell? ⟨w.heap.size, 1, none⟩ = some (.string ky))
  (first | go_keep | (exact ⟨Old.cellOf' hU2.drew (by simpa using y0), Old.cellOf' hU2 (by simpa using b11)⟩))
  (first | (go_at_call 90; refine HG.out.mono ?_; rintro e2 w2 ⟨a, sn, sc, gb, zs, rfl, hzl, hz, hU2, hor⟩))
 rename_i hHeld
 clear hHeld
 have b2 := hU2.has (HB1.out.drew)
 have r2 := hU2.has (HR1.out.drew)
 have U2 := HU1.out.drew.trans hU2
 clear hU2 HG HR1 HU1 HB1 y0 b11
 have y0 : w2.cell? ⟨X, 0, none⟩ = some (.pointer (some ⟨O, 0, none⟩)) := Old.cellOf' U2 x0
 have b21 : w2.cell? ⟨w.heap.size, 1, none⟩ = some (.string ky) := b2.cell 1
 have hbl : w.heap.size < w2.heap.size := b2.lt
 have HB2 := Lib.hid b2
 have HR2 := Lib.hid r2
 have HU2 := Lib.hid U2
 have HZ := Lib.hid (hz.back U2)
 have HOR := Lib.hid hor
 clear b2 r2 U2 hz hor
 go_wp2_with (first | go_in)
 have bH := ((Boxed.new w2 4 (.bool false)).alloc (.cells #[.pointer (some ⟨X, 0, none⟩)] 39)).alloc (.cells #[.string ky] 9)
 have bX := (Boxed.new (w2.alloc (.cells #[.bool false] 4)) 39 (.pointer (some ⟨X, 0, none⟩))).alloc (.cells #[.string ky] 9)
 have bK := Boxed.new ((w2.alloc (.cells #[.bool false] 4)).alloc (.cells #[.pointer (some ⟨X, 0, none⟩)] 39)) 9 (.string ky)
 have U3 : Old w (((w2.alloc (.cells #[.bool false] 4)).alloc (.cells #[.pointer (some ⟨X, 0, none⟩)] 39)).alloc (.cells #[.string ky] 9)) := ((HU2.out.alloc _).alloc _).alloc _
 have U23 : Old w2 (((w2.alloc (.cells #[.bool false] 4)).alloc (.cells #[.pointer (some ⟨X, 0, none⟩)] 39)).alloc (.cells #[.string ky] 9)) := (((Upd.refl _ w2).alloc _).alloc _).alloc _
 have hsz : (((w2.alloc (.cells #[.bool false] 4)).alloc (.cells #[.pointer (some ⟨X, 0, none⟩)] 39)).alloc (.cells #[.string ky] 9)).heap.size = w2.heap.size + 3 := by simp
 simp only [World.size_alloc] at bX bK
 obtain ⟨W0, hW0⟩ : ∃ W0, (((w2.alloc (.cells #[.bool false] 4)).alloc (.cells #[.pointer (some ⟨X, 0, none⟩)] 39)).alloc (.cells #[.string ky] 9)) = W0 := ⟨_, rfl⟩
 rw [hW0] at bH bX bK U3 U23 hsz ⊢
 clear hW0
 have b3 := U23.has HB2.out
 have r3 := U23.has HR2.out
 have hB0 : Below w.heap.size w W0 := below_of_old U3
 have hrl : w.heap.size + 1 < w2.heap.size := HR2.out.lt
 refine (wpIn_wide (n := 8)).1 ?_
 refine wpIn_rangeFunc_ownH rfl (by omega) (gf := 214) (lb := #[.pointer (some ⟨w2.heap.size + 1, 0, none⟩), .pointer (some ⟨w2.heap.size + 1 + 1, 0, none⟩)]) rfl trivial (enters_of Tryz.func214 (by kernel_rfl) rfl)
  (of_stops (q := fun x => Fit ⟨seq, ky, del, slot, off, size⟩ x) 7 (by omega) (w2.heap.size + 1) (w2.heap.size + 1 + 1) X O S m c w.heap.size mn mv ky key val W0 (by omega) bX.cell bK.cell (Old.cellOf' U3 x0) (Old.cellOf' U3 x1) g5 (HM.out.old U3) (fun r hr => by obtain ⟨zs, h1, h2, _⟩ := HE.out r hr; exact ⟨zs, by omega, h2.old U3⟩)) belowK_t (belowK_b (by omega)) (Below.refl _ _) (fun _ => rfl)
  (fun (pre : List {x : Ent // Fit ⟨seq, ky, del, slot, off, size⟩ x}) W => ((Boxed W w2.heap.size 4 (.bool false) ∧ Has W w.heap.size 47 #[.int .i64 ((seq : Nat) : Int), .string ky, .bool del, .int .i64 ((slot : Nat) : Int), .int .i64 ((off : Nat) : Int), .int .i64 ((size : Nat) : Int)]) ∧ Has W (w.heap.size + 1) 43 #[.int .i64 0]) ∧ Below w.heap.size w W)
  (fun _ _ _ => False)
  (OwnFrom.and (OwnFrom.and (OwnFrom.and (Own.from (boxed_own _ _ _) _) (Own.from (has_own _ _ (fun (_ : List {x : Ent // Fit ⟨seq, ky, del, slot, off, size⟩ x}) => #[.int .i64 ((seq : Nat) : Int), .string ky, .bool del, .int .i64 ((slot : Nat) : Int), .int .i64 ((off : Nat) : Int), .int .i64 ((size : Nat) : Int)])) _)) (Own.from (has_own _ _ (fun (_ : List {x : Ent // Fit ⟨seq, ky, del, slot, off, size⟩ x}) => #[.int .i64 0])) _)) (ownFrom_below (Nat.le_refl _) (by omega)))
  (fun _ _ _ _ _ hs _ _ => hs)
  ⟨⟨⟨bH, b3⟩, r3⟩, hB0⟩
  (fun x a' W => ∃ Bx, w2.heap.size < Bx ∧ Has W Bx 47 #[.int .i64 ((x.1.seq : Nat) : Int), .string x.1.key, .bool x.1.del, .int .i64 ((x.1.slot : Nat) : Int), .int .i64 ((x.1.off : Nat) : Int), .int .i64 ((x.1.size : Nat) : Int)] ∧ a' = { tmps := #[.pointer (some ⟨X, 0, none⟩), .agg #[.int .i64 ((seq : Nat) : Int), .string ky, .bool del, .int .i64 ((slot : Nat) : Int), .int .i64 ((off : Nat) : Int), .int .i64 ((size : Nat) : Int)], undef, .pointer (some ⟨w.heap.size, 0, none⟩), .pointer (some ⟨w.heap.size + 1, 0, none⟩), .slice a sn sc, .bool gb, .pointer (some ⟨w2.heap.size, 0, none⟩), .pointer (some ⟨Bx, 0, none⟩), undef, undef, undef, undef, undef, undef, .bool false, .pointer (some ⟨X, 0, none⟩), .bool true, .bool false, .bool false, .pointer (some ⟨X, 0, none⟩), .pointer (some ⟨w.heap.size, 3, none⟩), .int .i64 ((slot : Nat) : Int), .bool true, .bool false, .bool false, .agg #[.int .i64 ((seq : Nat) : Int), .string ky, .bool del, .int .i64 ((slot : Nat) : Int), .int .i64 ((off : Nat) : Int), .int .i64 ((size : Nat) : Int)], .bool true, .bool false, .tuple #[.slice a sn sc, .bool gb], .pointer (some ⟨X, 0, none⟩), .pointer (some ⟨X, 0, none⟩), .pointer (some ⟨X, 0, none⟩), .pointer (some ⟨O, 0, none⟩), .pointer (some ⟨w.heap.size, 1, none⟩), .string ky, .tuple #[.slice a sn sc, .bool gb], .slice a sn sc, .bool gb, .pointer (some ⟨X, 0, none⟩), .pointer (some ⟨w.heap.size, 1, none⟩), .string ky, .func (.func 214) #[] #[.pointer (some ⟨w2.heap.size + 1, 0, none⟩), .pointer (some ⟨w2.heap.size + 1 + 1, 0, none⟩)], x.1.val, undef, undef, undef, undef, undef, undef, undef, undef, undef, undef, undef, undef, undef, undef, undef, undef, undef, undef, undef, undef, undef, undef, undef, undef, undef, undef, undef, undef, undef, undef, undef, undef, undef, undef, undef, undef, undef, undef, undef, undef, undef, undef, undef, undef, undef, undef, undef, undef, undef, undef, undef, undef, undef, undef, undef, undef, undef, undef, undef, undef, undef, undef, undef, undef, undef, undef, undef, undef, undef, undef, undef, undef, undef, undef, undef, undef, undef, undef, undef, undef, undef, undef, undef, undef, undef, undef, undef, undef, undef, undef, undef, undef, undef, undef, undef, undef, undef, undef, undef, undef, undef, undef, undef, undef, undef, undef, undef, undef, undef, undef, undef, undef, undef, undef, undef, undef, undef, undef, undef, undef, undef, undef, undef, undef, undef, undef, undef, undef, undef, undef], defers := [] })
  (fun x a' _ X Y row hs hg hr => by obtain ⟨Bx, h1, h2, h3⟩ := hs; exact ⟨Bx, h1, has_own Bx _ (fun (_ : Unit) => #[.int .i64 ((x.1.seq : Nat) : Int), .string x.1.key, .bool x.1.del, .int .i64 ((x.1.slot : Nat) : Int), .int .i64 ((x.1.off : Nat) : Int), .int .i64 ((x.1.size : Nat) : Int)]) () X Y row h2 hg (fun r e => (hr r e).2), h3⟩)
  ?assign ?body ?done ?stop
 case assign =>
  rintro l pre x W K ⟨⟨⟨i1, i2⟩, i3⟩, hB1⟩ hK
  unfold Ent.val
  gi_wp2
  exact hK _ _ ((KeepsOthers.alloc _ _).from _) ((Below.refl _ W).alloc hB1.size _) ⟨⟨⟨i1.alloc _, i2.alloc _⟩, i3.alloc _⟩, hB1.alloc hB1.size _⟩ ⟨W.heap.size, i1.lt, Has.new W _ _, rfl⟩
 case body =>
  rintro l pre x a' W hl ⟨r, hr⟩ ⟨⟨⟨i1, i2⟩, i3⟩, hB1⟩ ⟨Bx, hBx, hXx, rfl⟩ hlt
  have p0 : W.cell? ⟨Bx, 0, none⟩ = some (.int .i64 ((x.1.seq : Nat) : Int)) := hXx.cell 0
  have p1 : W.cell? ⟨Bx, 1, none⟩ = some (.string x.1.key) := hXx.cell 1
  have p2 : W.cell? ⟨Bx, 2, none⟩ = some (.bool x.1.del) := hXx.cell 2
  have p3 : W.cell? ⟨Bx, 3, none⟩ = some (.int .i64 ((x.1.slot : Nat) : Int)) := hXx.cell 3
  have p4 : W.cell? ⟨Bx, 4, none⟩ = some (.int .i64 ((x.1.off : Nat) : Int)) := hXx.cell 4
  have p5 : W.cell? ⟨Bx, 5, none⟩ = some (.int .i64 ((x.1.size : Nat) : Int)) := hXx.cell 5
  have e0 : W.cell? ⟨w.heap.size, 0, none⟩ = some (.int .i64 ((seq : Nat) : Int)) := i2.cell 0
  have e3 : W.cell? ⟨w.heap.size, 3, none⟩ = some (.int .i64 ((slot : Nat) : Int)) := i2.cell 3
  have e4 : W.cell? ⟨w.heap.size, 4, none⟩ = some (.int .i64 ((off : Nat) : Int)) := i2.cell 4
  have hv := i1.cell
  have hvf := i1.frozen
  have hfit := x.2
  have q1 := hXx.lt
  have q2 := i2.lt
  have q3 := i1.lt
  have e1 : W.cell? ⟨w.heap.size, 1, none⟩ = some (.string ky) := i2.cell 1
  have e2 : W.cell? ⟨w.heap.size, 2, none⟩ = some (.bool del) := i2.cell 2
  have e5 : W.cell? ⟨w.heap.size, 5, none⟩ = some (.int .i64 ((size : Nat) : Int)) := i2.cell 5
  have Hi := Lib.hid (show Boxed W w2.heap.size 4 (.bool false) ∧ Has W w.heap.size 47 #[.int .i64 ((seq : Nat) : Int), .string ky, .bool del, .int .i64 ((slot : Nat) : Int), .int .i64 ((off : Nat) : Int), .int .i64 ((size : Nat) : Int)] ∧ Has W (w.heap.size + 1) 43 #[.int .i64 0] from ⟨i1, i2, i3⟩)
  clear i1 i2 i3 hXx
  unfold Ent.val
  by_cases hq : x.1.seq = seq
  ·obtain ⟨f1, f2, f3, f4⟩ := hfit hq
   simp only at f1 f2 f3 f4
   have hns : ((x.1.slot : Int) == (slot : Int)) = false := by rw [beq_eq_false_iff_ne]; omega
   rw [hq] at p0
   rw [f1] at p1
   rw [f2] at p2
   rw [f3] at p5
   clear hfit f1 f2 f3 f4
   gi_wp2
   gi_region
   all_goals gi_wp2
   all_goals exact loop_end Hi.out.1 Hi.out.2.1 Hi.out.2.2 hB1 (by omega) (by omega) (by omega) _ _
  ·have hne : ((x.1.seq : Int) == (seq : Int)) = false := by rw [beq_eq_false_iff_ne]; omega
   clear hfit e1 e2 e5
   gi_wp2
   gi_region
   all_goals gi_wp2
   all_goals exact loop_end Hi.out.1 Hi.out.2.1 Hi.out.2.2 hB1 (by omega) (by omega) (by omega) _ _
 case done =>
  rintro D ys W hD _ ⟨⟨⟨i1, i2⟩, i3⟩, hB⟩ hK
  obtain ⟨va, vc, rfl⟩ := own_slice HW.out
  have U := old_of_below hB
  have y0 : W.cell? ⟨X, 0, none⟩ = some (.pointer (some ⟨O, 0, none⟩)) := Old.cellOf' U x0
  have y1 : W.cell? ⟨X, 1, none⟩ = some (.slice (some ⟨S, 0, none⟩) m c) := Old.cellOf' U x1
  have y2 : W.cell? ⟨S, slot, none⟩ = some (.slice va es.length vc) := Old.cellOf' U s0
  have f1 : W.cell? ⟨w.heap.size, 1, none⟩ = some (.string ky) := i2.cell 1
  have f3 : W.cell? ⟨w.heap.size, 3, none⟩ = some (.int .i64 ((slot : Nat) : Int)) := i2.cell 3
  have f4 : W.cell? ⟨w.heap.size, 4, none⟩ = some (.int .i64 ((off : Nat) : Int)) := i2.cell 4
  have q1 := i1.lt
  have q2 := i2.lt
  have HBS := Lib.hid (bs_off_any (w := W.drew) (EntsAt.of_own (Upd.own U.drew HW.out (fun _ _ x => x))) (by omega) (fun x hx => (HES.out x hx).2))
  have Hi := Lib.hid (show AddSt w W w2.heap.size D _ from ⟨i1, i2, i3, hK⟩)
  have HU := Lib.hid U
  clear i1 i2 i3 hK U hB
  go_wp2
  go_region_held3 (fun x => x.cell? ⟨X, 1, none⟩ = some (.slice (some ⟨S, 0, none⟩) m c) ∧ x.cell? ⟨S, slot, none⟩ = some (.slice va es.length vc) ∧ x.cell? ⟨w.heap.size, 3, none⟩ = some (.int .i64 ((slot : Nat) : Int)) ∧ x.cell? ⟨w.heap.size, 4, none⟩ = some (.int .i64 ((off : Nat) : Int)))
   (first | go_keep | (exact ⟨Old.cellOf' hU3.drew (by simpa using y1), Old.cellOf' hU3 (by simpa using y2), Old.cellOf' hU3 (by simpa using f3), Old.cellOf' hU3 (by simpa using f4)⟩))
   (first | (go_at_call 133; refine HBS.out.mono ?_; rintro e3 w3 ⟨rfl, hU3⟩))
  rename_i hHeld
  clear hHeld
  have st3 := Hi.out.old ((Upd.refl (fun _ => False) W).drew.trans hU3)
  have U3 := HU.out.drew.trans hU3
  clear hU3 Hi HU HBS y0 y1 y2 f1 f3 f4 q1 q2
  have z1 : w3.cell? ⟨X, 1, none⟩ = some (.slice (some ⟨S, 0, none⟩) m c) := Old.cellOf' U3 x1
  have z2 : w3.cell? ⟨S, slot, none⟩ = some (.slice va es.length vc) := Old.cellOf' U3 s0
  have f0 : w3.cell? ⟨w.heap.size, 0, none⟩ = some (.int .i64 ((seq : Nat) : Int)) := st3.e.cell 0
  have f1 : w3.cell? ⟨w.heap.size, 1, none⟩ = some (.string ky) := st3.e.cell 1
  have f2 : w3.cell? ⟨w.heap.size, 2, none⟩ = some (.bool del) := st3.e.cell 2
  have f3 : w3.cell? ⟨w.heap.size, 3, none⟩ = some (.int .i64 ((slot : Nat) : Int)) := st3.e.cell 3
  have f4 : w3.cell? ⟨w.heap.size, 4, none⟩ = some (.int .i64 ((off : Nat) : Int)) := st3.e.cell 4
  have f5 : w3.cell? ⟨w.heap.size, 5, none⟩ = some (.int .i64 ((size : Nat) : Int)) := st3.e.cell 5
  have hh : w3.cell? ⟨w2.heap.size, 0, none⟩ = some (.bool false) := st3.h.cell
  have HST := Lib.hid st3
  have HU3 := Lib.hid U3
  clear st3 U3
  have hlast : 0 < es.length → ∃ (g : Nat) (x : Ent), va = some ⟨g, 0, none⟩ ∧ w3.cell? ⟨g, (es.length - 1) * 6 + 4, none⟩ = some (.int .i64 ((x.off : Nat) : Int)) ∧ w3.cell? ⟨g, (es.length - 1) * 6 + 5, none⟩ = some (.int .i64 ((x.size : Nat) : Int)) ∧ x.off + x.size ≤ off := fun h0 => by
   have hE2 := EntsAt.of_own HW.out
   rcases hE2 with ⟨_, h2⟩ | ⟨g, c2, h1, h2⟩
   ·rw [h2] at h0; simp at h0
   ·obtain ⟨x, hx⟩ : ∃ x, es[es.length - 1]? = some x := ⟨es[es.length - 1]'(by omega), List.getElem?_eq_getElem _⟩
    injection h1 with h1 _ _
    exact ⟨g, x, h1, Old.cellOf' HU3.out (h2 _ x hx 4 _ rfl), Old.cellOf' HU3.out (h2 _ x hx 5 _ rfl), (HES.out x (List.mem_of_getElem? hx)).1⟩
  generalize hN : es.length = N at *
  rcases Nat.eq_zero_or_pos N with h0 | h0
  case' inl =>
   have hk4 : ¬ ((0 : Int) < (N : Int)) := by omega
   have H0 := Lib.hid h0
   clear hlast h0
   go_wp2
   go_quiet (fail)
   revert nq
   intro nqa
   go_wp2
   have hk9 : decide ((0 : Int) < (N : Int)) = false := by rw [decide_eq_false_iff_not]; omega
   have hk10 : decide (0 < N) = false := by rw [decide_eq_false_iff_not]; omega
   go_big_quiet (fail)
   go_wp2
   clear hk9 hk10
  case' inr =>
   obtain ⟨g, x, rfl, l4, l5, hle⟩ := hlast h0
   have hk1 : (N : Int) - 1 = ((N - 1 : Nat) : Int) := by omega
   have hk2 : N - 1 < N := by omega
   generalize N - 1 = k at *
   have hk3 : (k : Int) < (N : Int) := by omega
   have hk4 : (0 : Int) < (N : Int) := by omega
   have hk6 : IntKind.i64.wrap ((x.off : Int) + (x.size : Int)) = (x.off : Int) + (x.size : Int) := IntWalk.i64_in _ (by have := HOK.out.z3; simp at this; omega)
   have hk7 : IntKind.i64.wrap ((k : Int)) = (k : Int) := IntWalk.i64_in _ (by omega)
   go_wp2
   go_quiet (fail)
   revert nq
   intro nqa
   go_wp2
   have hk8 : decide ((off : Int) < (x.off : Int) + (x.size : Int)) = false := by rw [decide_eq_false_iff_not]; omega
   go_big_quiet (fail)
   go_wp2
   clear l4 l5 hk1 hk2 hk3 hk4 hk6 hk7 hk8 hle h0
   generalize hva : (some (⟨g, 0, none⟩ : Addr)) = va at *
  all_goals
   have O4 : Old w3 ((w3.drewN nqa).drewN nq) := ((Upd.refl _ w3).drewN _).drewN _
   generalize (w3.drewN nqa).drewN nq = w4 at O4 ⊢
   have st4 := HST.out.old O4
   have U4 := HU3.out.trans O4
   have z1' : w4.cell? ⟨X, 1, none⟩ = some (.slice (some ⟨S, 0, none⟩) m c) := Old.cellOf' U4 x1
   have z0' : w4.cell? ⟨X, 0, none⟩ = some (.pointer (some ⟨O, 0, none⟩)) := Old.cellOf' U4 x0
   have d0 : w4.cell? ⟨w.heap.size, 0, none⟩ = some (.int .i64 ((seq : Nat) : Int)) := st4.e.cell 0
   have d1 : w4.cell? ⟨w.heap.size, 1, none⟩ = some (.string ky) := st4.e.cell 1
   have d2 : w4.cell? ⟨w.heap.size, 2, none⟩ = some (.bool del) := st4.e.cell 2
   have d3 : w4.cell? ⟨w.heap.size, 3, none⟩ = some (.int .i64 ((slot : Nat) : Int)) := st4.e.cell 3
   have d4 : w4.cell? ⟨w.heap.size, 4, none⟩ = some (.int .i64 ((off : Nat) : Int)) := st4.e.cell 4
   have d5 : w4.cell? ⟨w.heap.size, 5, none⟩ = some (.int .i64 ((size : Nat) : Int)) := st4.e.cell 5
   have HST4 := Lib.hid st4
   have HU4 := Lib.hid U4
   clear st4 U4 z1 z2 f0 f1 f2 f3 f4 f5 hh HST HU3 O4
   have HEQ := Lib.hid hN
   have HAP := Lib.hid hap
   have hXS := hap.XS
   have hSX : S ≠ X := fun h => hap.XS h.symm
   clear hN hap
   have hsvl : ∀ b, (Value.slice va N vc).ownBlock = some b → b < w.heap.size := fun b hb => (HW.out.lt _ hb).2
   have hapS := HAP.out.sS
   have hbS : w.heap.size ≠ S := by omega
   have hapX := HAP.out.sX
   have HI : Hid (Calls Tryz.prog 136 #[.slice va N vc, .int .i64 ((N : Nat) : Int), .slice (some ⟨w4.heap.size, 0, none⟩) 1 1] ((w4.alloc (.cells #[.int .i64 ((seq : Nat) : Int), .string ky, .bool del, .int .i64 ((slot : Nat) : Int), .int .i64 ((off : Nat) : Int), .int .i64 ((size : Nat) : Int)] 47)).drew) (InsPost ((w4.alloc (.cells #[.int .i64 ((seq : Nat) : Int), .string ky, .bool del, .int .i64 ((slot : Nat) : Int), .int .i64 ((off : Nat) : Int), .int .i64 ((size : Nat) : Int)] 47)).drew) (.slice va N vc) 47 6 (N + 1) (rowOf es ++ (⟨seq, ky, del, slot, off, size⟩ : Ent).cells))) :=
    insE_end (ad := ⟨w4.heap.size, 0, none⟩) (Upd.own ((HU4.out.alloc _).drew) HW.out (fun _ _ x => x)) rfl (fun j u hj => ent_news w4 ⟨seq, ky, del, slot, off, size⟩ _ j u hj) (ent_one _) (by omega)
   go_region_held3 (fun x => x.cell? ⟨X, 1, none⟩ = some (.slice (some ⟨S, 0, none⟩) m c) ∧ x.cell? ⟨w.heap.size, 0, none⟩ = some (.int .i64 ((seq : Nat) : Int)) ∧ x.cell? ⟨w.heap.size, 1, none⟩ = some (.string ky) ∧ x.cell? ⟨w.heap.size, 2, none⟩ = some (.bool del) ∧ x.cell? ⟨w.heap.size, 3, none⟩ = some (.int .i64 ((slot : Nat) : Int)) ∧ x.cell? ⟨w.heap.size, 4, none⟩ = some (.int .i64 ((off : Nat) : Int)) ∧ x.cell? ⟨w.heap.size, 5, none⟩ = some (.int .i64 ((size : Nat) : Int)))
    (first | (exact ⟨k1, k20, k21, k22, k23, k24, k25⟩) | (exact ⟨setc hXS k1, setc hbS k20, setc hbS k21, setc hbS k22, setc hbS k23, setc hbS k24, setc hbS k25⟩) | go_keep)
    (first | (go_at_call 136; refine HI.out.mono ?_; rintro e5 w5 ⟨v5, rfl, hown5, hU5, hfr5⟩; obtain ⟨a5, c5, rfl⟩ := own_slice hown5; have k1 := hU5.cellOf (Old.cellOf' (((Upd.refl _ w4).alloc _).drew) z1') hapX; have kS := (hU5.has (Old.has ((HU4.out.alloc _).drew) HS.out) hapS); have kSf : w5.frozen? ⟨S, slot, none⟩ = false := kS.frozen slot; have kSc : w5.cell? ⟨S, slot, none⟩ = some (.slice va N vc) := (by rw [kS.cell]; exact hSv); have st5 := (HST4.out.old (((Upd.refl _ w4).alloc _).drew)).upd hU5 (fun h => by have := hsvl _ h; omega) (fun h => by have := hsvl _ h; omega) (fun h => by have := hsvl _ h; omega) (fun h => by have := hsvl _ h; omega); have k20 : w5.cell? ⟨w.heap.size, 0, none⟩ = some (.int .i64 ((seq : Nat) : Int)) := st5.e.cell 0; have k21 : w5.cell? ⟨w.heap.size, 1, none⟩ = some (.string ky) := st5.e.cell 1; have k22 : w5.cell? ⟨w.heap.size, 2, none⟩ = some (.bool del) := st5.e.cell 2; have k23 : w5.cell? ⟨w.heap.size, 3, none⟩ = some (.int .i64 ((slot : Nat) : Int)) := st5.e.cell 3; have k24 : w5.cell? ⟨w.heap.size, 4, none⟩ = some (.int .i64 ((off : Nat) : Int)) := st5.e.cell 4; have k25 : w5.cell? ⟨w.heap.size, 5, none⟩ = some (.int .i64 ((size : Nat) : Int)) := st5.e.cell 5))
   rename_i hHeld
   clear hHeld
   have h6S := kS.set slot (.slice a5 (N + 1) c5)
   have hn5S : (Value.slice a5 (N + 1) c5).ownBlock ≠ some S := fun h => by
    rcases hfr5 S h with h1 | h1
    ·exact hapS h1
    ·have := HU4.out.size
     simp at h1
     omega
   have own6 : (w5.setCell ⟨S, slot, none⟩ (.slice a5 (N + 1) c5)).ownsRow 0 47 6 (.slice a5 (N + 1) c5) (N + 1) (rowOf es ++ (⟨seq, ky, del, slot, off, size⟩ : Ent).cells) := Upd.own ((Upd.refl (fun b => b = S) w5).setCell ⟨S, slot, none⟩ _ (.inl rfl)) hown5 (fun b hb e => hn5S (by rw [hb, e]))
   have hfr6 : ∀ b, (Value.slice a5 (N + 1) c5).ownBlock = some b → (Value.slice va N vc).ownBlock = some b ∨ w.heap.size ≤ b := fun b hb => (hfr5 b hb).imp id (fun h => by have := HU4.out.size; simp at h; omega)
   have U6 : Upd (fun b => b = S ∨ (Value.slice va N vc).ownBlock = some b) w (w5.setCell ⟨S, slot, none⟩ (.slice a5 (N + 1) c5)) := ((Upd.mono ((HU4.out.alloc _).drew) (fun _ _ x => x.elim)).trans (Upd.mono hU5 (fun b _ h => .inr h))).setCell ⟨S, slot, none⟩ _ (.inl (.inl rfl))
   have st6 := st5.upd ((Upd.refl (fun b => b = S) w5).setCell ⟨S, slot, none⟩ (.slice a5 (N + 1) c5) (.inl rfl)) (by omega) (by omega) (by omega) (by omega)
   have hof : ∀ b, (Value.slice a sn sc).ownBlock = some b → b ≠ S ∧ b ≠ O ∧ (Value.slice va N vc).ownBlock ≠ some b ∧ mv.ownBlock ≠ some b := fun b hb => by
    rcases HOR.out with ⟨rfl, _, _, _, _⟩ | ⟨r, hr, hv, _, _⟩
    ·cases hb
    ·rw [← hv] at hb
     exact ⟨fun e => HAP.out.kS r hr (by rw [hb, e]), fun e => HAP.out.kO r hr (by rw [hb, e]), HAP.out.ks r hr b hb, HAP.out.km r hr b hb⟩
   have hZ6 := (HZ.out.upd U6 (fun b hb h => h.elim (hof b hb).1 (hof b hb).2.2.1)).at
   have dc6 : DCells w.heap.size X O ⟨seq, ky, del, slot, off, size⟩ (w5.setCell ⟨S, slot, none⟩ (.slice a5 (N + 1) c5)) := ⟨U6.cellOf x0 (fun h => h.elim hXS hapX), st6.e.cell 0, st6.e.cell 1, st6.e.cell 2, st6.e.cell 3, st6.e.cell 4, st6.e.cell 5⟩
   generalize w5.setCell ⟨S, slot, none⟩ (.slice a5 (N + 1) c5) = w6 at h6S own6 U6 st6 hZ6 dc6 ⊢
   have hsz : (zs.map (·.1)).Pairwise (fun a b => b.before ⟨seq, ky, del, slot, off, size⟩ = true → a.before ⟨seq, ky, del, slot, off, size⟩ = true) := by
    rcases HOR.out with ⟨_, _, _, rfl, _⟩ | ⟨r, hr, _, _, hQ⟩
    ·simp
    ·exact HSRT.out r hr _ hQ
   have HBN := Lib.hid (bs_ins (w := w6) (t := ⟨seq, ky, del, slot, off, size⟩) hZ6 (by rw [List.length_map]; omega) (fun e he hq => by obtain ⟨x, _, rfl⟩ := List.mem_map.1 he; exact (x.2 hq).2.2.2) hsz)
   have H6S := Lib.hid h6S
   have HOWN6 := Lib.hid own6
   have HFR6 := Lib.hid hfr6
   have HU6 := Lib.hid U6
   have HST6 := Lib.hid st6
   have HZ6 := Lib.hid hZ6
   have HDC6 := Lib.hid dc6
   have HOF := Lib.hid hof
   clear h6S own6 hfr6 U6 st6 hZ6 hof hn5S hown5 hU5 hfr5 kS kSf kSc st5 k1 k20 k21 k22 k23 k24 k25 HI z1' z0' d0 d1 d2 d3 d4 d5 HST4 HU4
   obtain ⟨n0, n1, n2, n3, n4, n5, n6⟩ := dc6
   simp only at n1 n2 n3 n4 n5 n6
   unfold Ent.val at HBN
   go_wp2_with (first | (go_at_call 137; refine HBN.out.mono ?_; rintro e7 w7 ⟨rk, hrk1, hrk2, rfl, hU7⟩; have p7 := HDC6.out.upd hU7 (fun x => x) (fun x => x); obtain ⟨o0, o1, o2, o3, o4, o5, o6⟩ := p7; simp only at o1 o2 o3 o4 o5 o6; have HU7 := Lib.hid hU7; clear hU7 n0 n1 n2 n3 n4 n5 n6))
   have HDC7 := Lib.hid (HDC6.out.upd HU7.out (fun x => x) (fun x => x))
   have hw67 := HU7.out.size
   have hw06 := HU6.out.size
   have hap1 := HAP.out.mX
   have hap2 := HAP.out.XO
   have hmvl : ∀ b, mv.ownBlock = some b → b < w.heap.size := fun b hb => (HM.out.own.lt _ hb).2
   have hOl : O < w.heap.size := by obtain ⟨t, h⟩ := HM.out.made; exact h.lt
   have hw7l : w.heap.size < w7.heap.size := by have := HST6.out.e.lt; omega
   have hzl2 : (zs.map (·.1)).length ≤ L := by rw [List.length_map]; exact hzl
   have hz7 := HZ6.out.old HU7.out
   have hpl : Place ⟨seq, ky, del, slot, off, size⟩ rk (zs.map (·.1)) := ⟨hrk1, hrk2⟩
   have hrk : rk ≤ (zs.map (·.1)).length := hrk1
   clear hrk1 hrk2 hsz
   have hzq : ∀ x ∈ zs.map (·.1), Fit ⟨seq, ky, del, slot, off, size⟩ x := fun e he => by obtain ⟨x, _, rfl⟩ := List.mem_map.1 he; exact x.2
   have hzm : (zs.map (·.1) = [] ∧ ∀ r, r < mn → key r ≠ ky) ∨ ∃ r, r < mn ∧ key r = ky ∧ Q r (zs.map (·.1)) := HOR.out.imp (fun ⟨_, _, _, h1, h2⟩ => ⟨by rw [h1]; rfl, h2⟩) (fun ⟨r, h1, _, h2, h3⟩ => ⟨r, h1, h2, h3⟩)
   have HZL := Lib.hid hzm
   clear hzm
   generalize zs.map (·.1) = zl at hzl2 hz7 hzq HZL hpl hrk
   have hA7 : Old w7 w7.drew := (Upd.refl _ w7).drew
   have hB7 : Old w7 ((w7.alloc (.cells #[.int .i64 ((seq : Nat) : Int), .string ky, .bool del, .int .i64 ((slot : Nat) : Int), .int .i64 ((off : Nat) : Int), .int .i64 ((size : Nat) : Int)] 47)).drew) := ((Upd.refl _ w7).alloc _).drew
   have HCL : Hid (∀ W : World, Old w7 W → Calls Tryz.prog 83 #[.slice a sn sc] W fun e w8 => ∃ v3, e = .returned v3 ∧ w8.ownsRow 0 47 6 v3 zl.length (rowOf zl) ∧ Old W w8 ∧ Old w7 w8 ∧ (∀ b, v3.ownBlock = some b → w7.heap.size ≤ b) ∧ ∀ b, v3.ownBlock = some b → W.heap.size ≤ b) := fun W U => by
    refine (eclone_any (hz7.old U) (by omega)).mono ?_
    rintro e w8 ⟨v3, h1, h2, h3, h4⟩
    exact ⟨v3, h1, h2, h3, U.trans h3, fun b hb => Nat.le_trans U.size (h4 b hb), h4⟩
   have HIN : Hid (∀ (w8 W : World) (v3 : Value) (B : Nat), Old w8 W → W.ownsRow 0 47 6 v3 zl.length (rowOf zl) → Has W B 47 #[.int .i64 ((seq : Nat) : Int), .string ky, .bool del, .int .i64 ((slot : Nat) : Int), .int .i64 ((off : Nat) : Int), .int .i64 ((size : Nat) : Int)] → v3.ownBlock ≠ some B →
    Calls Tryz.prog 136 #[v3, .int .i64 ((rk : Nat) : Int), .slice (some ⟨B, 0, none⟩) 1 1] W fun e w9 => ∃ v5, e = .returned v5 ∧ w9.ownsRow 0 47 6 v5 (zl.length + 1) (rowOf (zl.take rk ++ ⟨seq, ky, del, slot, off, size⟩ :: zl.drop rk)) ∧ Upd (fun b => v3.ownBlock = some b) w8 w9 ∧ ∀ b, v5.ownBlock = some b → v3.ownBlock = some b ∨ w8.heap.size ≤ b) := fun w8 W v3 B h0 h1 h2 h3 => by
    have := insE (i := rk) (c := 1) h1 (el := (⟨seq, ky, del, slot, off, size⟩ : Ent).cells) rfl (fun j u hj => by rw [show (⟨B, 0, none⟩ : Addr).add j = ⟨B, j, none⟩ from by unfold Addr.add; split <;> simp_all]; rw [h2.cell j]; simpa [Ent.cells] using hj) (ent_one _) rowOf_one (by omega) hrk h2 h3
    refine this.mono ?_
    rintro e w9 ⟨v5, k1, k2, k3, k4⟩
    exact ⟨v5, k1, by rw [rowOf_ins]; exact k2, (Upd.mono h0 (fun _ _ x => x.elim)).trans k3, fun b hb => (k4 b hb).imp id (fun h => Nat.le_trans h0.size h)⟩
   have HSET := Lib.hid (fun (W : World) (a : Option Addr) (n c : Nat) (h : OMap W O mv mn key val) => set_exact (k := ky) (va := a) (vn := n) (vc := c) h HAP.out.mO (fun i hi => by obtain ⟨zs, _, hz, _⟩ := HE.out i hi; rcases hz with ⟨h, _⟩ | ⟨b, cap, h, _⟩ <;> rw [h] <;> rfl) (by omega))
   have SU : ∀ {w8 w9 : World} {v3 : Value}, Old w7 w8 → Upd (fun b => v3.ownBlock = some b) w8 w9 → (∀ b, v3.ownBlock = some b → w7.heap.size ≤ b) → OMap w9 O mv mn key val := fun {w8 w9 v3} h1 h2 h3 =>
    (HM.out.upd HU6.out (fun h => h.elim (fun e => HAP.out.SO e.symm) HAP.out.sO) (fun b hb h => h.elim (fun e => HAP.out.mS (by rw [hb, e])) (HAP.out.ms b hb))).upd
      ((Upd.mono (HU7.out.trans h1) (fun _ _ x => x.elim)).trans h2) (fun h => by have := h3 _ h; omega) (fun b hb h => by have := h3 _ h; have := hmvl b hb; omega)
   go_region_held3 (fun x => x.cell? ⟨X, 0, none⟩ = some (.pointer (some ⟨O, 0, none⟩)) ∧ x.cell? ⟨w.heap.size, 0, none⟩ = some (.int .i64 ((seq : Nat) : Int)) ∧ x.cell? ⟨w.heap.size, 1, none⟩ = some (.string ky) ∧ x.cell? ⟨w.heap.size, 2, none⟩ = some (.bool del) ∧ x.cell? ⟨w.heap.size, 3, none⟩ = some (.int .i64 ((slot : Nat) : Int)) ∧ x.cell? ⟨w.heap.size, 4, none⟩ = some (.int .i64 ((off : Nat) : Int)) ∧ x.cell? ⟨w.heap.size, 5, none⟩ = some (.int .i64 ((size : Nat) : Int)))
    (first | (with_reducible exact P10) | (with_reducible exact P9) | (with_reducible exact P8) | go_keep)
    (first | (go_at_call 83; refine (HCL.out _ ?_).mono ?_; (first | with_reducible exact hA7 | with_reducible exact hB7); rintro e8 w8 ⟨v3, rfl, hown8, hU8, O78, hfr8, hfc8⟩; obtain ⟨a8, c8, rfl⟩ := own_slice hown8; have P8 := HDC7.out.upd O78 (fun x => x) (fun x => x); have hC8 := (Upd.refl (fun _ => False) w8).alloc (.cells #[.int .i64 ((seq : Nat) : Int), .string ky, .bool del, .int .i64 ((slot : Nat) : Int), .int .i64 ((off : Nat) : Int), .int .i64 ((size : Nat) : Int)] 47); have hR8 := Upd.refl (fun _ => False) w8; have H8A := Has.new w8 47 #[.int .i64 ((seq : Nat) : Int), .string ky, .bool del, .int .i64 ((slot : Nat) : Int), .int .i64 ((off : Nat) : Int), .int .i64 ((size : Nat) : Int)]; have HU8 := Lib.hid hU8; have O8A := Upd.own hC8 hown8 (fun _ _ x => x); have HL8 := Lib.hid (fun b hb => (hown8.lt b hb).2); have HO78 := Lib.hid O78; have HF8 := Lib.hid hfr8; have HC8 := Lib.hid hfc8; clear O78 hU8 hfr8 hfc8) | (go_at_call 136; refine (HIN.out w8 _ _ _ ?_ ?_ ?_ ?_).mono ?_; (first | with_reducible exact hC8 | with_reducible exact hR8); (first | with_reducible exact O8A | with_reducible exact hown8); (first | with_reducible exact H8A | exact Old.has HU8.out ((Has.new w7 _ _).drew)); (intro h; have h1 := HL8.out _ h; have h2 := HC8.out _ h; (try simp at h2); omega); rintro e9 w9 ⟨v5, rfl, hown9, X89, hfr9⟩; obtain ⟨a9, c9, rfl⟩ := own_slice hown9; have P9 := P8.upd X89 (fun h => by have := HF8.out _ h; omega) (fun h => by have := HF8.out _ h; omega); have HP9 := Lib.hid (show _ ∧ _ ∧ _ from ⟨hown9, X89, hfr9⟩); clear hown9 X89 hfr9 P8 hC8 hR8 H8A O8A) | (go_at_call 82; refine (HSET.out w9 _ _ _ (SU HO78.out HP9.out.2.1 HF8.out)).mono ?_; rintro e10 w10 ⟨⟨u10, b10, rfl⟩, mv10, n10, key10, val10, hM10, hU10, hfr10, hrel10⟩; have P10 := P9.upd hU10 (fun h => h.elim hap2 hap1) (fun h => h.elim (fun h => by omega) (fun h => by have := hmvl _ h; omega)); have HP10 := Lib.hid (show _ ∧ _ ∧ _ ∧ _ from ⟨hM10, hU10, hfr10, hrel10⟩); clear hM10 hU10 hfr10 hrel10 P9))
   all_goals
    have hDw : w.heap.size < D := by omega
    have hD6 : D < w6.heap.size := (Array.getElem?_eq_some_iff.1 HST6.out.k).1
    have hR6 : w.heap.size + 1 < w6.heap.size := HST6.out.r.lt
    have hH6 : w2.heap.size < w6.heap.size := Boxed.lt HST6.out.h
    have st10 := (((HST6.out.old HU7.out).old HO78.out).upd HP9.out.2.1 (fun h => by have := HF8.out _ h; omega) (fun h => by have := HF8.out _ h; omega) (fun h => by have := HF8.out _ h; omega) (fun h => by have := HF8.out _ h; omega)).upd HP10.out.2.1 (fun h => h.elim (fun h => by omega) (fun h => by have := hmvl _ h; omega)) (fun h => h.elim (fun h => by omega) (fun h => by have := hmvl _ h; omega)) (fun h => h.elim (fun h => by omega) (fun h => by have := hmvl _ h; omega)) (fun h => h.elim (fun h => by omega) (fun h => by have := hmvl _ h; omega))
    have r0 : w10.cell? ⟨w.heap.size + 1, 0, none⟩ = some (.int .i64 0) := st10.r.cell 0
    have r1 : w10.frozen? ⟨w.heap.size + 1, 0, none⟩ = false := st10.r.frozen 0
    have hK10 := st10.k
    have hr10 := st10.r
    clear st10 o0 o1 o2 o3 o4 o5 o6 P10
    go_wp2
    have hK11 : (w10.setCell ⟨w.heap.size + 1, 0, none⟩ (.int .i64 0)).heap[D]? = some (.deferred (some [])) := (KeepsOthers.setCell w10 _ _).same D _ hK10 rfl
    have U6 : Upd (fun b => b = O ∨ mv.ownBlock = some b ∨ b = w.heap.size + 1 ∨ b = D) w6 (((w10.setCell ⟨w.heap.size + 1, 0, none⟩ (.int .i64 0))).putObj D (.deferred none)) :=
     (((((Upd.mono (HU7.out.trans HO78.out) (fun _ _ x => x.elim)).after HP9.out.2.1 (fun b hb h => by have := HF8.out _ h; omega)).trans (Upd.mono HP10.out.2.1 (fun b _ h => h.elim .inl (fun h => .inr (.inl h))))).setCell ⟨w.heap.size + 1, 0, none⟩ _ (.inl (.inr (.inr (.inl rfl))))).putObj D _ (.inl (.inr (.inr (.inr rfl)))))
    refine ⟨by simp, .inl ⟨_, _, rfl, run_takeDeferred hK11, ?_⟩⟩
    have hc11 := cell_kept (World.cell?_setCell_same' w10 ⟨w.heap.size + 1, 0, none⟩ (.int .i64 0) (by rw [r0]; rfl)) (grownBy_putObj' _ D (.deferred none)) (fun r e => by cases e; exact ⟨_, hK11, rfl⟩)
    refine ⟨.int .i64 0, ?_, rfl, .slice a5 (N + 1) c5, mv10, .slice a9 (zl.length + 1) c9, n10, key10, val10, zl, rk, ?_, ?_, ?_, ?_, ?_, ?_, ?_, ⟨?_, hzl2, ⟨hpl, hzq⟩, ?_⟩, ?_, ?_, ?_, ?_⟩
    ·simp [results, Tryz.f64, go_sem, hc11]
    ·exact (Upd.mono HU6.out (fun b _ h => h.elim (fun h => .inr (.inl h)) (fun h => .inr (.inr (.inl h))))).after U6 (fun b hb h => by
      rcases h with h | h | h | h
      ·exact .inl h
      ·exact .inr (.inr (.inr h))
      ·omega
      ·omega)
    ·refine U6.has H6S.out (fun h => ?_)
     rcases h with h | h | h | h
     ·exact HAP.out.SO h
     ·exact HAP.out.mS h
     ·omega
     ·omega
    ·have h3 := Upd.own U6 HOWN6.out (fun b hb h => by
      rcases h with h | h | h | h
      ·rcases HFR6.out b hb with h1 | h1
       ·exact HAP.out.sO (by rw [h1, h])
       ·omega
      ·rcases HFR6.out b hb with h1 | h1
       ·exact HAP.out.ms b h h1
       ·have := hmvl b h
        omega
      ·obtain ⟨cur, hc⟩ := own_has' HOWN6.out hb
       rw [h] at hc
       exact absurd (Has.type hc HST6.out.r) (by decide)
      ·obtain ⟨cur, hc⟩ := own_has' HOWN6.out hb
       rw [h] at hc
       unfold Has at hc
       rw [HST6.out.k] at hc
       cases hc)
     rw [HEQ.out, rowOf_append]
     simpa [rowOf] using h3
    ·exact HFR6.out
    ·refine HP10.out.1.upd (((Upd.refl (fun b => b = w.heap.size + 1 ∨ b = D) w10).setCell ⟨w.heap.size + 1, 0, none⟩ _ (.inl (.inl rfl))).putObj D _ (.inl (.inr rfl))) (fun h => h.elim (fun h => by omega) (fun h => by omega)) (fun b hb h => ?_)
     have s9 := HP9.out.2.1.size
     have s8 := HO78.out.size
     rcases HP10.out.2.2.1 b hb with h1 | h1
     ·have := hmvl b h1
      rcases h with h | h <;> omega
     ·rcases h with h | h <;> omega
    ·intro b hb
     have s9 := HP9.out.2.1.size
     have s8 := HO78.out.size
     exact (HP10.out.2.2.1 b hb).imp id (fun h => by omega)
    ·exact HP10.out.2.2.2.each.1
    ·refine Upd.own (((Upd.mono HP10.out.2.1 (G := fun b => b = O ∨ mv.ownBlock = some b ∨ b = w.heap.size + 1 ∨ b = D) (fun b _ h => h.elim .inl (fun h => .inr (.inl h)))).setCell ⟨w.heap.size + 1, 0, none⟩ _ (.inl (.inr (.inr (.inl rfl))))).putObj D _ (.inl (.inr (.inr (.inr rfl))))) HP9.out.1 (fun b hb h => ?_)
     have s8 := HO78.out.size
     have h7 : w7.heap.size ≤ b := (HP9.out.2.2 b hb).elim (HF8.out b) (fun h => by omega)
     rcases h with h | h | h | h
     ·omega
     ·have := hmvl b h
      omega
     ·omega
     ·omega
    ·intro b hb
     have s8 := HO78.out.size
     have h7 : w7.heap.size ≤ b := (HP9.out.2.2 b hb).elim (HF8.out b) (fun h => by omega)
     omega
    ·intro b hb
     have s8 := HO78.out.size
     have s9 := HP9.out.2.1.size
     have h6 := (HOWN6.out.lt _ hb).2
     refine ⟨fun h => ?_, fun h => ?_⟩
     ·have h7 : w7.heap.size ≤ b := (HP9.out.2.2 b h).elim (HF8.out b) (fun h => by omega)
      omega
     ·rcases HP10.out.2.2.1 b h with h1 | h1
      ·have := hmvl b h1
       rcases HFR6.out b hb with h2 | h2
       ·exact HAP.out.ms b h1 h2
       ·omega
      ·omega
    ·intro b hb h
     have s8 := HO78.out.size
     have h7 : w7.heap.size ≤ b := (HP9.out.2.2 b h).elim (HF8.out b) (fun h => by omega)
     have h9 := (HP9.out.1.lt _ h).2
     rcases HP10.out.2.2.1 b hb with h1 | h1
     ·have := hmvl b h1
      omega
     ·omega
    ·exact HP10.out.2.2.2
    ·exact HZL.out
 case stop =>
  rintro D c pre W _ _ h _
  exact h.elim
end Go.M
