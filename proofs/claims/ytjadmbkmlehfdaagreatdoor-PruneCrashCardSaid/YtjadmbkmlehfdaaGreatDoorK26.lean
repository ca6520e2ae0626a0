/- Walks 26. -/
import Derived.Test.YtjadmbkmlehfdaaGreatDoorProg
import Derived.Test.YtjadmbkmlehfdaaGreatDoorK7
import Derived.OrdersHeld
import Derived.Test.YtjadmbkmlehfdaaGreatDoorK25
import Derived.Test.YtjadmbkmlehfdaaGreatDoorK5
import Derived.Deep.RegionHeld3
set_option linter.unusedVariables false
set_option linter.unusedSimpArgs false
set_option maxRecDepth 100000
namespace Go.M
open Go.Proofs Go.RowKit
theorem upon_round {l n : Nat} {P : Program} {o : Oper} {a : Act} {K : Act → World → Prop} {Q : Exit → Act → World → Prop} {r : Result Next} (h : o.upon P a K Q r) : o.uponIn (Fence.wide.inRound l) n P a K Q r := by
 cases r with
 | ok x w' =>
  cases x <;> simp only [Oper.upon, Oper.uponIn] at h ⊢
  case value => exact h
  case skip => exact h
  case defer => exact h
  case enter => exact ⟨fun hd => (by cases hd), CallsIn.inRound l (callsIn_wide.2 (Calls.mono h (fun e w'' he => (by cases e <;> exact he))))⟩
  case row => exact ⟨fun hd => (by cases hd), fun c cs _ => let ⟨v, w', r, s⟩ := h c cs; ⟨v, w', r, stepsIn_wide.2 s⟩⟩
 | halt x w' => cases x <;> simp only [Oper.upon, Oper.uponIn] at h ⊢ <;> exact h
def noDefer (o : Oper) : Bool := match o.op with | .defer _ => false | _ => true
theorem any_round {l n : Nat} {P : Program} {md : Region.Mode} {ops : Array Oper} {Q : Exit → Act → World → Prop} (hd : ops.all noDefer = true) (hL : ¬ LetsOut Q) :
 ∀ (fuel : Nat) (listed : Array Bool) (a : Act) (w : World), wpAny P md ops Q fuel listed a w → wpAnyIn (Fence.wide.inRound l) n P md ops Q fuel listed a w := by
 intro fuel
 induction fuel with
 | zero => exact fun _ _ _ h => h
 | succ fuel ih =>
  rintro listed a w ⟨h1, h2⟩
  refine ⟨h1, fun i hi => ?_⟩
  have h := h2 i hi
  unfold wpOp at h
  unfold wpOpIn
  cases ho : ops[i]? with
  | none => simp only [ho] at h ⊢; exact ih _ _ _ h
  | some o =>
   simp only [ho] at h ⊢
   have hn : ∀ c, o.op ≠ .defer c := fun c e => by
    have := Array.all_eq_true.1 hd i (Array.getElem?_eq_some_iff.1 ho).1
    rw [(Array.getElem?_eq_some_iff.1 ho).2] at this
    simp [noDefer, e] at this
   split at h
   ·rename_i hw
    rw [if_pos hw]
    rcases h with h | ⟨_, h⟩
    ·refine Oper.wpIn_mono (fun a w => ih _ a w) ⟨fun f _ => trivial, ?_⟩
     rw [show o.semAt (Fence.wide.inRound l).round a.eval = execOp a.eval o from Oper.semAt_some l _ _ hn]
     exact upon_round h
    ·exact absurd h hL
   ·rename_i hw
    rw [if_neg hw]
    exact ⟨fun f _ => trivial, ih _ _ _ h⟩
theorem region_round {l n id : Nat} {P : Program} {ops : Array Oper} {Q : Exit → Act → World → Prop} {a : Act} {w : World} (S : World → Prop) (hm : P.follows .mixedOrders = true) (hd : ops.all noDefer = true) (hL : ¬ LetsOut Q)
 (h : wpAnyH P .any ops Q S ops.size (Array.replicate ops.size false) a w.drew) : (Code.region id ops true).wpIn (Fence.wide.inRound l) n P Q a w :=
 wpIn_region_any hm (any_round hd hL _ _ _ _ (wpAny_of_held _ _ _ _ h))
end Go.M
namespace Go.M
open Go.Proofs Go.RowKit Go.Shelf
set_option linter.unusedSimpArgs false
attribute [local go_sem] Oper.semAt_some
theorem eclone_own {w : World} {v : Value} {es : List Ent} (own : w.ownsRow 0 47 6 v es.length (rowOf es)) (hl : es.length ≤ 1000) :
 Calls Tryz.prog 83 #[v] w (NewRow w 47 6 es.length (rowOf es)) := by
 rcases own.2 with ⟨h1, h2⟩ | ⟨g, cap, cur, h1, hb, hg, hc⟩
 ·have : es = [] := List.eq_nil_of_length_eq_zero h2
  subst this
  rw [h1]
  exact eclone_nil
 ·have h3 := own.cells (g := g) (by rw [h1]; rfl)
  rw [h1]
  exact eclone_some own.1 (fun j u hj => h3 j u hj) (fun u hu => by
   simp only [rowOf, List.mem_flatMap] at hu
   obtain ⟨x, _, hx⟩ := hu
   exact ent_one x u hx) hl
theorem has_new_at {w : World} {o : Obj} {t : TypeId} {c : Array Value} : Has ((w.alloc o).alloc (.cells c t)) (w.heap.size + 1) t c := by
 have := Has.new (w.alloc o) t c
 rwa [World.size_alloc] at this
theorem not_row {X : World} {row : Option Nat} {B : Nat} {t : TypeId} {c : Array Value} (h : Has X B t c) (hr : ∀ r, row = some r → ∃ o : Obj, X.heap[r]? = some o ∧ o.isCells = false) : ¬ row = some B := fun e => by
 obtain ⟨o, ho, hc⟩ := hr B e
 unfold Has at h
 rw [h] at ho
 cases ho
 cases hc
theorem OMap.grown {X Y : World} {O n : Nat} {mv : Value} {key : Nat → ByteArray} {val : Nat → Value} {row : Option Nat} (h : OMap X O mv n key val) (hg : X.grownBy Y row) (hr : ∀ r, row = some r → ∃ o : Obj, X.heap[r]? = some o ∧ o.isCells = false) : OMap Y O mv n key val := by
 obtain ⟨t, hO⟩ := h.made
 refine h.upd ((Upd.refl (fun b => row = some b) X).grown hg (fun k e => .inl e)) (not_row hO hr) (fun b hb => ?_)
 obtain ⟨cur, hcur⟩ := own_has' h.own hb
 exact not_row hcur hr
theorem wp_append_mk {P : Program} {w : World} {o : Oper} {a : Act} {K : Act → World → Prop} {Q : Exit → Act → World → Prop} (s x : Operand) (t : TypeId) (ho : o.op = .call { callee := .builtin .append, args := #[s, x], argTypes := #[t, t] })
 (e : TypeId) (i : TypeInfo) (z : Value) (size bytes : Nat) (ht : P.underlying t = some (.slice e)) (hi : P.info? e = some i) (hz : i.zero = some z)
 (hsize : i.size = size) (hby : i.bytes = bytes) (hzs : z.cells.size = size) (hsz : 0 < size)
 (v : Value) (n : Nat) (xs : List Value) (hs : a.eval s = v) (hown : w.ownsRow 0 e size v n xs)
 (ad : Addr) (m c : Nat) (news : List Value) (hx : a.eval x = .slice (some ad) m c) (hl : news.length = m * size) (hnews : ∀ j u, news[j]? = some u → w.cell? (ad.add j) = some u) (h1 : ∀ u ∈ news, u.oneCell' = true)
 (h63 : n + m ≤ maxLen) (hbytes : (n + m) * bytes ≤ 140737488355328)
 (h : ∀ v' w', w'.ownsRow 0 e size v' (n + m) (xs ++ news) → w.grownBy w' v.ownBlock → (∀ k, v'.ownBlock = some k → v.ownBlock = some k ∨ w.heap.size ≤ k) → K (a.put o.dst v') w') : Oper.wp P o a w K Q := by
 obtain ⟨v', w', hr, h2, h3, h4, h5⟩ := run_append_mk (P := P) w t o.type e i z size bytes ht hi hz hsize hby hzs hsz v n xs hown ad m c news hl hnews h1 h63 hbytes
 unfold Oper.wp execOp
 simp only [ho, resolve, invoke, builtin, Sem.run_bind, Sem.run_pure, Result.andThen_ok, List.map_toArray, List.map_cons, List.map_nil, hs, hx, hr]
 exact h v' w' h2 h3 h5
def only (Q : Exit → Act → World → Prop) : Exit → Act → World → Prop
 | .normal, a, w => Q .normal a w
 | _, _, _ => False
theorem only_n {Q : Exit → Act → World → Prop} {a : Act} {w : World} (h : Q .normal a w) : only Q .normal a w := h
theorem wp_only {P : Program} {c : Code} {Q : Exit → Act → World → Prop} {a : Act} {w : World} (h : c.wp P (only Q) a w) : c.wp P Q a w :=
 wp_mono h (fun e a w h => by cases e <;> first | exact h | exact h.elim)
theorem info_lst : (Tryz.prog.info? 142).map (fun i => (i.zero, i.size, i.bytes)) = some (some (.slice none 0 0), 1, 24) := by kernel_rfl
theorem own_lt'' {w : World} {e : TypeId} {size n b : Nat} {v : Value} {xs : List Value} (own : w.ownsRow 0 e size v n xs) (hb : v.ownBlock = some b) : b < w.heap.size := (own.lt _ hb).2
theorem grown_upd {X Y : World} {row : Option Nat} (hg : X.grownBy Y row) : Upd (fun b => row = some b) X Y := (Upd.refl _ X).grown hg (fun k h => .inl h)
theorem own_grown {X Y : World} {row : Option Nat} {e : TypeId} {n : Nat} {v : Value} {xs : List Value} {z : Nat} (own : X.ownsRow 0 e z v n xs) (hg : X.grownBy Y row) (hr : ∀ r, row = some r → ∃ o : Obj, X.heap[r]? = some o ∧ o.isCells = false) : Y.ownsRow 0 e z v n xs :=
 (grown_upd hg).own own (fun b hb e => by
   obtain ⟨cur, hcur⟩ := own_has' own hb
   exact not_row hcur hr e)
structure XcM (w V : World) (Mp : ByteArray → List Ent) (L k : Nat) (mv : Value) (n : Nat) (key : Nat → ByteArray) (val : Nat → Value) (kz : Nat → List Ent) : Prop where
 kv : KvIn V w.heap.size mv n key val kz (fun b => w.heap.size + 4 ≤ b ∧ b < L) Mp
 nk : n ≤ k
 mb : ∀ b, mv.ownBlock = some b → w.heap.size + 4 ≤ b
theorem XcM.upd {w X Y : World} {Mp : ByteArray → List Ent} {L L' k n : Nat} {mv : Value} {key : Nat → ByteArray} {val : Nat → Value} {kz : Nat → List Ent} {F : Nat → Prop} (h : XcM w X Mp L k mv n key val kz) (hL : L ≤ L') (U : Upd F X Y) (hO : ¬ F w.heap.size) (hm : ∀ b, mv.ownBlock = some b → ¬ F b) (hv : ∀ i, i < n → ∀ b, (val i).ownBlock = some b → ¬ F b) : XcM w Y Mp L' k mv n key val kz :=
 ⟨(h.kv.upd U hO hm hv).weaken (fun b hb => ⟨hb.1, by omega⟩), h.nk, h.mb⟩
theorem XcM.grown {w X Y : World} {Mp : ByteArray → List Ent} {L L' k n : Nat} {mv : Value} {key : Nat → ByteArray} {val : Nat → Value} {kz : Nat → List Ent} {row : Option Nat} (h : XcM w X Mp L k mv n key val kz) (hL : L ≤ L') (hg : X.grownBy Y row) (hr : ∀ r, row = some r → ∃ o : Obj, X.heap[r]? = some o ∧ o.isCells = false) : XcM w Y Mp L' k mv n key val kz := by
 obtain ⟨t, hO⟩ := h.kv.om.made
 refine h.upd hL (grown_upd hg) (not_row hO hr) (fun b hb e => ?_) (fun i hi b hb e => ?_)
 ·obtain ⟨cur, hcur⟩ := own_has' h.kv.om.own hb
  exact not_row hcur hr e
 ·obtain ⟨cur, hcur⟩ := own_has' (h.kv.row i hi) hb
  exact not_row hcur hr e
def seenM (M : ByteArray → List Ent) (ks : List ByteArray) : ByteArray → List Ent := fun q => if ks.any (fun k => decide (k = q)) = true then M q else []
theorem seenM_add (M : ByteArray → List Ent) (ks : List ByteArray) (k : ByteArray) : (fun j => if j = k then M k else seenM M ks j) = seenM M (ks ++ [k]) := by
 funext j
 unfold seenM
 by_cases h : j = k
 ·subst h; simp
 ·have : decide (k = j) = false := by simpa using fun e => h e.symm
  simp only [if_neg h, List.any_append, List.any_cons, List.any_nil, this, Bool.or_false]
structure XcS (w V : World) (sz : Nat → List Ent) (L k : Nat) (rv : Value) (sv : Nat → Value) : Prop where
 hX : ∃ t, Has V (w.heap.size + 1) t #[.pointer (some ⟨w.heap.size, 0, none⟩), rv]
 own : V.ownsRow 0 142 1 rv k ((List.range k).map sv)
 rb : ∀ b, rv.ownBlock = some b → w.heap.size + 4 ≤ b
 row : ∀ i, i < k → V.ownsRow 0 47 6 (sv i) (sz i).length (rowOf (sz i))
 sb : ∀ i, i < k → ∀ b, (sv i).ownBlock = some b → L ≤ b
 inc : ∀ i j, i < j → j < k → ∀ b c, (sv i).ownBlock = some b → (sv j).ownBlock = some c → b < c
def XcJ (w : World) (M : ByteArray → List Ent) (sz : Nat → List Ent) (D L k : Nat) (V : World) : Prop := ∃ (rv : Value) (sv : Nat → Value) (mv : Value) (n : Nat) (key : Nat → ByteArray) (val : Nat → Value) (kz : Nat → List Ent), XcM w V M L 500 mv n key val kz ∧ XcS w V sz L k rv sv ∧
 V.cell? ⟨w.heap.size + 1 + 1, 0, none⟩ = some (.pointer (some ⟨w.heap.size + 1, 0, none⟩)) ∧ w.heap.size + 4 ≤ L ∧ L ≤ V.heap.size ∧ Old w V ∧ V.heap[D]? = some (.deferred (some []))
def XcI (w : World) (Mp : ByteArray → List Ent) (k : Nat) (V : World) : Prop := ∃ (mv : Value) (n : Nat) (key : Nat → ByteArray) (val : Nat → Value) (kz : Nat → List Ent), XcM w V Mp V.heap.size k mv n key val kz ∧
 (∃ t, Has V (w.heap.size + 1) t #[.pointer (some ⟨w.heap.size, 0, none⟩), .slice none 0 0]) ∧ V.cell? ⟨w.heap.size + 1 + 1, 0, none⟩ = some (.pointer (some ⟨w.heap.size + 1, 0, none⟩)) ∧ w.heap.size + 4 ≤ V.heap.size ∧ Old w V
theorem XcI.grown {w X Y : World} {Mp : ByteArray → List Ent} {k B : Nat} {row : Option Nat} (h : XcI w Mp k X) (hB : w.heap.size ≤ B) (hg : X.grownBy Y row) (hr : ∀ r, row = some r → B ≤ r ∧ ∃ o : Obj, X.heap[r]? = some o ∧ o.isCells = false) : XcI w Mp k Y := by
 obtain ⟨mv, n, key, val, kz, h1, ⟨t, h5⟩, h6, h8, h7⟩ := h
 exact ⟨mv, n, key, val, kz, h1.grown hg.size hg (fun r e => (hr r e).2), ⟨t, has_own _ t (fun (_ : Unit) => _) () X Y row h5 hg (fun r e => (hr r e).2)⟩, cell_kept h6 hg (fun r e => (hr r e).2), Nat.le_trans h8 hg.size, h7.grown hg (fun r e => .inr (by have := (hr r e).1; omega))⟩
set_option maxHeartbeats 1600000 in
theorem xcopy {w : World} {X O S m c mn : Nat} {mv : Value} {key : Nat → ByteArray} {val sv : Nat → Value} {kz sz : Nat → List Ent} {Bw : Nat → Prop} {M : ByteArray → List Ent} (hX0 : w.cell? ⟨X, 0, none⟩ = some (.pointer (some ⟨O, 0, none⟩))) (hX1 : w.cell? ⟨X, 1, none⟩ = some (.slice (some ⟨S, 0, none⟩) m c)) (hm : 0 < m) (hm2 : m ≤ 10) (hkv : KvIn w O mv mn key val kz Bw M)
 (hS : ∀ i, i < m → w.cell? ⟨S, i, none⟩ = some (sv i) ∧ w.ownsRow 0 47 6 (sv i) (sz i).length (rowOf (sz i)) ∧ (sz i).length ≤ 500) :
 Calls Tryz.prog 28 #[.pointer (some ⟨X, 0, none⟩)] w fun e w' => e = .returned (.pointer (some ⟨w.heap.size + 1, 0, none⟩)) ∧ Old w w' ∧ ∃ rv sv' mv' n' key' val' kz' L, XcM w w' M L 500 mv' n' key' val' kz' ∧ XcS w w' sz L m rv sv' ∧ w.heap.size + 4 ≤ L := by
 have hM := hkv.om
 have hmn := hkv.n5
 have hk : ∀ r, r < mn → w.ownsRow 0 47 6 (val r) (kz r).length (rowOf (kz r)) ∧ (kz r).length ≤ 500 := fun r hr => ⟨hkv.row r hr, hkv.len r hr⟩
 have hon := hkv.on
 have hmp := hkv.mp
 refine (callsIn_wide (n := 8)).1 ?_
 refine callsIn_of_wp_marks Tryz.func28 rfl trivial ?_ rfl
 simp only [Tryz.ntmps28, List.size_toArray, List.length_cons, List.length_nil, Nat.reduceAdd, Nat.reduceSub, Array.replicate_succ, Array.replicate_zero, List.push_toArray, List.append_toArray, List.nil_append, List.cons_append]
 refine wpIn_wide.2 ?_
 have g4 : (0 : Int) < (m : Int) := by omega
 have hXl : X < w.heap.size := World.block_lt_of_cell? w _ hX0
 have hSl : S < w.heap.size := World.block_lt_of_cell? w _ (hS 0 hm).1
 have kX : ∀ k, X < w.heap.size + k := fun k => by omega
 have HM := Lib.hid hM
 have HK := Lib.hid hk
 have HS := Lib.hid hS
 have HON := Lib.hid (And.intro hon hmp)
 clear hM hk hS hkv hon hmp
 go_wp2_with (first | go_in)
 generalize hW0 : World.alloc (World.alloc (World.alloc (World.alloc w _) _) _) _ = W0
 have U0 : Old w W0 := by subst hW0; exact ((((Upd.refl _ w).alloc _).alloc _).alloc _).alloc _
 have c0 : ∃ t, Has W0 w.heap.size t #[.bool true, .slice none 0 0] := by subst hW0; exact ⟨_, (show Old _ _ from (((Upd.refl _ _).alloc _).alloc _).alloc _).has (Has.new w _ _)⟩
 have c1 : ∃ t, Has W0 (w.heap.size + 1) t #[.pointer (some ⟨w.heap.size, 0, none⟩), .slice none 0 0] := by subst hW0; exact ⟨_, (show Old _ _ from ((Upd.refl _ _).alloc _).alloc _).has has_new_at⟩
 have c2 : W0.cell? ⟨w.heap.size + 1 + 1, 0, none⟩ = some (.pointer (some ⟨w.heap.size + 1, 0, none⟩)) := by subst hW0; go_simp
 have c3 : W0.cell? ⟨w.heap.size + 1 + 1 + 1, 0, none⟩ = some (.pointer (some ⟨O, 0, none⟩)) := by subst hW0; go_simp
 have z0 : W0.heap.size = w.heap.size + 4 := by subst hW0; simp
 clear hW0
 have hvs : ∀ i, i < mn → ∃ a c d, val i = .slice a c d := fun i hi => by obtain ⟨a, c, h⟩ := own_slice (HK.out i hi).1; exact ⟨a, _, c, h⟩
 refine (wpIn_wide (n := 8)).1 ?_
 refine wpIn_rangeFunc_ownH rfl (by omega) (gf := 162) (lb := #[.pointer (some ⟨w.heap.size + 1 + 1 + 1, 0, none⟩)]) rfl trivial (enters_of Tryz.func162 (by kernel_rfl) rfl)
  (all_stops (w0 := w) 7 (by omega) (w.heap.size + 1 + 1 + 1) c3 HM.out U0 hvs) belowK_t (belowK_b (by omega)) (Below.refl _ _) (fun _ => rfl)
  (fun (pre : List {i : Nat // i < mn}) V => XcI w (seenM M (pre.map fun (x : {i : Nat // i < mn}) => key x.1)) pre.length V)
  (fun _ _ _ => False)
  (fun pre A B row hs hg hr => hs.grown (B := W0.heap.size) (by omega) hg hr)
  (fun _ _ _ _ _ hs _ _ => hs)
  ⟨.slice none 0 0, 0, fun _ => ⟨#[]⟩, fun _ => .slice none 0 0, fun _ => [], ⟨⟨⟨c0, World.ownsRow_nil _ _ _ _, fun _ _ _ _ h => (by omega), (by omega)⟩, by omega, (by simp [Value.ownBlock]), fun r h => (by omega), fun r h => (by omega), fun r h => (by omega), fun r h => (by omega), fun k h => absurd (by simp [seenM]) h, fun i j h => (by omega), fun r h => (by omega)⟩, Nat.zero_le _, fun b hb => (by cases hb)⟩, c1, c2, (by omega), U0⟩
  (fun x a' _ => a' = { tmps := #[.pointer (some ⟨X, 0, none⟩), undef, .pointer none, .pointer (some ⟨w.heap.size + 1 + 1, 0, none⟩), .string (key x.1), val x.1, undef, undef, .pointer (some ⟨X, 0, none⟩), .bool true, .bool false, .pointer (some ⟨w.heap.size, 0, none⟩), .agg #[.pointer (some ⟨w.heap.size, 0, none⟩), .slice none 0 0], .pointer (some ⟨w.heap.size + 1, 0, none⟩), .pointer (some ⟨X, 0, none⟩), .pointer (some ⟨X, 0, none⟩), .pointer (some ⟨X, 0, none⟩), .pointer (some ⟨O, 0, none⟩), .func (.func 162) #[] #[.pointer (some ⟨w.heap.size + 1 + 1 + 1, 0, none⟩)], .string (key x.1), val x.1, undef, undef, undef, undef, undef, undef, undef, undef, undef, undef, undef, undef, undef, undef, undef, undef, undef, undef, undef, undef, undef, undef, undef, undef, undef, undef, undef, undef, undef, undef], defers := [] })
  (fun _ _ _ _ _ _ hs _ _ => hs)
  ?assign ?body ?done ?stop
 case assign =>
  rintro l pre x V K hI hK
  obtain ⟨va, vn, vc, hv⟩ := hvs x.1 x.2
  rw [hv] at hK ⊢
  gi_wp2
  exact hK _ _ (KeepsFrom.refl _ _) (Below.refl _ _) hI rfl
 case body =>
  rintro l pre x a' V hl ⟨r, hr⟩ hI rfl hlt
  obtain ⟨mv', n', key', val', kz', ⟨hkv', hnk', h4⟩, ⟨t5, h5⟩, h6, h8, h7⟩ := hI
  have h1 := hkv'.om
  have h3 := hkv'.one
  obtain ⟨va, vn, vc, hv⟩ := hvs x.1 x.2
  have hko := HK.out x.1 x.2
  rw [hv] at hko ⊢
  have hCl := fun W (U : Old w W) => eclone_own (w := W) (U.own hko.1 (fun _ _ x => x)) (by omega)
  have e5 : V.cell? ⟨w.heap.size + 1, 0, none⟩ = some (.pointer (some ⟨w.heap.size, 0, none⟩)) := h5.cell 0
  have hO' : mv'.ownBlock ≠ some w.heap.size := fun e => by have := h4 _ e; omega
  gi_wp2
  refine region_round (fun x' => x'.cell? ⟨w.heap.size + 1 + 1, 0, none⟩ = some (.pointer (some ⟨w.heap.size + 1, 0, none⟩)) ∧ x'.cell? ⟨w.heap.size + 1, 0, none⟩ = some (.pointer (some ⟨w.heap.size, 0, none⟩))) (by kernel_rfl) (by kernel_rfl) (fun ⟨_, _, h⟩ => h) ?_
  have hS : V.drew.cell? ⟨w.heap.size + 1 + 1, 0, none⟩ = some (.pointer (some ⟨w.heap.size + 1, 0, none⟩)) ∧ V.drew.cell? ⟨w.heap.size + 1, 0, none⟩ = some (.pointer (some ⟨w.heap.size, 0, none⟩)) := ⟨h6, e5⟩
  refine wpAnyH_take (i := 0) (v := .pointer (some ⟨w.heap.size + 1, 0, none⟩)) rfl (by kernel_rfl) (by kernel_rfl) (by kernel_rfl) (fun _ _ _ h => h) (Or.inl ⟨by rfl, fun w' hS' => by obtain ⟨s1, s2⟩ := hS'; go_simp⟩) hS ?_
  simp only [Act.put, List.setIfInBounds_toArray, List.set_cons_zero, List.set_cons_succ]
  refine wpAnyH_take (i := 1) (v := .pointer (some ⟨w.heap.size + 1, 0, none⟩)) rfl (by kernel_rfl) (by kernel_rfl) (by kernel_rfl) (fun _ _ _ h => h) (Or.inl ⟨by rfl, fun w' hS' => by obtain ⟨s1, s2⟩ := hS'; go_simp⟩) hS ?_
  simp only [Act.put, List.setIfInBounds_toArray, List.set_cons_zero, List.set_cons_succ]
  refine wpAnyH_take (i := 2) (v := .pointer (some ⟨w.heap.size + 1, 0, none⟩)) rfl (by kernel_rfl) (by kernel_rfl) (by kernel_rfl) (fun _ _ _ h => h) (Or.inl ⟨by rfl, fun w' hS' => by obtain ⟨s1, s2⟩ := hS'; go_simp⟩) hS ?_
  simp only [Act.put, List.setIfInBounds_toArray, List.set_cons_zero, List.set_cons_succ]
  refine wpAnyH_take (i := 3) (v := .pointer (some ⟨w.heap.size, 0, none⟩)) rfl (by kernel_rfl) (by kernel_rfl) (by kernel_rfl) (fun _ _ _ h => h) (Or.inl ⟨by rfl, fun w' hS' => by obtain ⟨s1, s2⟩ := hS'; go_simp⟩) hS ?_
  simp only [Act.put, List.setIfInBounds_toArray, List.set_cons_zero, List.set_cons_succ]
  refine wpAnyH_take (i := 4) (v := .string (key x.1)) rfl (by kernel_rfl) (by kernel_rfl) (by kernel_rfl) (fun _ _ _ h => h) (Or.inl ⟨by rfl, fun w' hS' => by obtain ⟨s1, s2⟩ := hS'; go_simp⟩) hS ?_
  simp only [Act.put, List.setIfInBounds_toArray, List.set_cons_zero, List.set_cons_succ]
  refine wpAnyH_take (i := 5) (v := .slice va vn vc) rfl (by kernel_rfl) (by kernel_rfl) (by kernel_rfl) (fun _ _ _ h => h) (Or.inl ⟨by rfl, fun w' hS' => by obtain ⟨s1, s2⟩ := hS'; go_simp⟩) hS ?_
  simp only [Act.put, List.setIfInBounds_toArray, List.set_cons_zero, List.set_cons_succ]
  refine wpAnyH_ready (rs := [6]) (by kernel_rfl) (by simp) ?_
  refine AllReadyH.cons rfl (fun K' hK => ?_) AllReadyH.nil
  go_simp
  refine (hCl V.drew h7.drew).mono ?_
  rintro e w1 ⟨v1, rfl, hown1, hO1, hfr1⟩
  obtain ⟨a1, k1, rfl⟩ := own_slice hown1
  have U1 : Old V w1 := Upd.trans ((Upd.refl _ V).drew) hO1
  refine hK.out _ _ ⟨Old.cellOf' U1 h6, Old.cellOf' U1 e5⟩ (fun _ => ?_)
  refine wpAnyH_ready (rs := [7]) (by kernel_rfl) (by simp) ?_
  refine AllReadyH.cons rfl (fun K' hK => ?_) AllReadyH.nil
  go_simp
  refine (set_exact (h1.old U1) hO' h3 (by omega)).mono ?_
  rintro e w2 ⟨⟨u, b, rfl⟩, mv2, n2, key2, val2, hM2, U2, hfr2, hd2⟩
  have U : Upd (fun b => b = w.heap.size ∨ mv'.ownBlock = some b) V w2 := (U1.mono (fun _ _ x => x.elim)).trans U2
  have hnF : ∀ b, b < w.heap.size + 4 → b ≠ w.heap.size → ¬ (b = w.heap.size ∨ mv'.ownBlock = some b) := fun b hb hn e => by
   rcases e with e | e
   ·exact hn e
   ·have := h4 b e; omega
  have hn2 : n2 ≤ n' + 1 := by
   obtain ⟨r, hr, -, ⟨-, -, h, -⟩ | ⟨-, h, -⟩⟩ := hd2 <;> omega
  have h4' : ∀ b, mv2.ownBlock = some b → w.heap.size + 4 ≤ b := fun b hb => by
   rcases hfr2 b hb with e | e
   ·exact h4 b e
   ·have := U1.size; omega
  have sz2 := U.size
  have nvm : ∀ r, r < n' → ∀ b, (val' r).ownBlock = some b → ¬ (b = w.heap.size ∨ mv'.ownBlock = some b) := fun r hr b hb e => by
   obtain ⟨q1, q2⟩ := hkv'.sep r hr b hb
   rcases e with e | e
   ·exact q1 e
   ·exact q2 e
  have rt : ∀ {b : Nat} {t t' : TypeId} {c c' : Array Value}, Has w2 b t c → Has w2 b t' c' → t = t' := fun h h' => by
   unfold Has at h h'
   rw [h] at h'
   injection h' with h'
   injection h' with _ h2 _
  have mt : ∀ b cur, mv2.ownBlock = some b → ¬ Has w2 b 47 cur := fun b cur hb hh => by
   obtain ⟨cm, hcm⟩ := own_has' hM2.own hb
   have := rt hh hcm
   revert this; decide
  have hne : kz x.1 ≠ [] := (HON.out.2 x.1 x.2).1
  have hMx : M (key x.1) = kz x.1 := (HON.out.2 x.1 x.2).2
  have own1' : w2.ownsRow 0 47 6 (.slice a1 (kz x.1).length k1) (kz x.1).length (rowOf (kz x.1)) := U2.own hown1 (fun b hb e => by
   have h9 := hfr1 b hb
   rcases e with e | e
   ·have := h7.size; simp at h9; omega
   ·have := own_lt'' h1.own e; simp at h9; omega)
  obtain ⟨kz2, hkv2⟩ := hkv'.put (B' := fun b => w.heap.size + 4 ≤ b ∧ b < w2.heap.size) U nvm hM2 hd2 (l := kz x.1) own1' hne hko.2 (by omega) (fun e => by have := h4' _ e; omega)
   (fun b hb => ⟨by have h9 := hfr1 b hb; simp at h9; omega, fun h => by obtain ⟨cur, hcur⟩ := own_has' own1' hb; exact mt b cur h hcur⟩) (fun r hr b hb h => by obtain ⟨cur, hcur⟩ := own_has' (Upd.own U (hkv'.row r hr) (nvm r hr)) hb; exact mt b cur h hcur)
   (fun r hr b hb => by obtain ⟨q1, q2⟩ := hkv'.bl r hr b hb; exact ⟨q1, by omega⟩) (fun b hb => ⟨by have h9 := hfr1 b hb; simp at h9; omega, own_lt'' own1' hb⟩)
  rw [← hMx, seenM_add] at hkv2
  refine hK.out _ _ ⟨U.cellOf h6 (hnF _ (by omega) (by omega)), U.cellOf e5 (hnF _ (by omega) (by omega))⟩ (fun _ => wpAnyH_done (by kernel_rfl) ?_ _)
  refine ⟨⟨U.size, fun k o hB ho hc => ?_⟩, below_of_upd U h7.size (fun b hb e => ?_), mv2, n2, key2, val2, kz2, ⟨by rw [List.map_append]; exact hkv2, by simp; omega, h4'⟩, ⟨t5, U.has h5 (hnF _ (by omega) (by omega))⟩, U.cellOf h6 (hnF _ (by omega) (by omega)), Nat.le_trans h8 U.size, h7.after U (fun b hb e => ?_)⟩
  ·refine (U.keep k (Array.getElem?_eq_some_iff.1 ho).1 (fun e => ?_)).trans ho
   rcases e with e | e
   ·omega
   ·obtain ⟨cur, hcur⟩ := own_has' h1.own e
    unfold Has at hcur
    rw [hcur] at ho
    cases ho
    cases hc
  ·exact hnF b (by omega) (by omega) e
  ·exact hnF b (by omega) (by omega) e
 case done =>
  rintro D ys V hD hys hI hK
  obtain ⟨mv', n', key', val', kz', hxm, ⟨t5, h5⟩, h6, h8, h7⟩ := hI
  have hMs : seenM M (ys.map fun (x : {i : Nat // i < mn}) => key x.1) = M := by
   funext q
   unfold seenM
   split
   ·rfl
   ·next hq =>
    refine Classical.byContradiction fun hne => hq ?_
    obtain ⟨r, hr, hkr⟩ := HON.out.1 q (fun e => hne e.symm)
    have hr2 : r ∈ ys.map (·.1) := by rw [hys]; exact List.mem_range.2 hr
    obtain ⟨x, hx, rfl⟩ := List.mem_map.1 hr2
    rw [List.any_map, List.any_eq_true]
    exact ⟨x, hx, by simpa using hkr⟩
  have hyl : ys.length = mn := by have := congrArg List.length hys; simpa using this
  rw [hMs] at hxm
  obtain ⟨L, hL⟩ : ∃ L, V.heap.size = L := ⟨_, rfl⟩
  rw [hL] at hxm
  have x1 := Old.cellOf' h7 hX1
  have hXV := World.block_lt_of_cell? V _ x1
  go_wp2
  obtain ⟨i0, hi0, hz0, hz1, hz2⟩ := info_parts info_lst
  go_loopw [7, 34] (fun _ i wr => ∃ k : Nat, k ≤ m ∧ i = .int .i64 k ∧ XcJ w M sz D L k wr) (fun _ i _ => m - (intOf i).toNat)
  case atStart => exact ⟨0, Nat.zero_le _, rfl, .slice none 0 0, fun _ => .slice none 0 0, mv', n', key', val', kz', ⟨hxm.kv, by have := hxm.nk; omega, hxm.mb⟩, ⟨⟨t5, h5⟩, World.ownsRow_nil _ _ _ _, fun b hb => (by cases hb), fun i hi => (by omega), fun i hi => (by omega), fun i j _ hj => (by omega)⟩, h6, by omega, by omega, h7, hK⟩
  case round =>
   obtain ⟨k, hk, rfl, rv, sv', mv2, n2, key2, val2, kz2, hxm2, hxs, hbx, hL4, hsz, hU, hD2⟩ := hrel
   obtain ⟨⟨tC, hC⟩, hown, hrb, hrw, hsb, hinc⟩ := hxs
   by_cases hkm : k < m
   ·have hs := HS.out k hkm
    have ck := Old.cellOf' hU hs.1
    obtain ⟨ra, rc, rfl⟩ := own_slice hown
    obtain ⟨sa, sc, hsv⟩ := own_slice hs.2.1
    rw [hsv] at ck
    have hCl := fun W (U : Old w W) => eclone_own (w := W) (U.own hs.2.1 (fun _ _ x => x)) (by omega)
    rw [hsv] at hCl
    have e1 : wr.cell? ⟨w.heap.size + 1, 1, none⟩ = some (.slice ra k rc) := hC.cell 1
    have hlC := hC.lt
    go_wp2
    refine wp_only ?_
    refine wp_region_held (S := fun x' => x'.cell? ⟨w.heap.size + 1 + 1, 0, none⟩ = some (.pointer (some ⟨w.heap.size + 1, 0, none⟩))) (by kernel_rfl) ?_
    have hS : (wr.drew).cell? ⟨w.heap.size + 1 + 1, 0, none⟩ = some (.pointer (some ⟨w.heap.size + 1, 0, none⟩)) := hbx
    refine wpAnyH_take (i := 0) (v := .pointer (some ⟨w.heap.size + 1, 0, none⟩)) rfl (by kernel_rfl) (by kernel_rfl) (by kernel_rfl) (fun _ _ _ h => h) (Or.inl ⟨by rfl, fun w' s1 => by go_simp⟩) hS ?_
    simp only [Act.put, List.setIfInBounds_toArray, List.set_cons_zero, List.set_cons_succ]
    refine wpAnyH_take (i := 1) (v := .pointer (some ⟨w.heap.size + 1, 0, none⟩)) rfl (by kernel_rfl) (by kernel_rfl) (by kernel_rfl) (fun _ _ _ h => h) (Or.inl ⟨by rfl, fun w' s1 => by go_simp⟩) hS ?_
    simp only [Act.put, List.setIfInBounds_toArray, List.set_cons_zero, List.set_cons_succ]
    refine wpAnyH_take (i := 2) (v := .pointer (some ⟨w.heap.size + 1, 0, none⟩)) rfl (by kernel_rfl) (by kernel_rfl) (by kernel_rfl) (fun _ _ _ h => h) (Or.inl ⟨by rfl, fun w' s1 => by go_simp⟩) hS ?_
    simp only [Act.put, List.setIfInBounds_toArray, List.set_cons_zero, List.set_cons_succ]
    refine wpAnyH_take (i := 3) (v := .pointer (some ⟨w.heap.size + 1, 1, none⟩)) rfl (by kernel_rfl) (by kernel_rfl) (by kernel_rfl) (fun _ _ _ h => h) (Or.inl ⟨by rfl, fun w' s1 => by go_simp⟩) hS ?_
    simp only [Act.put, List.setIfInBounds_toArray, List.set_cons_zero, List.set_cons_succ]
    refine wpAnyH_take (i := 5) (v := .slice sa (sz k).length sc) rfl (by kernel_rfl) (by kernel_rfl) (by kernel_rfl) (fun _ _ _ h => h) (Or.inl ⟨by rfl, fun w' s1 => by go_simp⟩) hS ?_
    simp only [Act.put, List.setIfInBounds_toArray, List.set_cons_zero, List.set_cons_succ]
    refine wpAnyH_ready (rs := [4, 6]) (by kernel_rfl) (by simp) ?_
    refine AllReadyH.cons rfl (fun K' hK => ?_) (AllReadyH.cons rfl (fun K' hK => ?_) AllReadyH.nil)
    case' refine_1 =>
     go_simp
     refine hK.out _ _ hS (fun _ => ?_)
     refine wpAnyH_ready (rs := [6]) (by kernel_rfl) (by simp) ?_
     refine AllReadyH.cons rfl (fun K' hK => ?_) AllReadyH.nil
     go_simp
     refine (hCl wr.drew hU.drew).mono ?_
     rintro e w1 ⟨v1, rfl, hown1, hO1, hfr1⟩
     obtain ⟨a1, k1, rfl⟩ := own_slice hown1
     have U1 : Old wr w1 := Upd.trans ((Upd.refl _ wr).drew) hO1
     have b1 := Old.cellOf' U1 hbx
     have e2 := Old.cellOf' U1 e1
     have hl1 := World.block_lt_of_cell? w1 _ e2
     have hl2 := World.block_lt_of_cell? w1 _ b1
     refine hK.out _ _ b1 (fun _ => ?_)
     refine wpAnyH_ready (rs := [7]) (by kernel_rfl) (by simp) ?_
     refine AllReadyH.cons rfl (fun K' hK => ?_) AllReadyH.nil
     go_simp
     refine hK.out _ _ (by go_simp) (fun _ => ?_)
    case' refine_2 =>
     go_simp
     refine (hCl wr.drew hU.drew).mono ?_
     rintro e w1 ⟨v1, rfl, hown1, hO1, hfr1⟩
     obtain ⟨a1, k1, rfl⟩ := own_slice hown1
     have U1 : Old wr w1 := Upd.trans ((Upd.refl _ wr).drew) hO1
     have b1 := Old.cellOf' U1 hbx
     have e2 := Old.cellOf' U1 e1
     have hl1 := World.block_lt_of_cell? w1 _ e2
     have hl2 := World.block_lt_of_cell? w1 _ b1
     refine hK.out _ _ b1 (fun _ => ?_)
     refine wpAnyH_ready (rs := [4, 7]) (by kernel_rfl) (by simp) ?_
     refine AllReadyH.cons rfl (fun K' hK => ?_) (AllReadyH.cons rfl (fun K' hK => ?_) AllReadyH.nil)
    case' refine_2.refine_1 =>
     go_simp
     refine hK.out _ _ b1 (fun _ => ?_)
     refine wpAnyH_ready (rs := [7]) (by kernel_rfl) (by simp) ?_
     refine AllReadyH.cons rfl (fun K' hK => ?_) AllReadyH.nil
     go_simp
     refine hK.out _ _ (by go_simp) (fun _ => ?_)
    case' refine_2.refine_2 =>
     go_simp
     refine hK.out _ _ (by go_simp) (fun _ => ?_)
     refine wpAnyH_ready (rs := [4]) (by kernel_rfl) (by simp) ?_
     refine AllReadyH.cons rfl (fun K' hK => ?_) AllReadyH.nil
     go_simp
     refine hK.out _ _ (by go_simp) (fun _ => ?_)
    all_goals
     refine wpAnyH_ready (rs := [8]) (by kernel_rfl) (by simp) ?_
     refine AllReadyH.cons rfl (fun K' hK => ?_) AllReadyH.nil
     refine wp_append_mk (.tmp 42) (.tmp 45) 143 rfl 142 i0 (.slice none 0 0) 1 24 Tryz.underlying143 hi0 hz0 hz1 hz2 rfl (by decide) (.slice ra k rc) k _ rfl (Upd.own ((Upd.refl (fun _ => False) w1).alloc _) (Upd.own U1 hown (fun _ _ x => x)) (fun _ _ x => x)) ⟨w1.heap.size, 0, none⟩ 1 1 [.slice a1 (sz k).length k1] rfl rfl (one_new w1 _ _) (by simp [Value.oneCell']) (by unfold maxLen; omega) (by omega) ?_
     intro v2 w2 hown2 hgrow2 hfr2
     obtain ⟨a2, c2, rfl⟩ := own_slice hown2
     have U2 : Upd (fun b => (Value.slice ra k rc).ownBlock = some b) wr w2 := (((U1.mono (fun _ _ x => x.elim)).alloc _).grown hgrow2 (fun k hk => .inl hk))
     have nF : ∀ b, b < w.heap.size + 4 → ¬ (Value.slice ra k rc).ownBlock = some b := fun b hb e => by have := hrb b e; omega
     have b2 := U2.cellOf hbx (nF _ (by omega))
     have hC2 := U2.has hC (nF _ (by omega))
     have e3 : w2.cell? ⟨w.heap.size + 1, 1, none⟩ = some (.slice ra k rc) := hC2.cell 1
     have f3 : w2.frozen? ⟨w.heap.size + 1, 1, none⟩ = false := hC2.frozen 1
     have hl3 := World.block_lt_of_cell? w2 _ e3
     refine hK.out _ _ b2 (fun _ => ?_)
     refine wpAnyH_take (i := 9) (v := .pointer (some ⟨w.heap.size + 1, 0, none⟩)) rfl (by kernel_rfl) (by kernel_rfl) (by kernel_rfl) (fun _ _ _ h => h) (Or.inl ⟨by rfl, fun w' s1 => by go_simp⟩) b2 ?_
     simp only [Act.put, List.setIfInBounds_toArray, List.set_cons_zero, List.set_cons_succ]
     refine wpAnyH_take (i := 10) (v := .pointer (some ⟨w.heap.size + 1, 1, none⟩)) rfl (by kernel_rfl) (by kernel_rfl) (by kernel_rfl) (fun _ _ _ h => h) (Or.inl ⟨by rfl, fun w' s1 => by go_simp⟩) b2 ?_
     simp only [Act.put, List.setIfInBounds_toArray, List.set_cons_zero, List.set_cons_succ]
     refine wpAnyH_ready (rs := [11]) (by kernel_rfl) (by simp) ?_
     refine AllReadyH.cons rfl (fun K' hK => ?_) AllReadyH.nil
     go_simp
     refine hK.out _ _ (by go_simp) (fun _ => wpAnyH_done (by kernel_rfl) ?_ _)
     refine only_n ?_
     have hrb2 : ∀ b, (Value.slice a2 (k + 1) c2).ownBlock = some b → w.heap.size + 4 ≤ b := fun b hb => by
      rcases hfr2 b hb with e | e
      ·exact hrb b e
      ·have := U1.size
       rw [World.size_alloc] at e
       omega
     have tne : ∀ b cur, (Value.slice ra k rc).ownBlock = some b → ¬ Has wr b 47 cur := fun b cur hb hh => by
      obtain ⟨cm, hcm⟩ := own_has' hown hb
      unfold Has at hh hcm
      rw [hcm] at hh
      injection hh with hh
      injection hh with _ h2 _
      revert h2; decide
     have U12 : Upd (fun b => (Value.slice ra k rc).ownBlock = some b) w1 w2 := (((Upd.refl _ w1).alloc _).grown hgrow2 (fun k hk => .inl hk))
     have szU := U1.size
     have hrwl : ∀ b, (Value.slice ra k rc).ownBlock = some b → b < wr.heap.size := fun b hb => own_lt'' hown hb
     have hnew : ∀ b, (Value.slice a1 (sz k).length k1).ownBlock = some b → wr.heap.size ≤ b := fun b hb => hfr1 b hb
     have U3 := (Upd.refl (fun b => b = w.heap.size + 1) w2).setCell ⟨w.heap.size + 1, 1, none⟩ (.slice a2 (k + 1) c2) (.inl rfl)
     have hJn : XcJ w M sz D L (k + 1) (w2.setCell ⟨w.heap.size + 1, 1, none⟩ (.slice a2 (k + 1) c2)) := by
      have hD3 : w2.heap[D]? = some (.deferred (some [])) := (U2.keep D (Array.getElem?_eq_some_iff.1 hD2).1 (fun e => by
       obtain ⟨cur, hcur⟩ := own_has' hown e
       unfold Has at hcur
       rw [hcur] at hD2
       cases hD2)).trans hD2
      have hxm3 : XcM w w2 M L 500 mv2 n2 key2 val2 kz2 := hxm2.upd (Nat.le_refl _) U2 (fun e => by have := hrb _ e; omega) (fun b hb e => by
       obtain ⟨c1, h1⟩ := own_has' hxm2.kv.om.own hb
       obtain ⟨c2, h2⟩ := own_has' hown e
       unfold Has at h1 h2
       rw [h1] at h2
       injection h2 with h2
       injection h2 with _ h2 _
       revert h2; decide) (fun i hi b hb e => by obtain ⟨c1, h1⟩ := own_has' (hxm2.kv.row i hi) hb; exact tne b c1 e h1)
      refine ⟨.slice a2 (k + 1) c2, fun i => if i = k then .slice a1 (sz k).length k1 else sv' i, mv2, n2, key2, val2, kz2, hxm3.upd (Nat.le_refl _) U3 (by omega) (fun b hb e => by have := hxm2.mb b hb; omega) (fun i hi b hb e => by have := (hxm2.kv.bl i hi b hb).1; omega), ⟨⟨tC, hC2.set 1 _⟩, ?_, hrb2, fun i hi => ?_, fun i hi b hb => ?_, fun i j hij hj b c hb hc => ?_⟩, U3.cellOf b2 (by omega), hL4, Nat.le_trans (Nat.le_trans hsz U2.size) U3.size, (hU.after U2 (fun b hb e => by have := hrb b e; omega)).after U3 (fun b hb e => by omega), (U3.keep D (Array.getElem?_eq_some_iff.1 hD3).1 (by show D ≠ _; omega)).trans hD3⟩
      ·have h := Upd.own U3 hown2 (fun b hb e => by have := hrb2 b hb; omega)
       have e : ((List.range (k + 1)).map fun j => if j = k then Value.slice a1 (sz k).length k1 else sv' j) = (List.range k).map sv' ++ [.slice a1 (sz k).length k1] := by
        rw [List.range_succ, List.map_append]
        congr 1
        ·refine List.map_congr_left fun j hj => ?_
         have : j ≠ k := by have := List.mem_range.1 hj; omega
         simp [this]
        ·simp
       rw [e]
       exact h
      ·by_cases e : i = k
       ·subst e
        simp only [if_true]
        exact Upd.own U3 (Upd.own U12 hown1 (fun b hb e => by have := hnew b hb; have := hrwl b e; omega)) (fun b hb e => by have := hnew b hb; have := World.block_lt_of_cell? wr _ hbx; simp only at this; omega)
       ·simp only [if_neg e]
        have hik : i < k := by omega
        exact Upd.own U3 (Upd.own U2 (hrw i hik) (fun b hb e => by obtain ⟨c1, h1⟩ := own_has' (hrw i hik) hb; exact tne b c1 e h1)) (fun b hb e => by have := hsb i hik b hb; omega)
      ·by_cases e : i = k
       ·simp only [if_pos e] at hb
        have := hnew b hb; omega
       ·simp only [if_neg e] at hb
        exact hsb i (by omega) b hb
      ·have hik : i ≠ k := by omega
       simp only [if_neg hik] at hb
       by_cases e : j = k
       ·simp only [if_pos e] at hc
        have := hnew c hc
        have := own_lt'' (hrw i (by omega)) hb
        omega
       ·simp only [if_neg e] at hc
        exact hinc i j hij (by omega) b c hb hc
     go_wp2
     go_roundw
     case rel => exact ⟨k + 1, by omega, by go_num, hJn⟩
     case measure => simp [intOf]; omega
   ·obtain rfl : k = m := by omega
    go_wp2
    refine ⟨by simp, .inl ⟨_, _, rfl, run_takeDeferred hD2, ?_⟩⟩
    have hGG : wr.grownBy (wr.putObj D (.deferred none)) (some D) := grownBy_putObj' _ D _
    have hrr : ∀ r, some D = some r → ∃ o : Obj, wr.heap[r]? = some o ∧ o.isCells = false := fun r e => by cases e; exact ⟨_, hD2, rfl⟩
    refine ⟨_, results_tmp rfl _ _ _, rfl, hU.grown hGG (fun k e => by cases e; exact .inr (by omega)), rv, sv', mv2, n2, key2, val2, kz2, L, hxm2.grown (Nat.le_refl _) hGG hrr, ⟨⟨tC, has_own _ tC (fun (_ : Unit) => _) () _ _ _ hC hGG hrr⟩, own_grown hown hGG hrr, hrb, fun i hi => own_grown (hrw i hi) hGG hrr, hsb, hinc⟩, hL4⟩
 case stop =>
  rintro D cd pre V _ _ h _
  exact h.elim
end Go.M
namespace Go.M
open Go.Proofs Go.RowKit Go.Shelf
attribute [local go_sem] Oper.semAt_some
theorem xslots {w : World} {X S m c : Nat} (hX1 : w.cell? ⟨X, 1, none⟩ = some (.slice (some ⟨S, 0, none⟩) m c)) (hm : 0 < m) (hm2 : m ≤ 10) :
 Calls Tryz.prog 77 #[.pointer (some ⟨X, 0, none⟩)] w fun e w' => e = .returned (.int .i64 ((m : Nat) : Int)) ∧ w = w' := by
 have g4 : (0 : Int) < (m : Int) := by omega
 go_enter Tryz.func77, Tryz.ntmps77
 go_wp2
 go_ret
 exact ⟨rfl, rfl⟩
set_option maxHeartbeats 1600000 in
theorem keep_walk {w : World} {X O S m c i : Nat} {v : Value} {es : List Ent} {sv : ByteArray → Value} {Z : ByteArray → List Ent} (hI : ∀ ky, IxK w X O S m c ky (sv ky) (Z ky)) (him : i < m) (hm2 : m ≤ 10) (hS : w.cell? ⟨S, i, none⟩ = some v) (own : w.ownsRow 0 47 6 v es.length (rowOf es)) (hl : es.length ≤ 500)
 (hcopy : ∀ W, Old w W → Calls Tryz.prog 28 #[.pointer (some ⟨X, 0, none⟩)] W fun e w' => (∃ C, e = .returned (.pointer (some ⟨C, 0, none⟩))) ∧ Old W w') :
 Calls Tryz.prog 87 #[.pointer (some ⟨X, 0, none⟩), .int .i64 ((i : Nat) : Int)] w fun e w' => (∃ a n c, e = .returned (.tuple #[.slice a n c, .int .i64 0]) ∧ n = (es.filter fun x => needE (Z x.key) x).length) ∧ Old w w' := by
 have hX1 := (hI ⟨#[]⟩).x1
 refine (callsIn_wide (n := 8)).1 ?_
 refine callsIn_of_wp_marks Tryz.func87 rfl trivial ?_ rfl
 simp only [Tryz.ntmps87, List.size_toArray, List.length_cons, List.length_nil, Nat.reduceAdd, Nat.reduceSub, Array.replicate_succ, Array.replicate_zero, List.push_toArray, List.append_toArray, List.nil_append, List.cons_append]
 refine wpIn_wide.2 ?_
 have HC := Lib.hid hcopy
 have HI := Lib.hid hI
 have HW := Lib.hid own
 have HXS := Lib.hid (fun (W : World) (U : Old w W) => xslots (Old.cellOf' U hX1) (by omega) hm2)
 have hXl : X < w.heap.size := World.block_lt_of_cell? w _ hX1
 have kX : ∀ k, X < w.heap.size + k := fun k => by omega
 have g1 : decide ((i : Int) < 0) = false := by simp
 have g2 : decide (m ≤ i) = false := by simp; omega
 clear hcopy hI own
 go_wp2_with (first | (go_at_call 28; refine (HC.out _ ?_).mono ?_; (exact (Upd.refl _ w).alloc _); rintro e w1 ⟨⟨C, rfl⟩, hO⟩; have p0 : w1.cell? ⟨w.heap.size, 0, none⟩ = some (.pointer (some ⟨X, 0, none⟩)) := Old.cellOf' hO (by go_simp); have l0 := World.block_lt_of_cell? w1 _ p0; have H1 := Lib.hid (show Old w w1 from Upd.trans ((Upd.refl _ w).alloc _) hO); clear hO HC) | (go_at_call 28; refine Hid.out ?_) | (go_at_call 77; refine (HXS.out w1 H1.out).mono ?_; rintro e w2 ⟨rfl, rfl⟩) | (go_at_call 77; refine Hid.out ?_) | go_in)
 obtain ⟨W0, hW0⟩ : ∃ W0, (((w1.alloc (.cells #[.slice none 0 0] 33)).alloc (.cells #[.pointer (some ⟨X, 0, none⟩)] 39)).alloc (.cells #[.int .i64 ((i : Nat) : Int)] 3)) = W0 := ⟨_, rfl⟩
 have bO : Boxed W0 w1.heap.size 33 (.slice none 0 0) := by rw [← hW0]; exact ((Boxed.new w1 _ _).alloc _).alloc _
 have c2 : W0.cell? ⟨w1.heap.size + 1, 0, none⟩ = some (.pointer (some ⟨X, 0, none⟩)) := by rw [← hW0]; clear hW0 bO; go_simp
 have c3 : W0.cell? ⟨w1.heap.size + 1 + 1, 0, none⟩ = some (.int .i64 ((i : Nat) : Int)) := by rw [← hW0]; clear hW0 bO c2; go_simp
 have U1 : Old w1 W0 := by rw [← hW0]; exact (((Upd.refl _ w1).alloc _).alloc _).alloc _
 have z0 : W0.heap.size = w1.heap.size + 3 := by rw [← hW0]; simp
 have hX1' := Old.cellOf' H1.out hX1
 have hS' := Old.cellOf' H1.out hS
 rw [hW0]
 clear hW0
 have hz := withQ_map (fun _ => True) es (fun _ _ => trivial)
 have hE : EntsB w1.heap.size w1 v (withQ (fun _ => True) es (fun _ _ => trivial)) := EntsB.of_own (Upd.own H1.out HW.out (fun _ _ x => x)) _ hz
 generalize withQ (fun _ => True) es (fun _ _ => trivial) = zs at hz hE
 have hzl : zs.length = es.length := by rw [← hz, List.length_map]
 have HZ := Lib.hid hz
 clear hz
 obtain ⟨i0, hi0, hz0, hz1', hz2⟩ := info_parts info_entA
 refine (wpIn_wide (n := 8)).1 ?_
 refine wpIn_rangeFunc_ownH rfl (by omega) (gf := 168) (lb := #[.pointer (some ⟨w1.heap.size + 1, 0, none⟩), .pointer (some ⟨w1.heap.size + 1 + 1, 0, none⟩)]) rfl trivial (enters_of Tryz.func168 (by kernel_rfl) rfl)
  (slot_stops 7 (by omega) (w1.heap.size + 1) (w1.heap.size + 1 + 1) X S i m c w1.heap.size v zs (by omega) W0 (by omega) c2 c3 (Old.cellOf' U1 hX1') (Old.cellOf' U1 hS') him (hE.old U1)) belowK_t (belowK_b (by omega)) (Below.refl _ _) (fun _ => rfl)
  (fun (pre : List {x : Ent // True}) V => (∃ v, Boxed V w1.heap.size 33 v ∧ V.ownsRow w1.heap.size 47 6 v ((pre.map (·.1)).filter fun y => needE (Z y.key) y).length (rowOf ((pre.map (·.1)).filter fun y => needE (Z y.key) y)) ∧ ((pre.map (·.1)).filter fun y => needE (Z y.key) y).length ≤ pre.length) ∧ Below w1.heap.size w1 V)
  (fun _ _ _ => False)
  (OwnFrom.and (Own.from (holdsRow_own w1.heap.size w1.heap.size 33 47 6 (fun (pre : List {x : Ent // True}) => ((pre.map (·.1)).filter fun y => needE (Z y.key) y).length) (fun (pre : List {x : Ent // True}) => rowOf ((pre.map (·.1)).filter fun y => needE (Z y.key) y)) (fun pre _ => ((pre.map (·.1)).filter fun y => needE (Z y.key) y).length ≤ pre.length)) _) (ownFrom_below (Nat.le_refl _) (by omega)))
  (fun _ _ _ _ _ hs _ _ => hs)
  ⟨⟨_, bO, World.ownsRow_nil _ _ _ _, Nat.le_refl _⟩, below_of_upd U1 (Nat.le_refl _) (fun _ _ x => x)⟩
  (fun x a' V => ∃ Bx, w1.heap.size < Bx ∧ Has V Bx 47 #[.int .i64 ((x.1.seq : Nat) : Int), .string x.1.key, .bool x.1.del, .int .i64 ((x.1.slot : Nat) : Int), .int .i64 ((x.1.off : Nat) : Int), .int .i64 ((x.1.size : Nat) : Int)] ∧ a' = { tmps := #[.pointer (some ⟨X, 0, none⟩), .int .i64 ((i : Nat) : Int), .pointer (some ⟨w.heap.size, 0, none⟩), undef, .slice none 0 0, .int .i64 0, .pointer (some ⟨w1.heap.size, 0, none⟩), .pointer (some ⟨Bx, 0, none⟩), .bool false, .pointer (some ⟨X, 0, none⟩), .pointer (some ⟨C, 0, none⟩), .bool false, .bool false, .int .i64 ((i : Nat) : Int), .bool false, .bool false, .int .i64 ((i : Nat) : Int), .pointer (some ⟨X, 0, none⟩), .int .i64 ((m : Nat) : Int), .bool false, .bool false, .pointer (some ⟨X, 0, none⟩), .int .i64 ((i : Nat) : Int), .func (.func 168) #[] #[.pointer (some ⟨w1.heap.size + 1, 0, none⟩), .pointer (some ⟨w1.heap.size + 1 + 1, 0, none⟩)], x.1.val, undef, undef, undef, undef, undef, undef, undef, undef], defers := [] })
  (fun x a' _ A B row hs hg hr => by obtain ⟨Bx, h1, h2, h3⟩ := hs; exact ⟨Bx, h1, has_own Bx _ (fun (_ : Unit) => #[.int .i64 ((x.1.seq : Nat) : Int), .string x.1.key, .bool x.1.del, .int .i64 ((x.1.slot : Nat) : Int), .int .i64 ((x.1.off : Nat) : Int), .int .i64 ((x.1.size : Nat) : Int)]) () A B row h2 hg (fun r e => (hr r e).2), h3⟩)
  ?assign ?body ?done ?stop
 case assign =>
  rintro l pre x V K ⟨⟨v, hv, hrow, hle⟩, hB1⟩ hK
  unfold Ent.val
  gi_wp2
  exact hK _ _ ((KeepsOthers.alloc _ _).from _) ((Below.refl _ V).alloc hB1.size _) ⟨⟨v, hv.alloc _, hrow.alloc _, hle⟩, hB1.alloc hB1.size _⟩ ⟨V.heap.size, hv.lt, Has.new V _ _, rfl⟩
 case body =>
  rintro l pre x a' V hl2 ⟨r, hr⟩ ⟨⟨v, hv, hrow, hle⟩, hB1⟩ ⟨Bx, hBx, hX, rfl⟩ hlt
  have hc0 : V.cell? ⟨w.heap.size, 0, none⟩ = some (.pointer (some ⟨X, 0, none⟩)) := Old.cellOf' (old_of_below hB1) p0
  have HN := Lib.hid (needed_walk (e := x.1) (((HI.out x.1.key).old H1.out).old (old_of_below hB1)))
  have hfl : (((pre ++ [x]).map (·.1)).filter fun y => needE (Z y.key) y) = ((pre.map (·.1)).filter fun y => needE (Z y.key) y) ++ (if needE (Z x.1.key) x.1 then [x.1] else []) := by
   rw [List.map_append, List.filter_append]
   congr 1
   simp only [List.map_cons, List.map_nil, List.filter_cons, List.filter_nil]
  have HFL := Lib.hid hfl
  clear hfl
  obtain ⟨va, vc, rfl⟩ := own_slice hrow
  have x0 : V.cell? ⟨Bx, 0, none⟩ = some (.int .i64 ((x.1.seq : Nat) : Int)) := hX.cell 0
  have x1 : V.cell? ⟨Bx, 1, none⟩ = some (.string x.1.key) := hX.cell 1
  have x2 : V.cell? ⟨Bx, 2, none⟩ = some (.bool x.1.del) := hX.cell 2
  have x3 : V.cell? ⟨Bx, 3, none⟩ = some (.int .i64 ((x.1.slot : Nat) : Int)) := hX.cell 3
  have x4 : V.cell? ⟨Bx, 4, none⟩ = some (.int .i64 ((x.1.off : Nat) : Int)) := hX.cell 4
  have x5 : V.cell? ⟨Bx, 5, none⟩ = some (.int .i64 ((x.1.size : Nat) : Int)) := hX.cell 5
  unfold Ent.val at HN ⊢
  have oldB : ∀ w2, Old V w2 → Boxed w2 w1.heap.size 33 (.slice va ((pre.map (·.1)).filter fun y => needE (Z y.key) y).length vc) ∧ w2.ownsRow w1.heap.size 47 6 (.slice va ((pre.map (·.1)).filter fun y => needE (Z y.key) y).length vc) ((pre.map (·.1)).filter fun y => needE (Z y.key) y).length (rowOf ((pre.map (·.1)).filter fun y => needE (Z y.key) y)) ∧ Has w2 Bx 47 #[.int .i64 ((x.1.seq : Nat) : Int), .string x.1.key, .bool x.1.del, .int .i64 ((x.1.slot : Nat) : Int), .int .i64 ((x.1.off : Nat) : Int), .int .i64 ((x.1.size : Nat) : Int)] ∧ w1.heap.size ≤ w2.heap.size := fun w2 O => ⟨(O.keep _ hv.lt (fun x => x)).trans hv, Upd.own O hrow (fun _ _ x => x), O.has hX, Nat.le_trans hB1.size O.size⟩
  cases hb : needE (Z x.1.key) x.1 with
  | false =>
   rw [hb] at HN HFL
   gi_wp2_with (first | (refine ⟨trivial, ?_⟩; gi_at_call 167; refine (callsIn_wide.2 HN.out).mono ?_; rintro e w2 ⟨rfl, hO⟩))
   have hB2 := below_of_upd hO hB1.size (fun _ _ x => x)
   refine ⟨keepsFrom_upd hO (fun b hb => hb.elim), hB2, ?_, hB1.trans hB2⟩
   rw [HFL.out]
   simp only [Bool.false_eq_true, if_false, List.append_nil]
   exact ⟨_, (oldB _ hO).1, (oldB _ hO).2.1, by simp; simp at hle; omega⟩
  | true =>
   rw [hb] at HN HFL
   gi_wp2_with (first | (refine ⟨trivial, ?_⟩; gi_at_call 167; refine (callsIn_wide.2 HN.out).mono ?_; rintro e w2 ⟨rfl, hO⟩; obtain ⟨hv2, hrow2, hX2, hsz2⟩ := oldB _ hO; have hc := hv2.cell; have y0 : w2.cell? ⟨Bx, 0, none⟩ = some (.int .i64 ((x.1.seq : Nat) : Int)) := hX2.cell 0; have y1 : w2.cell? ⟨Bx, 1, none⟩ = some (.string x.1.key) := hX2.cell 1; have y2 : w2.cell? ⟨Bx, 2, none⟩ = some (.bool x.1.del) := hX2.cell 2; have y3 : w2.cell? ⟨Bx, 3, none⟩ = some (.int .i64 ((x.1.slot : Nat) : Int)) := hX2.cell 3; have y4 : w2.cell? ⟨Bx, 4, none⟩ = some (.int .i64 ((x.1.off : Nat) : Int)) := hX2.cell 4; have y5 : w2.cell? ⟨Bx, 5, none⟩ = some (.int .i64 ((x.1.size : Nat) : Int)) := hX2.cell 5) | (gi_at_builtin; refine wpListIn_append_own _ rfl _ _ 33 rfl w1.heap.size 47 i0 (.agg #[.int .i64 0, .string ⟨#[]⟩, .bool false, .int .i64 0, .int .i64 0, .int .i64 0]) 6 56 Tryz.underlying33 hi0 hz0 hz1' hz2 rfl (by decide) _ _ _ rfl (hrow2.alloc _) ⟨w2.heap.size, 0, none⟩ 1 1 x.1.cells rfl rfl (ent_news w2 x.1 _) (ent_one x.1) (by unfold maxLen; omega) (by omega) (by simp; omega) ?_; intro v' w3 hown' hgrow _; obtain ⟨g', cap', rfl⟩ := ownsRow_succ hown'; obtain ⟨hv1, hv3, hr3, hk3, hb3⟩ := hv2.appended (by decide) hrow2 hsz2 (Nat.le_refl _) hown' hgrow; have hc1 := hv1.cell; have hf1 := hv1.frozen))
   refine ⟨(keepsFrom_upd hO (fun b hb => hb.elim)).trans (hk3.from _), (below_of_upd hO hB1.size (fun _ _ x => x)).trans hb3, ?_, hB1.trans ((below_of_upd hO hB1.size (fun _ _ x => x)).trans hb3)⟩
   rw [HFL.out]
   simp only [if_true]
   refine ⟨_, hv3, ?_, by simp at hle ⊢; omega⟩
   rw [rowOf_append, List.length_append]
   simpa [rowOf] using hr3
 case done =>
  rintro D ys V hD rfl ⟨⟨v, hv, hrow, hle⟩, hB⟩ hK
  have hc := hv.cell
  obtain ⟨va, vc, rfl⟩ := own_slice hrow
  rw [HZ.out] at hrow hc
  go_wp2
  refine ⟨by simp, .inl ⟨_, _, rfl, run_takeDeferred hK, ?_⟩⟩
  exact ⟨_, results_tmp2 rfl _ _ _, ⟨_, _, _, rfl, rfl⟩, Upd.trans H1.out (old_of_below (hB.trans (belowK_b (w := w1) (Nat.le_refl _) V D _ _ (by omega) hK rfl rfl)))⟩
 case stop =>
  rintro D cd pre V _ _ h _
  exact h.elim
theorem redundant_walk {w : World} {X O S m c i : Nat} {v : Value} {es : List Ent} {sv : ByteArray → Value} {Z : ByteArray → List Ent} (hI : ∀ ky, IxK w X O S m c ky (sv ky) (Z ky)) (him : i < m) (hm2 : m ≤ 10) (hS : w.cell? ⟨S, i, none⟩ = some v) (own : w.ownsRow 0 47 6 v es.length (rowOf es)) (hl : es.length ≤ 500)
 (hcopy : ∀ W, Old w W → Calls Tryz.prog 28 #[.pointer (some ⟨X, 0, none⟩)] W fun e w' => (∃ C, e = .returned (.pointer (some ⟨C, 0, none⟩))) ∧ Old W w') :
 Calls Tryz.prog 30 #[.pointer (some ⟨X, 0, none⟩), .int .i64 ((i : Nat) : Int)] w fun e w' => e = .returned (.tuple #[.bool ((es.filter fun x => needE (Z x.key) x).length == 0), .int .i64 0]) ∧ Old w w' := by
 have HK := Lib.hid (keep_walk hI him hm2 hS own hl hcopy)
 clear hI own hcopy hS
 generalize (es.filter fun x => needE (Z x.key) x).length = n at HK ⊢
 have hn : (((n : Nat) : Int) == 0) = (n == 0) := by rw [Bool.eq_iff_iff]; simp
 go_enter Tryz.func30, Tryz.ntmps30
 go_wp2_with (first | (go_at_call 87; refine HK.out.mono ?_; rintro e w1 ⟨⟨a, n', c', rfl, rfl⟩, hO⟩))
 go_ret2
 exact ⟨rfl, hO⟩
end Go.M
