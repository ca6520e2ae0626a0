/- The tables are so, by looks that the kernel takes. -/
import Derived.Test.YtfpiabkkelhgbaaGreatDoorE12
import Derived.ProofKit
import Derived.LaidMore
import Derived.OpenShut
import Derived.ChangeOld
import GoSem.ClaimJoined
import Derived.WideShapes
set_option linter.unusedVariables false
namespace Go.X
noncomputable section

def TrAll {α : Type} (p : Nat → α → Prop) : (Nat → Nat) → Tr α → Prop
  | _, .nil => True
  | g, .node v l r => (match v with | some x => p (g 0) x | none => True) ∧ TrAll p (fun n => g (2 * n + 1)) l ∧ TrAll p (fun n => g (2 * n + 2)) r

theorem TrAll.get {α : Type} {p : Nat → α → Prop} : ∀ {t : Tr α} {g : Nat → Nat}, TrAll p g t → ∀ n x, t.get n = some x → p (g n) x := by
  intro t
  induction t with
  | nil => intro g _ n x h; cases h
  | node v l r ihl ihr =>
    intro g h n x hx
    obtain ⟨h1, h2, h3⟩ := h
    rw [Tr.get_node] at hx
    by_cases h0 : n = 0
    · rw [if_pos h0] at hx; subst hx h0; exact h1
    · rw [if_neg h0] at hx
      by_cases ho : n % 2 = 1
      · rw [if_pos ho] at hx
        have := ihl h2 _ x hx
        have e1 : 2 * (n / 2) + 1 = n := by omega
        rw [e1] at this; exact this
      · rw [if_neg ho] at hx
        have := ihr h3 _ x hx
        have e1 : 2 * (n / 2 - 1) + 2 = n := by omega
        rw [e1] at this; exact this

def Tr.allB {α : Type} (p : Nat → α → Bool) : Nat → Nat → Tr α → Bool
  | _, _, .nil => true
  | a, b, .node v l r => (match v with | some x => p b x | none => true) && l.allB p (2 * a) (a + b) && r.allB p (2 * a) (2 * a + b)

theorem Tr.allB_get {α : Type} {p : Nat → α → Bool} : ∀ {t : Tr α} {a b : Nat}, t.allB p a b = true → ∀ n x, t.get n = some x → p (a * n + b) x = true := by
  intro t
  induction t with
  | nil => intro a b _ n x h; cases h
  | node v l r ihl ihr =>
    intro a b h n x hx
    simp only [Tr.allB, Bool.and_eq_true] at h
    obtain ⟨⟨h1, h2⟩, h3⟩ := h
    rw [Tr.get_node] at hx
    by_cases h0 : n = 0
    · rw [if_pos h0] at hx; subst hx h0; rw [Nat.mul_zero, Nat.zero_add]; exact h1
    · rw [if_neg h0] at hx
      by_cases ho : n % 2 = 1
      · rw [if_pos ho] at hx
        have := ihl h2 _ x hx
        have e1 : 2 * a * (n / 2) + (a + b) = a * n + b := by
          have : n = 2 * (n / 2) + 1 := by omega
          conv => rhs; rw [this]
          rw [Nat.mul_add, Nat.mul_one, ← Nat.mul_assoc, Nat.mul_comm a 2]; omega
        rw [e1] at this; exact this
      · rw [if_neg ho] at hx
        have := ihr h3 _ x hx
        have e1 : 2 * a * (n / 2 - 1) + (2 * a + b) = a * n + b := by
          have : n = 2 * (n / 2 - 1) + 2 := by omega
          conv => rhs; rw [this]
          rw [Nat.mul_add, ← Nat.mul_assoc, Nat.mul_comm a 2]; omega
        rw [e1] at this; exact this

def fldsB (P : Program) : List Field → List FldI → Bool
  | [], [] => true
  | f :: fs, g :: gs => Nat.beq f.offset g.off && Nat.beq f.type g.ty && Nat.beq (P.cellsOf f.type) g.size && fldsB P fs gs
  | _, _ => false

theorem fldsB_of {P : Program} : ∀ {fs : List Field} {gs : List FldI}, fldsB P fs gs = true → (fs.map fun f => (f.offset, f.type, P.cellsOf f.type)) = gs.map (fun g => (g.off, g.ty, g.size)) := by
  intro fs
  induction fs with
  | nil => intro gs h; cases gs with
    | nil => rfl
    | cons g gs => cases h
  | cons f fs ih =>
    intro gs h
    cases gs with
    | nil => cases h
    | cons g gs =>
      simp only [fldsB, Bool.and_eq_true] at h
      obtain ⟨⟨⟨h1, h2⟩, h3⟩, h4⟩ := h
      simp only [List.map_cons]
      rw [ih h4, nbeq_of h3, nbeq_of h1, nbeq_of h2]

def tkB (P : Program) : TypeDesc → TK → Bool
  | .bool, .bool => true
  | .int k, .int k' => kEq k k'
  | .string, .str => true
  | .pointer e, .ptr e' => Nat.beq e e'
  | .slice e, .slice e' => Nat.beq e e'
  | .array n e, .arr n' e' => Nat.beq n n' && Nat.beq e e'
  | .struct fs, .struct gs => fldsB P fs.toList gs
  | .interface _, .iface => true
  | .func .., .func => true
  | .map k e, .map k' e' => Nat.beq k k' && Nat.beq e e'
  | .unsafePointer, .uptr => true
  | .bool, .other | .int _, .other | .string, .other | .pointer _, .other | .slice _, .other | .func .., .other | .interface _, .other | .map .., .other | .chan .., .other | .tuple _, .other | .unsafePointer, .other | .float _, .other | .complex _, .other | .invalid, .other | .named .., .other => true
  | _, _ => false

theorem tkB_of {P : Program} {d : TypeDesc} {k : TK} (h : tkB P d k = true) : TKok P d k := by
  unfold tkB at h
  split at h <;> first
    | trivial
    | exact kEq_of h
    | exact nbeq_of h
    | (simp only [Bool.and_eq_true] at h; exact ⟨nbeq_of h.1, nbeq_of h.2⟩)
    | exact fldsB_of h
    | cases h

def haveB (P : Program) : TypeDesc → Bool
  | .struct fs => fs.toList.all fun f => (P.info? f.type).isSome
  | _ => true

def namesB : TypeDesc → Bool
  | .struct fs => fs.toList.all fun f => !(f.name == "_")
  | _ => true

def zeroB (l : List AV) : Option (List AV) → Bool
  | some m => AV.sames m l
  | none => false

def zeroB1 (l : List AV) : Option Value → Bool
  | some z => zeroB l (ofConsts z.cells.toList)
  | none => false

def zkB (b : Bool) : Option Value → Bool
  | some z => isAggV z == b
  | none => false

def tyB (P : Program) (t : TypeId) (ti : TyI) : Bool :=
  match P.info? t, P.underlying t with
  | some i, some d => Nat.beq i.size ti.size && Nat.beq i.bytes ti.bytes && zeroB1 ti.zero i.zero && Nat.beq ti.zero.length ti.size && tkB P d ti.k && haveB P d &&
      (!ti.cmp || (!(P.stoodInHeld t) && !(P.eqGuardType P.depth t) && namesB d)) && zkB ti.isAgg i.zero
  | _, _ => false

theorem tyB_of {P : Program} {t : TypeId} {ti : TyI} (h : tyB P t ti = true) : TyOk P t ti := by
  unfold tyB at h
  split at h
  · rename_i i d hi hd
    simp only [Bool.and_eq_true] at h
    obtain ⟨⟨⟨⟨⟨⟨⟨h1, h2⟩, h3⟩, h4⟩, h5⟩, h6⟩, h7⟩, h8⟩ := h
    refine ⟨⟨i, hi, nbeq_of h1, nbeq_of h2, ?_⟩, nbeq_of h4, ?_, ⟨d, hd, tkB_of h5⟩, ?_, ?_⟩
    · unfold zeroB1 at h3
      split at h3
      · rename_i z hz
        unfold zeroB at h3
        split at h3
        · rename_i m hm
          exact ⟨z, hz, by rw [hm, AV.sames_of _ _ h3]⟩
        · cases h3
      · cases h3
    · cases hz : i.zero with
      | none => rw [hz] at h8; cases h8
      | some z => rw [hz] at h8; exact ⟨i, z, hi, hz, by simpa [zkB] using h8⟩
    · intro fs hfs f hf
      rw [hd] at hfs; cases hfs
      simp only [haveB, List.all_eq_true] at h6
      exact Option.isSome_iff_exists.1 (h6 f (by simpa using hf))
    · intro hc
      rw [hc] at h7
      simp only [Bool.not_true, Bool.false_or, Bool.and_eq_true, Bool.not_eq_true'] at h7
      refine ⟨h7.1.1, h7.1.2, fun fs hfs f hf => ?_⟩
      rw [hd] at hfs; cases hfs
      simp only [namesB, List.all_eq_true] at h7
      have := h7.2 f (by simpa using hf)
      simpa using this
  · cases h

theorem xpok_of {P : Program} {X : XP} (h1 : X.tys.allB (tyB P) 1 0 = true) (h2 : X.glob = P.globals.size) : XPok P X := by
  refine ⟨fun t ti ht => ?_, h2⟩
  have := Tr.allB_get h1 t ti ht
  rw [Nat.one_mul, Nat.add_zero] at this
  exact tyB_of this

def nameB (fn : Func) : Bool := !(fn.name == "runtime.NumGoroutine")

theorem fnok_of {P : Program} {X : XP} (h1 : TrAll (fun f fn => P.funcs[f]? = some fn) (fun n => n) X.fns) (h2 : X.fns.allB (fun _ fn => nameB fn) 1 0 = true)
    (h3 : TrAll (fun f x => ∀ fn, X.fns.get f = some fn → ExtOk P fn x) (fun n => n) X.ext) : FnOk P X := by
  refine ⟨fun f fn hf => ⟨h1.get f fn hf, ?_⟩, fun f fn x hf _ hx => h3.get f x hx fn hf⟩
  have := Tr.allB_get h2 f fn hf
  simp only [nameB, Bool.not_eq_true'] at this
  exact this

def treeOf : List (Nat × List Ent) → Tr (List Ent)
  | [] => .nil
  | p :: r => (treeOf r).set p.1 (some p.2)

def EntsOk (P : Program) (O : List OraE) (f : FuncId) : List Ent → Prop
  | [] => True
  | e :: r => EntOk P O f e ∧ EntsOk P O f r

def LsOk (P : Program) (O : List OraE) : List (Nat × List Ent) → Prop
  | [] => True
  | p :: r => EntsOk P O p.1 p.2 ∧ LsOk P O r

theorem EntsOk.mem {P : Program} {O : List OraE} {f : FuncId} : ∀ {es : List Ent}, EntsOk P O f es → ∀ en ∈ es, EntOk P O f en
  | [], _, _, h => by cases h
  | e :: r, h, en, hm => by
    rcases List.mem_cons.1 hm with rfl | hm
    · exact h.1
    · exact h.2.mem en hm

theorem memo_tree {P : Program} {O : List OraE} : ∀ {L : List (Nat × List Ent)}, LsOk P O L → MemoOk P O (treeOf L)
  | [], _ => fun f es h => by cases h
  | p :: r, h => fun f es hf => by
    simp only [treeOf] at hf
    rw [Tr.get_set] at hf
    by_cases he : f = p.1
    · rw [if_pos he] at hf; cases hf; rw [he]; exact h.1.mem
    · rw [if_neg he] at hf; exact memo_tree h.2 f es hf

theorem memo_list {P : Program} {O : List OraE} {M : Tr (List Ent)} (L : List (Nat × List Ent)) (h : M = treeOf L) (k : LsOk P O L) : MemoOk P O M := h ▸ memo_tree k

theorem memo_of {P : Program} {O : List OraE} {M : Tr (List Ent)} (h : TrAll (fun f es => ∀ en ∈ es, EntOk P O f en) (fun n => n) M) : MemoOk P O M := fun f es hf => h.get f es hf

theorem entNil {P : Program} {O : List OraE} {f : FuncId} : ∀ en ∈ ([] : List Ent), EntOk P O f en := fun _ h => by cases h

theorem entAll {P : Program} {O : List OraE} {f : FuncId} {e : Ent} {l : List Ent} (h : EntOk P O f e) (k : ∀ en ∈ l, EntOk P O f en) : ∀ en ∈ e :: l, EntOk P O f en := by
  intro en hen
  rcases List.mem_cons.1 hen with rfl | hen
  · exact h
  · exact k en hen

end
end Go.X

/- From what is known of a call to the call at a world whose package variables are laid. -/
namespace Go.X
noncomputable section

/-- the type of a block's cells, as a value -/
def tyAt (w : World) (B : Nat) : Value := match w.heap[B]? with | some (.cells _ t _) => .int .i64 (Int.ofNat t) | _ => .bool false

/-- the environment of a call: the package variables alone; what is not known lies at even places -/
def env0 (NG : Nat) (w : World) (sy : Nat → Value) : Env :=
  ⟨fun b => if b < NG then some (b, 0) else none, fun i => if i % 2 = 1 then tyAt w (i / 2) else sy (i / 2)⟩

theorem env0_ty {NG : Nat} {w : World} {sy : Nat → Value} {b : Nat} {c : Array Value} {t : TypeId} {fz : Nat × Nat} (h : w.heap[b]? = some (.cells c t fz)) : (env0 NG w sy).ty b = t := by
  have h1 : (2 * b + 1) % 2 = 1 := by omega
  have h2 : (2 * b + 1) / 2 = b := by omega
  simp only [Env.ty, env0, h1, if_true, h2, tyAt, h, Int.ofNat_eq_natCast, Int.toNat_natCast]

theorem kept_same {w w' : World} (h1 : w'.os = w.os) (h2 : w'.output = w.output) (h : ∀ B, B < w.heap.size → w'.heap[B]? = w.heap[B]?) (may : MemPlace → Prop) : w.keptBut w' may := by
  refine ⟨h1, h2, fun i hi => ?_⟩
  rw [h i hi]
  have hk := World.keptBut_refl w may
  exact hk.2.2 i hi

theorem chkTrues_mem {X : XP} {n f : Nat} {pre : AHeap} : ∀ {l : List (List AV)}, chkTrues X n f pre l = true → ∀ as ∈ l, chkTrue X n f pre as = true := by
  intro l
  induction l with
  | nil => intro _ as h; cases h
  | cons a r ih =>
    intro h as hm
    simp only [chkTrues, Bool.and_eq_true] at h
    rcases List.mem_cons.1 hm with rfl | hm
    · exact h.1
    · exact ih h.2 as hm

theorem outsTrue_mem : ∀ {l : List (AV × AHeap)}, outsTrue l = true → ∀ p ∈ l, p.1 = .bool true := by
  intro l
  induction l with
  | nil => intro _ p h; cases h
  | cons a r ih =>
    intro h p hm
    simp only [outsTrue, Bool.and_eq_true] at h
    rcases List.mem_cons.1 hm with rfl | hm
    · have h1 := h.1
      unfold isTrueA at h1
      split at h1
      · rename_i b hb; rw [hb, h1]
      · cases h1
    · exact ih h.2 p hm

theorem chkTrues_append {X : XP} {n f : Nat} {pre : AHeap} : ∀ {l m : List (List AV)}, chkTrues X n f pre l = true → chkTrues X n f pre m = true → chkTrues X n f pre (l ++ m) = true := by
  intro l
  induction l with
  | nil => intro m _ h; exact h
  | cons a r ih =>
    intro m h h'
    simp only [chkTrues, Bool.and_eq_true, List.cons_append] at h ⊢
    exact ⟨h.1, ih h.2 h'⟩

theorem top_append {X : XP} {n f : Nat} {pre : AHeap} {l m : List (List AV)} (h : chkTop X n f pre l = true) (h' : chkTop X n f pre m = true) : chkTop X n f pre (l ++ m) = true := by
  simp only [chkTop, Bool.and_eq_true] at h h' ⊢
  exact ⟨h.1, chkTrues_append h.2 h'.2⟩

/-! ### a struct of five bools and a number, opened -/
section
variable {H : Type} {enc : TypeId × Value → H} {P : Program} {w : World} {base : Nat} {sp : Nat → Bool} {held : Bool} {fuel : Nat}

theorem open_bools {n : Nat} {t e : TypeId} {cs : List Value} {bs : List Bool} {p : List MemPlace} (ht : P.underlying t = some (.array n e)) (he : P.underlying e = some .bool) (hc : P.cellsOf e = 1) (ht' : P.cellsOf t = n)
    (h : DataW.trod enc P w base sp held fuel t cs = some (.agg (bs.map fun b => .lit (.bool b)), p)) : cs = bs.map .bool := by
  obtain ⟨xs, m, _, hx, hl, hn, hf⟩ := DataW.trod_array ht h
  simp only [Prod.mk.injEq, DataW.agg.injEq] at hx
  have hbl : bs.length = n := by
    have := congrArg List.length hx.1
    simpa [hn] using this
  refine List.ext_getElem? fun i => ?_
  by_cases hi : i < n
  · have h1 := hf i hi
    rw [hc, Nat.mul_one] at h1
    have hxi : i < xs.length := by omega
    rw [List.getElem?_eq_getElem hxi] at h1
    obtain ⟨b, hb, hxb⟩ := DataW.trod_bool he h1
    have hbi : i < bs.length := by omega
    have h2 := congrArg (fun l => l[i]?) hx.1
    simp only [List.getElem?_map, List.getElem?_eq_getElem hxi, List.getElem?_eq_getElem hbi, Option.map_some, Option.some.injEq] at h2
    rw [hxb] at h2
    simp only [DataW.lit.injEq, Lit.bool.injEq] at h2
    have h3 : cs[i]? = some (.bool b) := by
      have : (cs.drop i).take 1 = [.bool b] := hb
      have h4 := congrArg (fun l => l[0]?) this
      simpa using h4
    rw [h3, List.getElem?_map, List.getElem?_eq_getElem hbi, h2]; rfl
  · rw [List.getElem?_eq_none (by omega), List.getElem?_eq_none (by simp; omega)]

theorem open_chg {t ta tb ti : TypeId} {f0 f1 : Field} {cs : List Value} {bs : List Bool} {k : Int} {p : List MemPlace} (ht : P.underlying t = some (.struct #[f0, f1]))
    (h0 : f0.type = ta ∧ f0.offset = 0) (h1 : f1.type = ti ∧ f1.offset = 5) (ha : P.underlying ta = some (.array 5 tb)) (hb : P.underlying tb = some .bool) (hi : P.underlying ti = some (.int .i64))
    (c : P.cellsOf t = 6 ∧ P.cellsOf ta = 5 ∧ P.cellsOf tb = 1 ∧ P.cellsOf ti = 1)
    (h : DataW.trod enc P w base sp held fuel t cs = some (.agg [.agg (bs.map fun b => .lit (.bool b)), .lit (.int .i64 k)], p)) : cs = bs.map .bool ++ [.int .i64 k] := by
  obtain ⟨y0, y1, n, hx, hl, e0, e1⟩ := Go.ChangeShapes.trod_struct2 ht h
  simp only [Prod.mk.injEq, DataW.agg.injEq, List.cons.injEq, and_true] at hx
  obtain ⟨⟨hy0, hy1⟩, _⟩ := hx
  rw [h0.1, h0.2, c.2.1] at e0
  rw [h1.1, h1.2, c.2.2.2] at e1
  rw [c.1] at hl
  obtain ⟨d0, q0⟩ := y0
  obtain ⟨d1, q1⟩ := y1
  subst hy0; subst hy1
  have g0 := open_bools ha hb c.2.2.1 c.2.1 e0
  obtain ⟨m, g1, hm, _⟩ := DataW.trod_int hi e1
  simp only [Prod.mk.injEq, DataW.lit.injEq, Lit.int.injEq, true_and] at hm
  rw [← hm.1] at g1
  have hcs : cs = cs.take 5 ++ cs.drop 5 := (List.take_append_drop 5 cs).symm
  have h5 : (cs.drop 5).take 1 = cs.drop 5 := List.take_of_length_le (by simp; omega)
  rw [h5] at g1
  rw [hcs, g1]
  simp only [List.drop_zero] at g0
  rw [g0]
end

theorem var_heap {P : Program} {w : World} {n : String} {g : Nat} {cs : Array Value} (hg : P.globalNamed n = some g) (h : w.var? P n = some cs) : ∃ t fz, w.heap[g]? = some (.cells cs t fz) := by
  simp only [World.var?, hg, Option.bind_some] at h
  split at h
  · rename_i c t fz hc
    cases h
    exact ⟨_, _, hc⟩
  · cases h

end
end Go.X

/- The package variables that are laid, by lists. -/
namespace Go.X
noncomputable section

def gOf : List (Nat × AObj) → Tr AObj
  | [] => .nil
  | p :: r => (gOf r).set p.1 (some p.2)

theorem gOf_get : ∀ {l : List (Nat × AObj)} {b : Nat} {o : AObj}, (gOf l).get b = some o → (b, o) ∈ l := by
  intro l
  induction l with
  | nil => intro b o h; cases h
  | cons p r ih =>
    intro b o h
    simp only [gOf] at h
    rw [Tr.get_set] at h
    by_cases hb : b = p.1
    · rw [if_pos hb] at h
      cases h
      subst hb
      exact List.mem_cons_self ..
    · rw [if_neg hb] at h
      exact List.mem_cons_of_mem _ (ih h)

/-- all that is known of the variables is so -/
def GlobAll (NG : Nat) (w : World) (G : Tr AObj) : Prop := ∀ b o, G.get b = some o → b < NG ∧ ∃ el avs c t fz, o = .blk el true (.fix (List.length avs)) (Tr.put .nil 0 avs) ∧ w.heap[b]? = some (.cells c t fz) ∧ AV.closeds avs = true ∧ cvs eNil avs = some c.toList

theorem HR0g {P : Program} {O : List OraE} {G : Tr AObj} {w : World} (sy : Nat → Value) (hG : GlobAll P.globals.size w G) (hO : OraOk O (env0 P.globals.size w sy).sy) :
    HR (gpO P O) (env0 P.globals.size w sy) [] G.get P.globals.size w where
  dom b x hb := by
    simp only [env0] at hb
    by_cases h : b < P.globals.size
    · exact h
    · rw [if_neg h] at hb; cases hb
  live b o hb := by
    obtain ⟨hlt, el, avs, c, t, fz, rfl, hw, hcl, hc⟩ := hG b o hb
    have hlen := cvs_length hc
    refine ⟨(b, 0), by simp only [env0]; rw [if_pos hlt], c, fz, ?_, (fun h => by cases h), ?_, fun i v hv => ?_⟩
    · show w.heap[b]? = some (.cells c ((env0 P.globals.size w sy).ty b) fz)
      rw [env0_ty hw]; exact hw
    · show c.size = avs.length
      rw [← hlen]; simp
    · rw [Tr.get_put] at hv
      simp only [Nat.zero_le, Nat.zero_add, true_and, Nat.sub_zero] at hv
      by_cases hi : i < avs.length
      · rw [if_pos hi] at hv
        rw [closeds_cv eNil (env0 P.globals.size w sy) avs hcl] at hc
        obtain ⟨y, hy, hx⟩ := cvs_get hc i v hv
        exact ⟨y, hy, by simpa using hx⟩
      · rw [if_neg hi] at hv; cases hv
  inj b c o p x y hb hc _ hx hy hxy := by
    obtain ⟨h1, _⟩ := hG b o hb
    obtain ⟨h2, _⟩ := hG c p hc
    simp only [env0] at hx hy
    rw [if_pos h1] at hx; rw [if_pos h2] at hy
    cases hx; cases hy; exact hxy
  glob g hg := by simp only [env0]; rw [if_pos (show g < P.globals.size from hg)]
  ora := hO

theorem tran_sameg {P : Program} {G : Tr AObj} {w w' : World} {sy : Nat → Value} {e' : Env} {G' : Nat → Option AObj} {n' : Nat} (hG : GlobAll P.globals.size w G)
    (h : Tran (env0 P.globals.size w sy) G.get P.globals.size w e' G' n' w') : ∀ B, B < w.heap.size → w'.heap[B]? = w.heap[B]? := by
  intro B hB
  refine h.keep B hB ?_
  rintro ⟨b, o, x, h1, h2, _⟩
  obtain ⟨_, el, avs, c, t, fz, rfl, _⟩ := hG b o h1
  cases h2

/-- the call, at a world, of which a look of the kernel's says that it returns true -/
theorem top_trueg {P : Program} {X : XP} (ok : XPok P X) (okf : FnOk P X) (hmix : P.follows .mixedOrders = true) (hMe : MemoOk P X.ora X.memo) (hS : SumsOk P X) {n f : Nat} {G : Tr AObj} {l : List (List AV)}
    (h : chkTop X n f ⟨P.globals.size, G⟩ l = true) {w : World} (hG : GlobAll P.globals.size w G) {as : List AV} (hm : as ∈ l)
    {vs : List Value} (sy : Nat → Value) (hO : OraOk X.ora (env0 P.globals.size w sy).sy) (hvs : cvs (env0 P.globals.size w sy) as = some vs) :
    Calls P f vs.toArray w fun en w' => en = .returned (.bool true) ∧ (∀ B, B < w.heap.size → w'.heap[B]? = w.heap[B]?) ∧ ∀ may, w.keptBut w' may := by
  simp only [chkTop, Bool.and_eq_true] at h
  obtain ⟨⟨hb, hn1⟩, hc⟩ := h
  have hc := chkTrues_mem hc as hm
  simp only [chkTrue] at hc
  unfold outsTrue1 at hc
  split at hc
  · rename_i o ho
    have hB := (run_ok ok okf hmix (memoFits ok.glob hMe hS) n).2
    obtain ⟨_, hcalls⟩ := hB [] f [] [] as ⟨P.globals.size, G⟩ o ho hb (env0 P.globals.size w sy) w [] vs [] rfl hvs rfl (HR0g sy hG hO)
    have hcalls' : Calls P f vs.toArray w (fun en w' => en ≠ .outgrown ∧ ValOut (gp P X) [] (env0 P.globals.size w sy) ⟨P.globals.size, G⟩ w o en w') := by simpa using hcalls
    refine hcalls'.mono fun en w' ⟨_, v, H', hm', e', hen, _, hT⟩ => ?_
    have hv1 : v = .bool true := outsTrue_mem hc _ hm'
    subst hv1
    obtain ⟨y, hv, rfl⟩ := endR_not hen (by simp)
    simp only [cv, Option.some.injEq] at hv
    subst hv
    exact ⟨rfl, tran_sameg hG hT, kept_same hT.os hT.output (tran_sameg hG hT)⟩
  · cases hc

section
variable {H : Type} {enc : TypeId × Value → H} {P : Program} {w : World} {base : Nat} {sp : Nat → Bool} {held : Bool} {fuel : Nat}

/-- an array of numbers, opened -/
theorem open_ints {n : Nat} {t e : TypeId} {k : IntKind} {cs : List Value} {bs : List Int} {p : List MemPlace} (ht : P.underlying t = some (.array n e)) (he : P.underlying e = some (.int k)) (hc : P.cellsOf e = 1) (ht' : P.cellsOf t = n)
    (h : DataW.trod enc P w base sp held fuel t cs = some (.agg (bs.map fun b => .lit (.int k b)), p)) : cs = bs.map (.int k) := by
  obtain ⟨xs, m, _, hx, hl, hn, hf⟩ := DataW.trod_array ht h
  simp only [Prod.mk.injEq, DataW.agg.injEq] at hx
  have hbl : bs.length = n := by
    have := congrArg List.length hx.1
    simpa [hn] using this
  refine List.ext_getElem? fun i => ?_
  by_cases hi : i < n
  · have h1 := hf i hi
    rw [hc, Nat.mul_one] at h1
    have hxi : i < xs.length := by omega
    rw [List.getElem?_eq_getElem hxi] at h1
    obtain ⟨b, hb, hxb, _⟩ := DataW.trod_int he h1
    have hbi : i < bs.length := by omega
    have h2 := congrArg (fun l => l[i]?) hx.1
    simp only [List.getElem?_map, List.getElem?_eq_getElem hxi, List.getElem?_eq_getElem hbi, Option.map_some, Option.some.injEq] at h2
    rw [hxb] at h2
    simp only [DataW.lit.injEq, Lit.int.injEq, true_and] at h2
    have h3 : cs[i]? = some (.int k b) := by
      have : (cs.drop i).take 1 = [.int k b] := hb
      have h4 := congrArg (fun l => l[0]?) this
      simpa using h4
    rw [h3, List.getElem?_map, List.getElem?_eq_getElem hbi, h2]; rfl
  · rw [List.getElem?_eq_none (by omega), List.getElem?_eq_none (by simp; omega)]
end

theorem globOne {NG : Nat} {w : World} {b el : Nat} {avs : List AV} {l : List Value} {t : TypeId} {fz : Nat × Nat} (hb : b < NG) (hw : w.heap[b]? = some (.cells l.toArray t fz)) (h1 : AV.closeds avs = true) (h2 : cvs eNil avs = some l) :
    b < NG ∧ ∃ el' avs' c t' fz', AObj.blk el true (.fix (List.length avs)) (Tr.put .nil 0 avs) = .blk el' true (.fix (List.length avs')) (Tr.put .nil 0 avs') ∧ w.heap[b]? = some (.cells c t' fz') ∧ AV.closeds avs' = true ∧ cvs eNil avs' = some c.toList :=
  ⟨hb, el, avs, l.toArray, t, fz, rfl, hw, h1, h2⟩
end
end Go.X

/- Arguments: what they read as, opened; readings behind a call that leaves memory alone; numbers of which little is known. -/
namespace Go.X
noncomputable section

theorem same_at {W W' : World} (h : ∀ B, B < W.heap.size → W'.heap[B]? = W.heap[B]?) (p : MemPlace) (hp : p.block < W.heap.size) : W.sameAt W' p := by
  cases p with
  | cell b off =>
    show W'.cell? ⟨b, off, none⟩ = W.cell? ⟨b, off, none⟩
    have hb : W'.heap[b]? = W.heap[b]? := h b hp
    simp only [World.cell?, hb]
  | map b => exact h b hp

/-- what was read before is read behind -/
theorem trodAll_keep {H : Type} {enc : TypeId × Value → H} {P : Program} {W W' : World} {base : Nat} {sp : Nat → Bool} {held : Bool} (h : ∀ B, B < W.heap.size → W'.heap[B]? = W.heap[B]?) :
    ∀ {ts : List TypeId} {vs : List Value} {ds : List (DataW H)} {ps : List MemPlace}, DataW.TrodAll enc P W base sp held ts vs ds ps → DataW.TrodAll enc P W' base sp held ts vs ds ps := by
  intro ts
  induction ts with
  | nil =>
    intro vs ds ps ht
    obtain ⟨rfl, rfl, rfl⟩ := ChangeShapes.trodAll_nil ht
    exact ChangeShapes.trodAll_mk0
  | cons t ts ih =>
    intro vs ds ps ht
    obtain ⟨v, vs', d, ds', p, q, rfl, rfl, rfl, ⟨fuel, h1⟩, h2⟩ := ChangeShapes.trodAll_cons ht
    exact ⟨p, q, ⟨fuel, DataW.trod_carry _ _ _ _ h1 (fun pl hpl => same_at h pl (DataW.trod_lt _ _ _ _ h1 pl hpl))⟩, ih h2, rfl⟩

section
variable {H : Type} {enc : TypeId × Value → H} {P : Program} {w : World} {base : Nat} {sp : Nat → Bool} {held : Bool} {fuel : Nat}

theorem cell_one {cs : List Value} {o : Nat} {v : Value} (h : (cs.drop o).take 1 = [v]) : cs[o]? = some v := by
  have h4 := congrArg (fun l => l[0]?) h
  simpa using h4

/-- a field that is a number -/
theorem fld_int {t : TypeId} {fs : Array Field} {cs : List Value} {x : DataW H × List MemPlace} {k : IntKind} {i : Nat} {f : Field} {o u : Nat} (ht : P.underlying t = some (.struct fs)) (hf : fs[i]? = some f) (ho : f.offset = o) (hu : f.type = u)
    (hk : P.underlying u = some (.int k)) (hc : P.cellsOf u = 1) (h : DataW.trod enc P w base sp held fuel t cs = some x) : ∃ n, cs[o]? = some (.int k n) ∧ (Lit.int k n).wf = true := by
  obtain ⟨xs, n, _, _, _, hl, hall⟩ := DataW.trod_struct ht h
  have h1 := hall i f hf
  have hi : i < xs.length := by rw [hl]; exact (Array.getElem?_eq_some_iff.1 hf).1
  rw [List.getElem?_eq_getElem hi, hu, hc, ho] at h1
  obtain ⟨m, hm, _, hw⟩ := DataW.trod_int hk h1
  exact ⟨m, cell_one hm, hw⟩

theorem fld_bool {t : TypeId} {fs : Array Field} {cs : List Value} {x : DataW H × List MemPlace} {i : Nat} {f : Field} {o u : Nat} (ht : P.underlying t = some (.struct fs)) (hf : fs[i]? = some f) (ho : f.offset = o) (hu : f.type = u)
    (hk : P.underlying u = some .bool) (hc : P.cellsOf u = 1) (h : DataW.trod enc P w base sp held fuel t cs = some x) : ∃ b, cs[o]? = some (.bool b) := by
  obtain ⟨xs, n, _, _, _, hl, hall⟩ := DataW.trod_struct ht h
  have h1 := hall i f hf
  have hi : i < xs.length := by rw [hl]; exact (Array.getElem?_eq_some_iff.1 hf).1
  rw [List.getElem?_eq_getElem hi, hu, hc, ho] at h1
  obtain ⟨m, hm, _⟩ := DataW.trod_bool hk h1
  exact ⟨m, cell_one hm⟩

theorem fld_str {t : TypeId} {fs : Array Field} {cs : List Value} {x : DataW H × List MemPlace} {i : Nat} {f : Field} {o u : Nat} (ht : P.underlying t = some (.struct fs)) (hf : fs[i]? = some f) (ho : f.offset = o) (hu : f.type = u)
    (hk : P.underlying u = some .string) (hc : P.cellsOf u = 1) (h : DataW.trod enc P w base sp held fuel t cs = some x) : ∃ s : ByteArray, cs[o]? = some (.string s) ∧ s.size ≤ maxLen := by
  obtain ⟨xs, n, _, _, _, hl, hall⟩ := DataW.trod_struct ht h
  have h1 := hall i f hf
  have hi : i < xs.length := by rw [hl]; exact (Array.getElem?_eq_some_iff.1 hf).1
  rw [List.getElem?_eq_getElem hi, hu, hc, ho] at h1
  obtain ⟨m, hm, _, hs⟩ := DataW.trod_string hk h1
  exact ⟨m, cell_one hm, hs⟩

theorem fld_slice {t e : TypeId} {fs : Array Field} {cs : List Value} {x : DataW H × List MemPlace} {i : Nat} {f : Field} {o u : Nat} (ht : P.underlying t = some (.struct fs)) (hf : fs[i]? = some f) (ho : f.offset = o) (hu : f.type = u)
    (hk : P.underlying u = some (.slice e)) (hc : P.cellsOf u = 1) (h : DataW.trod enc P w base sp held fuel t cs = some x) : ∃ a len cap, cs[o]? = some (.slice a len cap) ∧ len ≤ maxLen := by
  obtain ⟨xs, n, _, _, _, hl, hall⟩ := DataW.trod_struct ht h
  have h1 := hall i f hf
  have hi : i < xs.length := by rw [hl]; exact (Array.getElem?_eq_some_iff.1 hf).1
  rw [List.getElem?_eq_getElem hi, hu, hc, ho] at h1
  rcases DataW.trod_slice hk h1 with ⟨hm, _⟩ | ⟨a, len, cap, _, _, _, _, hm, _, _, h2, h3, _⟩
  · exact ⟨none, 0, 0, cell_one hm, Nat.zero_le _⟩
  · exact ⟨some a, len, cap, cell_one hm, Nat.le_trans h2 h3⟩

/-- a field that is a struct, opened -/
theorem fld_struct {t : TypeId} {fs : Array Field} {cs : List Value} {x : DataW H × List MemPlace} {i : Nat} {f : Field} {o u c : Nat} (ht : P.underlying t = some (.struct fs)) (hf : fs[i]? = some f) (ho : f.offset = o) (hu : f.type = u)
    (hc : P.cellsOf u = c) (h : DataW.trod enc P w base sp held fuel t cs = some x) : ∃ n y, DataW.trod enc P w base sp held n u ((cs.drop o).take c) = some y := by
  obtain ⟨xs, n, _, _, _, hl, hall⟩ := DataW.trod_struct ht h
  have h1 := hall i f hf
  have hi : i < xs.length := by rw [hl]; exact (Array.getElem?_eq_some_iff.1 hf).1
  rw [List.getElem?_eq_getElem hi, hu, hc, ho] at h1
  exact ⟨n, _, h1⟩
end

/-! ### arguments of which little is known -/
theorem cvAgg {e : Env} {l : List AV} {vs : List Value} (h : cvs e l = some vs) : cv e (.agg l) = some (.agg vs.toArray) := by
  simp only [cv, h]

theorem rng_cv {e : Env} {i : Nat} {k : IntKind} {lo hi x : Int} (hs : e.sy i = .int k x) (h : lo ≤ x ∧ x ≤ hi) : cv e (.res i (.rng k lo hi)) = some (.int k x) := by
  show (RC.rng k lo hi).val (e.sy i) = _
  rw [hs]
  simp only [RC.val, h, and_self, if_true]

theorem str_cv {e : Env} {i lo hi : Nat} {x : ByteArray} (hs : e.sy i = .string x) (h : lo ≤ x.size ∧ x.size ≤ hi) : cv e (.res i (.strLen lo hi)) = some (.string x) := by
  show (RC.strLen lo hi).val (e.sy i) = _
  rw [hs]
  simp only [RC.val, h, and_self, if_true]

theorem sl_cv {e : Env} {i lo hi : Nat} {a : Option Addr} {n c : Nat} (hs : e.sy i = .slice a n c) (h : lo ≤ n ∧ n ≤ hi) : cv e (.res i (.slLen lo hi)) = some (.slice a n c) := by
  show (RC.slLen lo hi).val (e.sy i) = _
  rw [hs]
  simp only [RC.val, h, and_self, if_true]

theorem i64_of {n : Int} (h : (Lit.int .i64 n).wf = true) : (-9223372036854775808) ≤ n ∧ n ≤ 9223372036854775807 := by
  have h2 : (decide (IntKind.i64.min ≤ n) && decide (n ≤ IntKind.i64.max)) = true := h
  simp only [Bool.and_eq_true, decide_eq_true_eq] at h2
  have h0 : IntKind.i64.min = (-9223372036854775808) := by decide
  have h1 : IntKind.i64.max = 9223372036854775807 := by decide
  omega

theorem list7 {l : List Value} {x0 x1 x2 x3 x4 x5 x6 : Value} (hl : l.length = 7) (h0 : l[0]? = some x0) (h1 : l[1]? = some x1) (h2 : l[2]? = some x2) (h3 : l[3]? = some x3) (h4 : l[4]? = some x4) (h5 : l[5]? = some x5) (h6 : l[6]? = some x6) : l = [x0, x1, x2, x3, x4, x5, x6] := by
  match l, hl with
  | [y0, y1, y2, y3, y4, y5, y6], _ => simp at h0 h1 h2 h3 h4 h5 h6; simp [h0, h1, h2, h3, h4, h5, h6]

theorem andI {a b : Bool} (ha : a = true) (hb : b = true) : (a && b) = true := by rw [ha, hb]; rfl

/-! ### numbers of which little is known -/
def numVal (sy : Nat → Value) : AV → Option (IntKind × Int)
  | .int k n => some (k, n)
  | .res i (.rng k _ _) => (match sy i with | .int k' n => if k = k' then some (k, n) else none | _ => none)
  | .res i (.nat k .full _ _) => (match sy i with | .int _ (.ofNat n) => some (k, Int.ofNat n) | _ => none)
  | _ => none

theorem sy_rng {e : Env} {a : Nat} {k : IntKind} {lo hi : Int} {v : Value} (hv : (RC.rng k lo hi).val (e.sy a) = some v) : ∃ m, v = .int k m ∧ e.sy a = .int k m := by
  obtain ⟨m, rfl, _⟩ := val_rng hv
  refine ⟨m, rfl, ?_⟩
  cases hq : e.sy a <;> rw [hq] at hv <;> first
    | (simp [RC.val] at hv; done)
    | (simp only [RC.val] at hv
       split at hv
       · simp_all
       · cases hv)

theorem numVal_cv {e : Env} {o x : AV} (hs : numSame o x = true) {k : IntKind} {n : Int} (hn : numVal e.sy o = some (k, n)) {v : Value} (hv : cv e x = some v) : v = .int k n := by
  unfold numSame at hs
  split at hs
  · simp only [Bool.and_eq_true, iEq_eq] at hs
    simp only [numVal, Option.some.injEq, Prod.mk.injEq] at hn
    obtain ⟨rfl, rfl⟩ := hn
    rw [kEq_of hs.1, eq_of_beq hs.2]
    exact (cv_int hv)
  · rename_i a k1 lo hi b k2 lo' hi'
    simp only [Bool.and_eq_true] at hs
    have e1 := kEq_of hs.1
    have e2 := nbeq_of hs.2
    subst e1; subst e2
    have hv' : (RC.rng k1 lo' hi').val (e.sy a) = some v := hv
    obtain ⟨m, rfl, _⟩ := val_rng hv'
    have hsy : e.sy a = .int k1 m := by
      cases hq : e.sy a <;> rw [hq] at hv' <;> first
        | (simp [RC.val] at hv'; done)
        | (simp only [RC.val] at hv'
           split at hv'
           · simp_all
           · cases hv')
    simp only [numVal, hsy, if_true, Option.some.injEq, Prod.mk.injEq] at hn
    rw [hn.1, hn.2]
  · rename_i a k1 lo hi b k2 lo' hi'
    simp only [Bool.and_eq_true] at hs
    have e1 := kEq_of hs.1
    have e2 := nbeq_of hs.2
    subst e1; subst e2
    obtain ⟨kk, N, hsy, _, rfl⟩ := val_nat (show (RC.nat k1 .full lo' hi').val (e.sy a) = some v from hv)
    simp only [numVal, hsy] at hn
    split at hn
    · simp only [Option.some.injEq, Prod.mk.injEq] at hn; rw [← hn.1, ← hn.2]; rfl
    · cases hn
  · rename_i a k1 lo hi b k2 lo' hi'
    simp only [Bool.and_eq_true] at hs
    have e1 := kEq_of hs.1
    have e2 := nbeq_of hs.2
    subst e1; subst e2
    obtain ⟨m, rfl, hsy⟩ := sy_rng (show (RC.rng k1 lo' hi').val (e.sy a) = some v from hv)
    simp only [numVal, hsy] at hn
    split at hn
    · rename_i heq
      simp only [Value.int.injEq] at heq
      obtain ⟨_, rfl⟩ := heq
      simp only [Option.some.injEq, Prod.mk.injEq] at hn; rw [hn.1, hn.2]
    · cases hn
  · rename_i a k1 lo hi b k2 lo' hi'
    simp only [Bool.and_eq_true] at hs
    have e1 := kEq_of hs.1
    have e2 := nbeq_of hs.2
    subst e1; subst e2
    obtain ⟨kk, N, hsy, _, rfl⟩ := val_nat (show (RC.nat k1 .full lo' hi').val (e.sy a) = some v from hv)
    simp only [numVal, hsy, Option.some.injEq, Prod.mk.injEq] at hn
    rw [← hn.1, ← hn.2]; rfl
  · cases hs

theorem ora_nil (sy : Nat → Value) : OraOk [] sy := fun o h => by cases h

theorem ora_cons {l : List OraE} {sy : Nat → Value} {o : OraE} (k : IntKind) (a : Int) (k' : IntKind) (b : Int) (u : AV) (hx : numVal sy o.x = some (k, a)) (hy : numVal sy o.y = some (k', b)) (hu : binInt o.op k k' a b = some u)
    (hr : ∀ e : Env, e.sy = sy → cv e o.r = cv e u) (h : OraOk l sy) (hc : o.cells = none := by rfl) : OraOk (o :: l) sy := by
  intro p hp
  rcases List.mem_cons.1 hp with rfl | hp
  · intro e he
    refine ⟨fun _ x y hx' hy' vx vy hvx hvy => ?_, fun cs hcs => by rw [hc] at hcs; cases hcs⟩
    subst he
    exact ⟨k, a, k', b, u, numVal_cv hx' hx hvx, numVal_cv hy' hy hvy, hu, hr e rfl⟩
  · exact h p hp
end
end Go.X

/- What a function can come to, off a table of what each function leads to: for rows over large programs. -/
namespace Go.X
noncomputable section

def leadOf (T : Tr (List Nat)) (g : Nat) : List Nat := match T.get g with | some l => l | none => []

def closT (T : Tr (List Nat)) : Nat → List Nat → List Nat → List Nat
  | 0, _, seen => seen.reverse
  | _ + 1, [], seen => seen.reverse
  | n + 1, f :: todo, seen => @Bool.rec (fun _ => List Nat) (closT T n (leadOf T f ++ todo) (f :: seen)) (closT T n todo seen) (memN f seen)

def sumT (T : Tr (List Nat)) : Nat → Nat
  | 0 => 0
  | n + 1 => sumT T n + ((leadOf T n).length + 1)

def leadB (P : Program) (T : Tr (List Nat)) (g : Nat) : Bool := natsSame ((P.funcs[g]?).elim [] P.leadsTo) (leadOf T g)

def leadR (P : Program) (T : Tr (List Nat)) : Nat → Nat → Bool
  | _, 0 => true
  | a, n + 1 => leadB P T a && leadR P T (a + 1) n

theorem leadR_spec {P : Program} {T : Tr (List Nat)} : ∀ {n a : Nat}, leadR P T a n = true → ∀ g, a ≤ g → g < a + n → (P.funcs[g]?).elim [] P.leadsTo = leadOf T g
  | 0, a, _, g, h1, h2 => by omega
  | n + 1, a, h, g, h1, h2 => by
    simp only [leadR, Bool.and_eq_true] at h
    rcases Nat.lt_or_ge a g with h3 | h3
    · exact leadR_spec h.2 g (by omega) (by omega)
    · obtain rfl : g = a := by omega
      exact strEq_of h.1

theorem memN_con (t : Nat) : ∀ (l : List Nat), memN t l = l.contains t
  | [] => rfl
  | u :: l => by
    simp only [memN, brec, List.contains_cons, memN_con t l]
    by_cases h : t = u
    · subst h; rw [nbeq_t rfl]; simp
    · rw [nbeq_f h]
      have : (t == u) = false := beq_eq_false_iff_ne.2 h
      simp [this]

theorem closVia_eq {P : Program} {T : Tr (List Nat)} (h : ∀ g : Nat, (P.funcs[g]?).elim [] P.leadsTo = leadOf T g) : ∀ (n : Nat) (todo seen : List Nat), P.closureVia n todo seen = closT T n todo seen
  | 0, _, _ => rfl
  | _ + 1, [], _ => rfl
  | n + 1, f :: todo, seen => by
    simp only [Program.closureVia, closT, brec, memN_con, h f]
    cases seen.contains f with
    | true => simp only [if_true, cond_true]; exact closVia_eq h n _ _
    | false => simp only [Bool.false_eq_true, if_false, cond_false]; exact closVia_eq h n _ _

theorem sumT_eq {P : Program} {T : Tr (List Nat)} (h : ∀ g : Nat, (P.funcs[g]?).elim [] P.leadsTo = leadOf T g) : (P.funcs.toList.map fun g => (P.leadsTo g).length + 1).sum = sumT T P.funcs.size := by
  have key : ∀ n, n ≤ P.funcs.size → ((P.funcs.toList.take n).map fun g => (P.leadsTo g).length + 1).sum = sumT T n := by
    intro n
    induction n with
    | zero => intro _; rfl
    | succ n ih =>
      intro hn
      have hlt : n < P.funcs.toList.length := by rw [Array.length_toList]; omega
      rw [List.take_succ_eq_append_getElem hlt, List.map_append, List.sum_append, ih (by omega)]
      simp only [List.map_cons, List.map_nil, List.sum_cons, List.sum_nil, Nat.add_zero, sumT]
      have := h n
      rw [Array.getElem?_eq_getElem (by omega)] at this
      simp only [Option.elim] at this
      rw [← this]; simp
  have := key P.funcs.size (Nat.le_refl _)
  rw [← this, List.take_of_length_le (by simp)]

/-- all that a function can come to -/
theorem closure_of {P : Program} {T : Tr (List Nat)} {n : Nat} (h1 : ∀ g : Nat, g < n → (P.funcs[g]?).elim [] P.leadsTo = leadOf T g) (h2 : T.allB (fun g _ => Nat.blt g n) 1 0 = true) (h3 : P.funcs.size = n) {f : FuncId} {l : List Nat}
    (h4 : closT T (1 + sumT T n) [f] [] = l) : P.closure f = l := by
  have h : ∀ g : Nat, (P.funcs[g]?).elim [] P.leadsTo = leadOf T g := by
    intro g
    rcases Nat.lt_or_ge g n with hg | hg
    · exact h1 g hg
    · rw [Array.getElem?_eq_none (by omega)]
      unfold leadOf
      cases ht : T.get g with
      | none => rfl
      | some l =>
        have := Tr.allB_get h2 g l ht
        rw [Nat.one_mul, Nat.add_zero] at this
        exact absurd (nblt_of this) (by omega)
  unfold Program.closure
  rw [closVia_eq h, sumT_eq h, h3, h4]

theorem inPlace_of {P : Program} {f : FuncId} {l : List Nat} (h : P.closure f = l) : P.inPlace f = l.filterMap fun g => (P.funcs[g]?).bind fun fn => if fn.ours || fn.body.isNone || fn.name == "runtime.NumGoroutine" then some fn.name else none := by
  unfold Program.inPlace; rw [h]
theorem unfollowed_of {P : Program} {f : FuncId} {l : List Nat} (h : P.closure f = l) : P.unfollowed f = l.any fun g => (P.funcs[g]?).any fun fn => match fn.body with | some c => c.unfollowed | none => entryCalls fn := by
  unfold Program.unfollowed; rw [h]; rfl
theorem varsNamed_of {P : Program} {f : FuncId} {l : List Nat} (h : P.closure f = l) : P.varsNamed f = ((((l).flatMap fun g => ((P.funcs[g]?).bind (·.body)).elim [] Code.globalsNamed).eraseDups).filterMap (fun g => (P.globals[g]?).map (·.name)) ++
   l.filterMap fun g => (P.funcs[g]?).bind fun fn => if fn.body.isNone then entryReads.lookup fn.name else none).eraseDups := by
  unfold Program.varsNamed; rw [h]
theorem recurses_of {P : Program} {f : FuncId} (h : P.unfollowed f = true) : P.recurses f = true := by
  unfold Program.recurses; rw [h]; rfl

theorem allRange {p : Nat → Bool} {a b : Nat} (h1 : (List.range a).all p = true) (h2 : (List.range' a b).all p = true) : (List.range (a + b)).all p = true := by
  rw [List.range_eq_range', List.range'_append_1.symm, List.all_append, ← List.range_eq_range', h1, Nat.zero_add, h2]; rfl
end
end Go.X

/- What is laid in a variable of numbers, truth values, strings, and arrays and structs of them, opened. -/
namespace Go.X
noncomputable section

mutual
def flatD {H : Type} : DataW H → List Value
  | .lit (.bool b) => [.bool b]
  | .lit (.int k n) => [.int k n]
  | .lit (.string l) => [.string ⟨l.toArray⟩]
  | .agg ds => flatDs ds
  | _ => []
def flatDs {H : Type} : List (DataW H) → List Value
  | [] => []
  | d :: ds => flatD d ++ flatDs ds
end

/-- the parts lie one behind the other, from s up to e -/
def consecB : Nat → List (Nat × Nat) → Nat → Bool
  | s, [], e => Nat.beq s e
  | s, p :: r, e => Nat.beq p.1 s && consecB (s + p.2) r e

def piece (cs : List Value) (p : Nat × Nat) : List Value := (cs.drop p.1).take p.2

theorem consec_le : ∀ {l : List (Nat × Nat)} {s e : Nat}, consecB s l e = true → s ≤ e
  | [], s, e, h => by simp only [consecB] at h; rw [nbeq_of h]; exact Nat.le_refl _
  | p :: l, s, e, h => by
    simp only [consecB, Bool.and_eq_true] at h
    have := consec_le h.2; omega

theorem consec_cat {cs : List Value} : ∀ {l : List (Nat × Nat)} {s e : Nat}, consecB s l e = true → (cs.drop s).take (e - s) = (l.map (piece cs)).flatten
  | [], s, e, h => by simp only [consecB] at h; rw [nbeq_of h]; simp
  | p :: l, s, e, h => by
    simp only [consecB, Bool.and_eq_true] at h
    have h1 := nbeq_of h.1
    have h2 := consec_le h.2
    have ih := consec_cat (cs := cs) h.2
    simp only [List.map_cons, List.flatten_cons, ← ih, piece, h1]
    have he : e - s = p.2 + (e - (s + p.2)) := by omega
    rw [he, List.take_add, List.drop_drop]

def partsArr (n c : Nat) : List (Nat × Nat) := (List.range n).map fun i => (i * c, c)

def tidyB (P : Program) : Nat → TypeId → Bool
  | 0, _ => false
  | d + 1, t => match P.underlying t with
    | some .bool => Nat.beq (P.cellsOf t) 1
    | some (.int _) => Nat.beq (P.cellsOf t) 1
    | some .string => Nat.beq (P.cellsOf t) 1
    | some (.array n e) => consecB 0 (partsArr n (P.cellsOf e)) (P.cellsOf t) && tidyB P d e
    | some (.struct fs) => consecB 0 (fs.toList.map fun f => (f.offset, P.cellsOf f.type)) (P.cellsOf t) && fs.toList.all fun f => tidyB P d f.type
    | _ => false

section
variable {H : Type} {enc : TypeId × Value → H} {P : Program} {w : World} {base : Nat} {sp : Nat → Bool} {held : Bool}

theorem flatDs_map {α : Type} {l : List α} {g : α → DataW H} {f : α → List Value} (h : ∀ a ∈ l, f a = flatD (g a)) : (l.map f).flatten = flatDs (l.map g) := by
  induction l with
  | nil => rfl
  | cons a l ih =>
    simp only [List.map_cons, List.flatten_cons, flatDs]
    rw [h a (by simp), ih (fun b hb => h b (by simp [hb]))]

theorem open_plain : ∀ (d : Nat) (t : TypeId), tidyB P d t = true → ∀ (fuel : Nat) (cs : List Value) (x : DataW H × List MemPlace), DataW.trod enc P w base sp held fuel t cs = some x → cs = flatD x.1 := by
  intro d
  induction d with
  | zero => intro t h; cases h
  | succ d ih =>
    intro t h fuel cs x hx
    simp only [tidyB] at h
    split at h
    · rename_i hu
      cases fuel with
      | zero => simp [DataW.trod] at hx
      | succ fuel =>
        unfold DataW.trod at hx; rw [hu] at hx
        split at hx <;> simp_all
        subst hx; rfl
    · rename_i k hu
      cases fuel with
      | zero => simp [DataW.trod] at hx
      | succ fuel =>
        unfold DataW.trod at hx; rw [hu] at hx
        split at hx <;> simp_all
        obtain ⟨h1, h2⟩ := hx
        subst h2; simp [flatD]
    · rename_i hu
      cases fuel with
      | zero => simp [DataW.trod] at hx
      | succ fuel =>
        unfold DataW.trod at hx; rw [hu] at hx
        split at hx <;> simp_all
        obtain ⟨h1, h2⟩ := hx
        subst h2; simp [flatD]
    · rename_i n e hu
      simp only [Bool.and_eq_true] at h
      obtain ⟨xs, m, _, rfl, hl, hn, hf⟩ := DataW.trod_array hu hx
      have hc := consec_cat (cs := cs) h.1
      rw [List.drop_zero, Nat.sub_zero, ← hl, List.take_length] at hc
      simp only [flatD]
      rw [hc]
      have : (partsArr n (P.cellsOf e)).map (piece cs) = xs.map (fun x => flatD x.1) := by
        apply List.ext_getElem?
        intro i
        simp only [partsArr, List.map_map, List.getElem?_map]
        by_cases hi : i < n
        · have hxi : i < xs.length := by omega
          have h2 := hf i hi
          rw [List.getElem?_eq_getElem hxi] at h2 ⊢
          have h3 := ih e h.2 _ _ _ h2
          simp [hi, piece, h3]
        · rw [List.getElem?_eq_none (by simp; omega), List.getElem?_eq_none (by omega)]; rfl
      rw [this]
      exact flatDs_map (fun a _ => rfl)
    · rename_i fs hu
      simp only [Bool.and_eq_true, List.all_eq_true] at h
      obtain ⟨xs, m, _, rfl, hl, hn, hf⟩ := DataW.trod_struct hu hx
      have hc := consec_cat (cs := cs) h.1
      rw [List.drop_zero, Nat.sub_zero, ← hl, List.take_length] at hc
      simp only [flatD]
      rw [hc]
      have : (fs.toList.map fun f => (f.offset, P.cellsOf f.type)).map (piece cs) = xs.map (fun x => flatD x.1) := by
        apply List.ext_getElem?
        intro i
        simp only [List.map_map, List.getElem?_map]
        cases hfi : fs.toList[i]? with
        | none =>
          have : xs[i]? = none := List.getElem?_eq_none (by have := List.getElem?_eq_none_iff.1 hfi; rw [Array.length_toList] at this; omega)
          rw [this]; rfl
        | some f =>
          have hlt := (List.getElem?_eq_some_iff.1 hfi).1
          have h2 := hf i f (by simpa using hfi)
          have hxi : i < xs.length := by rw [Array.length_toList] at hlt; omega
          rw [List.getElem?_eq_getElem hxi] at h2 ⊢
          have h3 := ih f.type (h.2 f (List.mem_of_getElem? hfi)) _ _ _ h2
          simp [piece, h3]
      rw [this]
      exact flatDs_map (fun a _ => rfl)
    · cases h

/-! arguments -/
theorem arg_slice {t e : TypeId} (ht : P.underlying t = some (.slice e)) {a : Option Addr} {n c fuel : Nat} {x : DataW H × List MemPlace} (h : DataW.trod enc P w base sp held fuel t (Value.slice a n c).cells.toList = some x) : n ≤ maxLen := by
  cases fuel with
  | zero => simp [DataW.trod] at h
  | succ fuel =>
    have hc : (Value.slice a n c).cells.toList = [Value.slice a n c] := rfl
    rw [hc] at h
    unfold DataW.trod at h; rw [ht] at h
    cases a with
    | none =>
      cases n with
      | zero => exact Nat.zero_le _
      | succ n => simp at h
    | some a =>
      simp only at h
      split at h
      · rename_i hh; omega
      · cases h

theorem arg_string {t : TypeId} (ht : P.underlying t = some .string) {s : ByteArray} {fuel : Nat} {x : DataW H × List MemPlace} (h : DataW.trod enc P w base sp held fuel t (Value.string s).cells.toList = some x) : s.size ≤ maxLen := by
  cases fuel with
  | zero => simp [DataW.trod] at h
  | succ fuel =>
    have hc : (Value.string s).cells.toList = [Value.string s] := rfl
    rw [hc] at h
    unfold DataW.trod at h; rw [ht] at h
    simp only at h
    split at h
    · assumption
    · cases h
end
end
end Go.X

/- A call with a list that is an argument. -/
namespace Go.X
noncomputable section

/-- the environment of a call: the package variables, and the argument's block, with the place where the list begins -/
def envA (NG : Nat) (w : World) (sy : Nat → Value) (B o : Nat) : Env :=
  ⟨fun b => if b < NG then some (b, 0) else if b = NG then some (B, o) else none, fun i => if i % 2 = 1 then tyAt w (i / 2) else sy (i / 2)⟩

theorem envA_ty {NG B o : Nat} {w : World} {sy : Nat → Value} {b : Nat} {c : Array Value} {t : TypeId} {fz : Nat × Nat} (h : w.heap[b]? = some (.cells c t fz)) : (envA NG w sy B o).ty b = t := by
  have h1 : (2 * b + 1) % 2 = 1 := by omega
  have h2 : (2 * b + 1) / 2 = b := by omega
  simp only [Env.ty, envA, h1, if_true, h2, tyAt, h, Int.ofNat_eq_natCast, Int.toNat_natCast]

theorem HRa {P : Program} {O : List OraE} {G : Tr AObj} {w : World} (sy : Nat → Value) (hG : GlobAll P.globals.size w G) {B o : Nat} (hO : OraOk O (envA P.globals.size w sy B o).sy)
    {cells : List AV} {c : Array Value} {el : TypeId} {fz : Nat × Nat} (hw : w.heap[B]? = some (.cells c el fz)) (hc : ∀ i v, cells[i]? = some v → ∃ y, cv (envA P.globals.size w sy B o) v = some y ∧ c[o + i]? = some y) :
    HR (gpO P O) (envA P.globals.size w sy B o) [] (withArg ⟨P.globals.size, G⟩ (Tr.put .nil 0 cells)).objs.get (P.globals.size + 1) w := by
  have hset : (withArg ⟨P.globals.size, G⟩ (Tr.put .nil 0 cells)).objs.get = Go.X.upd G.get P.globals.size (some (.arg (Tr.put .nil 0 cells))) := by
    show (G.set _ _).get = _; rw [get_set_upd]
  have hwr : ∀ b o, (withArg ⟨P.globals.size, G⟩ (Tr.put .nil 0 cells)).objs.get b = some o → o.wr = false := by
    intro b q hb
    rw [hset] at hb
    by_cases e1 : b = P.globals.size
    · subst e1; rw [upd_same] at hb; cases hb; rfl
    · rw [upd_ne _ _ e1] at hb
      obtain ⟨_, el, avs, c, t, fz, rfl, _⟩ := hG b q hb; rfl
  refine ⟨fun b x hb => ?_, fun b q hb => ?_, fun b d q p x y hb hd hw' => ?_, fun g hg => ?_, hO⟩
  · simp only [envA] at hb
    by_cases h : b < P.globals.size
    · omega
    · rw [if_neg h] at hb
      by_cases h2 : b = P.globals.size
      · omega
      · rw [if_neg h2] at hb; cases hb
  · rw [hset] at hb
    by_cases e1 : b = P.globals.size
    · subst e1; rw [upd_same] at hb; cases hb
      refine ⟨(B, o), by simp [envA], c, el, fz, hw, fun i v hv => ?_⟩
      rw [Tr.get_put] at hv
      simp only [Nat.zero_le, Nat.zero_add, true_and, Nat.sub_zero] at hv
      by_cases hi : i < cells.length
      · rw [if_pos hi] at hv; exact hc i v hv
      · rw [if_neg hi] at hv; cases hv
    · rw [upd_ne _ _ e1] at hb
      obtain ⟨hlt, el, avs, c, t, fz, rfl, hw, hcl, hc⟩ := hG b q hb
      have hlen := cvs_length hc
      refine ⟨(b, 0), by simp only [envA]; rw [if_pos hlt], c, fz, ?_, (fun h => by cases h), ?_, fun i v hv => ?_⟩
      · show w.heap[b]? = some (.cells c ((envA P.globals.size w sy B o).ty b) fz)
        rw [envA_ty hw]; exact hw
      · show c.size = avs.length
        rw [← hlen]; simp
      · rw [Tr.get_put] at hv
        simp only [Nat.zero_le, Nat.zero_add, true_and, Nat.sub_zero] at hv
        by_cases hi : i < avs.length
        · rw [if_pos hi] at hv
          rw [closeds_cv eNil (envA P.globals.size w sy B o) avs hcl] at hc
          obtain ⟨y, hy, hx⟩ := cvs_get hc i v hv
          exact ⟨y, hy, by simpa using hx⟩
        · rw [if_neg hi] at hv; cases hv
  · rw [hwr b q hb, hwr d p hd] at hw'
    rcases hw' with h | h <;> cases h
  · simp only [envA]; rw [if_pos (show g < P.globals.size from hg)]

theorem tran_samea {e e' : Env} {G G' : Nat → Option AObj} {n n' : Nat} {w w' : World} (hwr : ∀ b o, G b = some o → o.wr = false) (h : Tran e G n w e' G' n' w') : ∀ B, B < w.heap.size → w'.heap[B]? = w.heap[B]? := by
  intro B hB
  refine h.keep B hB ?_
  rintro ⟨b, o, x, h1, h2, _⟩
  rw [hwr b o h1] at h2; cases h2

theorem chkArgs_mem {X : XP} {n f : Nat} {pre : AHeap} : ∀ {l : List (List AV × List AV)}, chkArgs X n f pre l = true → ∀ p ∈ l, chkTrue X n f (withArg pre (Tr.put .nil 0 p.1)) p.2 = true := by
  intro l
  induction l with
  | nil => intro _ as h; cases h
  | cons a r ih =>
    intro h as hm
    simp only [chkArgs, Bool.and_eq_true] at h
    rcases List.mem_cons.1 hm with rfl | hm
    · exact h.1
    · exact ih h.2 as hm

theorem chkArgs_append {X : XP} {n f : Nat} {pre : AHeap} : ∀ {l m : List (List AV × List AV)}, chkArgs X n f pre l = true → chkArgs X n f pre m = true → chkArgs X n f pre (l ++ m) = true := by
  intro l
  induction l with
  | nil => intro m _ h; exact h
  | cons a r ih =>
    intro m h h'
    simp only [chkArgs, Bool.and_eq_true, List.cons_append] at h ⊢
    exact ⟨h.1, ih h.2 h'⟩

theorem topA_append {X : XP} {n f : Nat} {pre : AHeap} {l m : List (List AV × List AV)} (h : chkTopA X n f pre l = true) (h' : chkTopA X n f pre m = true) : chkTopA X n f pre (l ++ m) = true := by
  simp only [chkTopA, Bool.and_eq_true] at h h' ⊢
  exact ⟨h.1, chkArgs_append h.2 h'.2⟩

/-- the call, with a list whose first elements are known, of which a look of the kernel's says that it returns true -/
theorem top_truea {P : Program} {X : XP} (ok : XPok P X) (okf : FnOk P X) (hmix : P.follows .mixedOrders = true) (hMe : MemoOk P X.ora X.memo) (hS : SumsOk P X) {n f : Nat} {G : Tr AObj} {l : List (List AV × List AV)}
    (h : chkTopA X n f ⟨P.globals.size, G⟩ l = true) {w : World} (hG : GlobAll P.globals.size w G) {p : List AV × List AV} (hm : p ∈ l)
    {vs : List Value} (sy : Nat → Value) {B o : Nat} (hO : OraOk X.ora (envA P.globals.size w sy B o).sy) {c : Array Value} {el : TypeId} {fz : Nat × Nat} (hw : w.heap[B]? = some (.cells c el fz))
    (hc : ∀ i v, p.1[i]? = some v → ∃ y, cv (envA P.globals.size w sy B o) v = some y ∧ c[o + i]? = some y) (hvs : cvs (envA P.globals.size w sy B o) p.2 = some vs) :
    Calls P f vs.toArray w fun en w' => en = .returned (.bool true) ∧ (∀ B, B < w.heap.size → w'.heap[B]? = w.heap[B]?) ∧ ∀ may, w.keptBut w' may := by
  simp only [chkTopA, Bool.and_eq_true] at h
  obtain ⟨⟨hb, hn1⟩, hcc⟩ := h
  have hcc := chkArgs_mem hcc p hm
  simp only [chkTrue] at hcc
  have hwr : ∀ b o, (withArg ⟨P.globals.size, G⟩ (Tr.put .nil 0 p.1)).objs.get b = some o → o.wr = false := by
    intro b q hb
    have hset : (withArg ⟨P.globals.size, G⟩ (Tr.put .nil 0 p.1)).objs.get = Go.X.upd G.get P.globals.size (some (.arg (Tr.put .nil 0 p.1))) := by
      show (G.set _ _).get = _; rw [get_set_upd]
    rw [hset] at hb
    by_cases e1 : b = P.globals.size
    · subst e1; rw [upd_same] at hb; cases hb; rfl
    · rw [upd_ne _ _ e1] at hb
      obtain ⟨_, el, avs, c, t, fz, rfl, _⟩ := hG b q hb; rfl
  unfold outsTrue1 at hcc
  split at hcc
  · rename_i q ho
    have hB := (run_ok ok okf hmix (memoFits ok.glob hMe hS) n).2
    obtain ⟨_, hcalls⟩ := hB [] f [] [] p.2 (withArg ⟨P.globals.size, G⟩ (Tr.put .nil 0 p.1)) q ho hb (envA P.globals.size w sy B o) w [] vs [] rfl hvs rfl (HRa sy hG hO hw hc)
    have hcalls' : Calls P f vs.toArray w (fun en w' => en ≠ .outgrown ∧ ValOut (gp P X) [] (envA P.globals.size w sy B o) (withArg ⟨P.globals.size, G⟩ (Tr.put .nil 0 p.1)) w q en w') := by simpa using hcalls
    refine hcalls'.mono fun en w' ⟨_, v, H', hm', e', hen, _, hT⟩ => ?_
    have hv1 : v = .bool true := outsTrue_mem hcc _ hm'
    subst hv1
    obtain ⟨y, hv, rfl⟩ := endR_not hen (by simp)
    simp only [cv, Option.some.injEq] at hv
    subst hv
    exact ⟨rfl, tran_samea hwr hT, kept_same hT.os hT.output (tran_samea hwr hT)⟩
  · cases hcc

/-! ### a list of numbers that is an argument, opened -/
section
variable {H : Type} {enc : TypeId × Value → H} {P : Program} {w : World} {base : Nat} {sp : Nat → Bool} {held : Bool} {fuel : Nat}

theorem cells_one {a : Addr} {l : List Value} (h : w.cells? base a 1 = some l) : ∃ v, l = [v] ∧ w.cell? a = some v := by
  unfold World.cells? at h
  split at h
  · simp only [List.range_one, List.mapM_cons, List.mapM_nil] at h
    have h0 : a.add 0 = a := rfl
    rw [h0] at h
    cases hv : w.cell? a with
    | none => rw [hv] at h; cases h
    | some v => rw [hv] at h; exact ⟨v, (Option.some.inj h).symm, rfl⟩
  · cases h

theorem ints_of {e : TypeId} {k : IntKind} (he : P.underlying e = some (.int k)) (hc : P.cellsOf e = 1) {a : Addr} {n : Nat} {elems : List (DataW H × List MemPlace)} (hn : 0 < n) (hl : elems.length = n)
    (h : ∀ i, i < n → (w.cells? base (a.add (i * P.cellsOf e)) (P.cellsOf e)).bind (DataW.trod enc P w base sp held fuel e) = elems[i]?) :
    ∃ (B o : Nat) (cs : Array Value) (el : TypeId) (fz : Nat × Nat) (xs : List Int), a = ⟨B, o, none⟩ ∧ w.heap[B]? = some (.cells cs el fz) ∧ xs.length = n ∧ (∀ x ∈ xs, (Lit.int k x).wf = true) ∧ ∀ i x, xs[i]? = some x → cs[o + i]? = some (.int k x) := by
  have h1 : ∀ i, i < n → ∃ m, w.cell? (a.add i) = some (.int k m) ∧ (Lit.int k m).wf = true := by
    intro i hi
    have h2 := h i hi
    rw [hc, Nat.mul_one, List.getElem?_eq_getElem (by omega)] at h2
    cases hq : w.cells? base (a.add i) 1 with
    | none => rw [hq] at h2; cases h2
    | some l =>
      obtain ⟨v, rfl, hv⟩ := cells_one hq
      rw [hq] at h2
      simp only [Option.bind_some] at h2
      obtain ⟨m, hm, _, hw⟩ := DataW.trod_int he h2
      simp only [List.cons.injEq, and_true] at hm
      subst hm
      exact ⟨m, hv, hw⟩
  obtain ⟨B, o, s⟩ := a
  obtain ⟨m0, g0, _⟩ := h1 0 hn
  have ha : (⟨B, o, s⟩ : Addr).add 0 = ⟨B, o, s⟩ := rfl
  rw [ha] at g0
  unfold World.cell? at g0
  cases hb : w.heap[B]? with
  | none => rw [hb] at g0; cases g0
  | some ob =>
    rw [hb] at g0
    cases ob with
    | cells cs el fz =>
      cases s with
      | some s => simp at g0
      | none =>
        refine ⟨B, o, cs, el, fz, (List.range n).map fun i => match cs[o + i]? with | some (.int _ m) => m | _ => 0, rfl, hb, by simp, ?_, ?_⟩
        · intro x hx
          obtain ⟨i, hi, rfl⟩ := List.mem_map.1 hx
          obtain ⟨m, g1, g2⟩ := h1 i (List.mem_range.1 hi)
          have : cs[o + i]? = some (.int k m) := by
            rw [add_none] at g1
            simpa [World.cell?, hb] using g1
          rw [this]; exact g2
        · intro i x hx
          simp only [List.getElem?_map, Option.map_eq_some_iff] at hx
          obtain ⟨j, hj, rfl⟩ := hx
          have hjn : i < n := by
            have := (List.getElem?_eq_some_iff.1 hj).1
            simpa using this
          rw [List.getElem?_range hjn] at hj
          cases hj
          obtain ⟨m, g1, _⟩ := h1 i hjn
          have : cs[o + i]? = some (.int k m) := by
            rw [add_none] at g1
            simpa [World.cell?, hb] using g1
          rw [this]
    | _ => cases g0
end
end
end Go.X

/- Numbers of which little is known, and what operations on them yield: entries of the oracle's list, proved. Arrays that are arguments. -/
namespace Go.X
noncomputable section

/-! ### entries -/
def kLo : IntKind → Int
  | .i8 => -128 | .i16 => -32768 | .i32 => -2147483648 | .i64 => -9223372036854775808 | _ => 0
def kHi : IntKind → Int
  | .i8 => 127 | .i16 => 32767 | .i32 => 2147483647 | .i64 => 9223372036854775807 | .u8 => 255 | .u16 => 65535 | .u32 => 4294967295 | .u64 => 18446744073709551615

theorem fwrap_id {k : IntKind} {n : Int} (h : kLo k ≤ n ∧ n ≤ kHi k) : fwrap k n = n := by
  rw [fwrap_eq]
  cases k <;> simp only [kLo, kHi] at h <;> simp [IntKind.wrap, IntKind.bits, IntKind.signed] <;> omega

theorem cv_num {sy : Nat → Value} {i : Nat} {k : IntKind} {lo hi n : Int} (hs : sy i = .int k n) (h : lo ≤ n ∧ n ≤ hi) : ∀ e : Env, e.sy = sy → cv e (.res i (.rng k lo hi)) = cv e (.int k n) := by
  intro e he
  rw [rng_cv (by rw [he]; exact hs) h]
  rfl

section
variable {l : List OraE} {sy : Nat → Value} {x y : AV} {i : Nat} {k : IntKind} {lo hi a b : Int}

theorem ora_add (hx : numVal sy x = some (k, a)) (hy : numVal sy y = some (k, b)) (hs : sy i = .int k (a + b)) (h : lo ≤ a + b ∧ a + b ≤ hi) (hk : kLo k ≤ a + b ∧ a + b ≤ kHi k) (hl : OraOk l sy) :
    OraOk (⟨.add, x, y, .res i (.rng k lo hi), none⟩ :: l) sy :=
  ora_cons k a k b (.int k (a + b)) hx hy (by cases k <;> (refine (show _ = some (AV.int _ (fwrap _ (iAdd a b))) from rfl).trans ?_; rw [iAdd_eq, fwrap_id hk])) (cv_num hs h) hl

theorem ora_sub (hx : numVal sy x = some (k, a)) (hy : numVal sy y = some (k, b)) (hs : sy i = .int k (a - b)) (h : lo ≤ a - b ∧ a - b ≤ hi) (hk : kLo k ≤ a - b ∧ a - b ≤ kHi k) (hl : OraOk l sy) :
    OraOk (⟨.sub, x, y, .res i (.rng k lo hi), none⟩ :: l) sy :=
  ora_cons k a k b (.int k (a - b)) hx hy (by cases k <;> (refine (show _ = some (AV.int _ (fwrap _ (iSub a b))) from rfl).trans ?_; rw [iSub_eq, fwrap_id hk])) (cv_num hs h) hl

theorem ora_mul (hx : numVal sy x = some (k, a)) (hy : numVal sy y = some (k, b)) (hs : sy i = .int k (a * b)) (h : lo ≤ a * b ∧ a * b ≤ hi) (hk : kLo k ≤ a * b ∧ a * b ≤ kHi k) (hl : OraOk l sy) :
    OraOk (⟨.mul, x, y, .res i (.rng k lo hi), none⟩ :: l) sy :=
  ora_cons k a k b (.int k (a * b)) hx hy (by cases k <;> (refine (show _ = some (AV.int _ (fwrap _ (a * b))) from rfl).trans ?_; rw [fwrap_id hk])) (cv_num hs h) hl

theorem rem_run {m n : Nat} (hn : 0 < n) : binInt .rem k k (Int.ofNat m) (Int.ofNat n) = some (.int k (Int.ofNat (m % n))) := by
  cases n with
  | zero => omega
  | succ n => cases k <;> rfl

theorem ora_rem {m n : Nat} (hn : 0 < n) (hx : numVal sy x = some (k, Int.ofNat m)) (hy : numVal sy y = some (k, Int.ofNat n)) (hs : sy i = .int k (Int.ofNat (m % n))) (h : lo ≤ Int.ofNat (m % n) ∧ Int.ofNat (m % n) ≤ hi) (hl : OraOk l sy) :
    OraOk (⟨.rem, x, y, .res i (.rng k lo hi), none⟩ :: l) sy :=
  ora_cons k _ k _ _ hx hy (rem_run hn) (cv_num hs h) hl

/-- a remainder that is known -/
theorem ora_remc {m n r : Nat} (hn : 0 < n) (hr : m % n = r) (hx : numVal sy x = some (k, Int.ofNat m)) (hy : numVal sy y = some (k, Int.ofNat n)) (hl : OraOk l sy) :
    OraOk (⟨.rem, x, y, .int k (Int.ofNat r), none⟩ :: l) sy :=
  ora_cons k _ k _ _ hx hy (rem_run hn) (fun e _ => by rw [hr]) hl

theorem quo_run {m n : Nat} (hn : 0 < n) (hk : (Int.ofNat (m / n)) ≤ kHi k) : binInt .quo k k (Int.ofNat m) (Int.ofNat n) = some (.int k (Int.ofNat (m / n))) := by
  have hz : kLo k ≤ Int.ofNat (m / n) := by
    have h0 : (0 : Int) ≤ Int.ofNat (m / n) := Int.natCast_nonneg _
    have h1 : kLo k ≤ 0 := by cases k <;> decide
    omega
  cases n with
  | zero => omega
  | succ n => cases k <;> (refine (show _ = some (AV.int _ (fwrap _ (Int.ofNat (m / (n + 1))))) from rfl).trans ?_; rw [fwrap_id ⟨hz, hk⟩])

theorem ora_quo {m n : Nat} (hn : 0 < n) (hx : numVal sy x = some (k, Int.ofNat m)) (hy : numVal sy y = some (k, Int.ofNat n)) (hs : sy i = .int k (Int.ofNat (m / n))) (h : lo ≤ Int.ofNat (m / n) ∧ Int.ofNat (m / n) ≤ hi) (hk : (Int.ofNat (m / n)) ≤ kHi k) (hl : OraOk l sy) :
    OraOk (⟨.quo, x, y, .res i (.rng k lo hi), none⟩ :: l) sy :=
  ora_cons k _ k _ _ hx hy (quo_run hn hk) (cv_num hs h) hl

theorem ora_lss {r : Bool} (hx : numVal sy x = some (k, a)) (hy : numVal sy y = some (k, b)) (h : decide (a < b) = r) (hl : OraOk l sy) : OraOk (⟨.lss, x, y, .bool r, none⟩ :: l) sy :=
  ora_cons k a k b (.bool r) hx hy (by cases k <;> (refine (show _ = some (AV.bool (iLt a b)) from rfl).trans ?_; rw [iLt_eq, h])) (fun _ _ => rfl) hl
theorem ora_gtr {r : Bool} (hx : numVal sy x = some (k, a)) (hy : numVal sy y = some (k, b)) (h : decide (b < a) = r) (hl : OraOk l sy) : OraOk (⟨.gtr, x, y, .bool r, none⟩ :: l) sy :=
  ora_cons k a k b (.bool r) hx hy (by cases k <;> (refine (show _ = some (AV.bool (iLt b a)) from rfl).trans ?_; rw [iLt_eq, h])) (fun _ _ => rfl) hl
theorem ora_leq {r : Bool} (hx : numVal sy x = some (k, a)) (hy : numVal sy y = some (k, b)) (h : decide (a ≤ b) = r) (hl : OraOk l sy) : OraOk (⟨.leq, x, y, .bool r, none⟩ :: l) sy :=
  ora_cons k a k b (.bool r) hx hy (by cases k <;> (refine (show _ = some (AV.bool (iLe a b)) from rfl).trans ?_; rw [iLe_eq, h])) (fun _ _ => rfl) hl
theorem ora_geq {r : Bool} (hx : numVal sy x = some (k, a)) (hy : numVal sy y = some (k, b)) (h : decide (b ≤ a) = r) (hl : OraOk l sy) : OraOk (⟨.geq, x, y, .bool r, none⟩ :: l) sy :=
  ora_cons k a k b (.bool r) hx hy (by cases k <;> (refine (show _ = some (AV.bool (iLe b a)) from rfl).trans ?_; rw [iLe_eq, h])) (fun _ _ => rfl) hl
theorem ora_eql {r : Bool} (hx : numVal sy x = some (k, a)) (hy : numVal sy y = some (k, b)) (h : decide (a = b) = r) (hl : OraOk l sy) : OraOk (⟨.eql, x, y, .bool r, none⟩ :: l) sy :=
  ora_cons k a k b (.bool r) hx hy (by cases k <;> (refine (show _ = some (AV.bool (iEq a b)) from rfl).trans ?_; rw [iEq_eq, show (a == b) = decide (a = b) from rfl, h])) (fun _ _ => rfl) hl
theorem ora_neq {r : Bool} (hx : numVal sy x = some (k, a)) (hy : numVal sy y = some (k, b)) (h : decide (a = b) = !r) (hl : OraOk l sy) : OraOk (⟨.neq, x, y, .bool r, none⟩ :: l) sy :=
  ora_cons k a k b (.bool r) hx hy (by cases k <;> (refine (show _ = some (AV.bool !(iEq a b)) from rfl).trans ?_; rw [iEq_eq, show (a == b) = decide (a = b) from rfl, h, Bool.not_not])) (fun _ _ => rfl) hl
end

theorem ora_append {l m : List OraE} {sy : Nat → Value} (h : OraOk l sy) (h' : OraOk m sy) : OraOk (l ++ m) sy := by
  intro o ho
  rcases List.mem_append.1 ho with ho | ho
  · exact h o ho
  · exact h' o ho

/-! ### a sum of bytes -/
theorem nat_map_inj : ∀ {l m : List Nat}, (l.map fun b => Value.int .u8 (Int.ofNat b)) = (m.map fun b => Value.int .u8 (Int.ofNat b)) → l = m
  | [], [], _ => rfl
  | [], _ :: _, h => by cases h
  | _ :: _, [], h => by cases h
  | a :: l, b :: m, h => by
    simp only [List.map_cons, List.cons.injEq, Value.int.injEq, Int.ofNat_eq_natCast, Int.natCast_inj, true_and] at h
    rw [h.1, nat_map_inj h.2]

theorem ora_sum {l : List OraE} {sy : Nat → Value} {cs : List AV} {i : Nat} (bs : List Nat) (h0 : ∀ e : Env, e.sy = sy → cvs e cs = some (bs.map fun b => .int .u8 (Int.ofNat b)))
    (hs : sy i = .int .u32 (Int.ofNat (crcG bs))) (hb : ∀ b ∈ bs, b < 256) (hcr : crcG bs < 4294967296) (hl : OraOk l sy) : OraOk (⟨.xor, .undef, .undef, .res i (.rng .u32 0 4294967295), some cs⟩ :: l) sy := by
  intro p hp
  rcases List.mem_cons.1 hp with rfl | hp
  · intro e he
    refine ⟨(fun _ x y hx' => by cases hx'), fun cs' hcs => ?_⟩
    cases hcs
    intro bs' _ hbs'
    rw [h0 e he] at hbs'
    have := nat_map_inj (Option.some.inj hbs')
    subst this
    rw [rng_cv (by rw [he]; exact hs) ⟨by simp, by simp; omega⟩]
  · exact hl p hp

/-- bytes that are known -/
def kBytes (l : List Nat) : List AV := l.map fun n => .int .u8 (.ofNat n)

theorem cvs_bytes (e : Env) : ∀ l : List Nat, cvs e (kBytes l) = some (l.map fun b => .int .u8 (Int.ofNat b))
  | [] => rfl
  | a :: l => by
    have := cvs_bytes e l
    simp only [kBytes] at this
    simp only [kBytes, List.map_cons, cvs, cv, this]

theorem cvs_app_bytes {e : Env} : ∀ {x y : List AV} {a b : List Nat}, cvs e x = some (a.map fun b => .int .u8 (Int.ofNat b)) → cvs e y = some (b.map fun b => .int .u8 (Int.ofNat b)) → cvs e (x ++ y) = some ((a ++ b).map fun b => .int .u8 (Int.ofNat b))
  | [], y, a, b, h, k => by
    cases a with
    | nil => exact k
    | cons c a => simp [cvs] at h
  | v :: x, y, a, b, h, k => by
    obtain ⟨z, zs, hz, hzs, he⟩ := cvs_cons h
    cases a with
    | nil => simp at he
    | cons c a =>
      simp only [List.map_cons, List.cons.injEq] at he
      obtain ⟨rfl, rfl⟩ := he
      simp only [List.cons_append, List.map_cons, cvs, hz, cvs_app_bytes hzs k]

theorem byt_cv {e : Env} {i : Nat} {k : IntKind} {j lo hi n : Nat} (hs : e.sy i = .int k (Int.ofNat n)) (h : lo ≤ n ∧ n ≤ hi) : cv e (.res i (.nat .u8 (.byt j) lo hi)) = some (.int .u8 (Int.ofNat (n / 2 ^ (8 * j) % 256))) := by
  show (RC.nat .u8 (.byt j) lo hi).val (e.sy i) = _
  rw [hs]
  show (if lo ≤ n ∧ n ≤ hi then some (Value.int .u8 (Int.ofNat (hfv (.byt j) n))) else none) = _
  rw [if_pos h]
  rfl

theorem md_cv {e : Env} {i : Nat} {k : IntKind} {m r n : Nat} (hs : e.sy i = .int k (Int.ofNat n)) (h : n % m = r) : cv e (.res i (.md k m r)) = some (.int k (Int.ofNat n)) := by
  show (RC.md k m r).val (e.sy i) = _
  rw [hs]
  show (if k = k ∧ n % m = r then some (Value.int k (Int.ofNat n)) else none) = _
  rw [if_pos ⟨rfl, h⟩]

theorem bits_cv {e : Env} {i : Nat} {k : IntKind} {j m r n : Nat} (hs : e.sy i = .int k (Int.ofNat n)) (h : n / 2 ^ j % m = r) : cv e (.res i (.bits k j m r 0)) = some (.int k (Int.ofNat n)) := by
  show (RC.bits k j m r 0).val (e.sy i) = _
  rw [hs]
  show (if k = k ∧ n / 2 ^ j % m = r then some (Value.int k (Int.ofNat (n / 2 ^ 0))) else none) = _
  rw [if_pos ⟨rfl, h⟩, Nat.pow_zero, Nat.div_one]

/-! ### arrays that are arguments -/
section
variable {H : Type} {enc : TypeId × Value → H} {P : Program} {w : World} {base : Nat} {sp : Nat → Bool} {held : Bool} {fuel : Nat}

theorem okWide_array {r : Reach} {t : TypeId} {n e : Nat} {v : Value} (ht : P.underlying t = some (.array n e)) (h : Value.okWide P w r base t v) : ∃ cs, v = .agg cs ∧ cs.size = P.cellsOf t := by
  simp only [Value.okWide, ht] at h
  obtain ⟨cs, h1, h2, _⟩ := h
  exact ⟨cs, h1, h2⟩

/-- a number in an array -/
theorem arr_int {t e : TypeId} {n : Nat} {cs : List Value} {x : DataW H × List MemPlace} {k : IntKind} (ht : P.underlying t = some (.array n e)) (he : P.underlying e = some (.int k)) (hc : P.cellsOf e = 1)
    (h : DataW.trod enc P w base sp held fuel t cs = some x) {i : Nat} (hi : i < n) : ∃ m, cs[i]? = some (.int k m) ∧ (Lit.int k m).wf = true := by
  obtain ⟨xs, m, _, _, _, hn, hf⟩ := DataW.trod_array ht h
  have h1 := hf i hi
  rw [hc, Nat.mul_one] at h1
  have hxi : i < xs.length := by omega
  rw [List.getElem?_eq_getElem hxi] at h1
  obtain ⟨m, hm, _, hw⟩ := DataW.trod_int he h1
  exact ⟨m, cell_one hm, hw⟩
end

/-- a number without a sign, as a natural one -/
theorem nat_wf {k : IntKind} {n : Int} (hk : kLo k = 0) (h : (Lit.int k n).wf = true) : ∃ m : Nat, n = Int.ofNat m ∧ Int.ofNat m ≤ kHi k := by
  have h2 : (decide (k.min ≤ n) && decide (n ≤ k.max)) = true := h
  simp only [Bool.and_eq_true, decide_eq_true_eq] at h2
  have hm : kLo k = k.min := by cases k <;> decide
  have hx : kHi k = k.max := by cases k <;> decide
  rw [← hm, ← hx, hk] at h2
  refine ⟨n.toNat, ?_, ?_⟩
  · simp [Int.toNat_of_nonneg h2.1]
  · simpa [Int.toNat_of_nonneg h2.1] using h2.2
end
end Go.X

/- The checksum in plain numbers: bit by bit, and by a table of 256; the table as a value. -/
namespace Go.X
def step8 (x : Nat) : Nat := crcStep (crcStep (crcStep (crcStep (crcStep (crcStep (crcStep (crcStep x)))))))

theorem xor_div2 (a b : Nat) : (a ^^^ b) / 2 = (a / 2) ^^^ (b / 2) := by
  apply Nat.eq_of_testBit_eq
  intro i
  simp [Nat.testBit_div_two, Nat.testBit_xor]

theorem xor_mod2 (a b : Nat) : (a ^^^ b) % 2 = (a % 2 + b % 2) % 2 := by
  have h := Nat.testBit_xor a b 0
  simp only [Nat.testBit_zero] at h
  have ha := Nat.mod_two_eq_zero_or_one a
  have hb := Nat.mod_two_eq_zero_or_one b
  have hc := Nat.mod_two_eq_zero_or_one (a ^^^ b)
  rcases ha with ha | ha <;> rcases hb with hb | hb <;> rcases hc with hc | hc <;> simp [ha, hb, hc] at h ⊢

theorem crcStep_xor (a b : Nat) : crcStep (a ^^^ b) = crcStep a ^^^ crcStep b := by
  unfold crcStep
  rw [xor_mod2, xor_div2]
  have ha := Nat.mod_two_eq_zero_or_one a
  have hb := Nat.mod_two_eq_zero_or_one b
  rcases ha with ha | ha <;> rcases hb with hb | hb <;> simp only [ha, hb] <;> simp
  · rw [Nat.xor_assoc]
  · rw [Nat.xor_assoc, Nat.xor_comm (b / 2), Nat.xor_assoc]
  · rw [Nat.xor_assoc, Nat.xor_comm 3988292384 (b / 2 ^^^ _), Nat.xor_assoc, Nat.xor_self, Nat.xor_zero]

theorem step8_xor (a b : Nat) : step8 (a ^^^ b) = step8 a ^^^ step8 b := by
  unfold step8
  simp only [crcStep_xor]

theorem crcStep_even (h : Nat) : crcStep (2 * h) = h := by
  unfold crcStep
  rw [if_neg (by omega)]
  omega

theorem step8_high (h : Nat) : step8 (256 * h) = h := by
  unfold step8
  rw [show 256 * h = 2 * (128 * h) by omega, crcStep_even, show 128 * h = 2 * (64 * h) by omega, crcStep_even, show 64 * h = 2 * (32 * h) by omega, crcStep_even, show 32 * h = 2 * (16 * h) by omega, crcStep_even, show 16 * h = 2 * (8 * h) by omega, crcStep_even, show 8 * h = 2 * (4 * h) by omega, crcStep_even, show 4 * h = 2 * (2 * h) by omega, crcStep_even, crcStep_even]

theorem split256 (z : Nat) : z = (z % 256) ^^^ (256 * (z / 256)) := by
  apply Nat.eq_of_testBit_eq
  intro i
  rw [Nat.testBit_xor, show (256 : Nat) = 2 ^ 8 by decide, Nat.testBit_mod_two_pow, Nat.testBit_two_pow_mul, Nat.testBit_div_two_pow]
  by_cases hi : i < 8
  · simp [hi, show ¬ 8 ≤ i by omega]
  · simp [hi, show 8 ≤ i by omega, Nat.sub_add_cancel (show 8 ≤ i by omega)]

/-- a byte by a table -/
theorem crcByte_table (x b : Nat) (hb : b < 256) : crcByte x b = step8 ((x % 256) ^^^ b) ^^^ (x / 256) := by
  have h1 : crcByte x b = step8 (x ^^^ b) := rfl
  have h2 : (x ^^^ b) / 256 = x / 256 := by
    apply Nat.eq_of_testBit_eq
    intro i
    rw [show (256 : Nat) = 2 ^ 8 by decide, Nat.testBit_div_two_pow, Nat.testBit_xor, Nat.testBit_div_two_pow]
    have : b.testBit (i + 8) = false := Nat.testBit_lt_two_pow (Nat.lt_of_lt_of_le hb (by rw [show (256 : Nat) = 2 ^ 8 by decide]; exact Nat.pow_le_pow_right (by decide) (by omega)))
    rw [this, Bool.xor_false]
  have h3 : (x ^^^ b) % 256 = (x % 256) ^^^ b := by
    apply Nat.eq_of_testBit_eq
    intro i
    rw [show (256 : Nat) = 2 ^ 8 by decide, Nat.testBit_mod_two_pow, Nat.testBit_xor, Nat.testBit_xor, Nat.testBit_mod_two_pow]
    by_cases hi : i < 8
    · simp [hi]
    · have : b.testBit i = false := Nat.testBit_lt_two_pow (Nat.lt_of_lt_of_le hb (by rw [show (256 : Nat) = 2 ^ 8 by decide]; exact Nat.pow_le_pow_right (by decide) (by omega)))
      simp [hi, this]
  rw [h1, split256 (x ^^^ b), step8_xor, step8_high, h2, h3]

theorem crcStep_lt {x : Nat} (h : x < 4294967296) : crcStep x < 4294967296 := by
  unfold crcStep
  split
  · exact Nat.xor_lt_two_pow (n := 32) (by omega) (by decide)
  · omega

theorem step8_lt {x : Nat} (h : x < 4294967296) : step8 x < 4294967296 := crcStep_lt (crcStep_lt (crcStep_lt (crcStep_lt (crcStep_lt (crcStep_lt (crcStep_lt (crcStep_lt h)))))))

theorem crcByte_lt {x b : Nat} (h : x < 4294967296) (hb : b < 256) : crcByte x b < 4294967296 := step8_lt (Nat.xor_lt_two_pow (n := 32) h (by omega))

theorem crcFold_lt : ∀ (l : List Nat) (x : Nat), x < 4294967296 → (∀ b ∈ l, b < 256) → l.foldl crcByte x < 4294967296
  | [], _, h, _ => h
  | b :: l, _, h, hl => crcFold_lt l _ (crcByte_lt h (hl b (List.mem_cons_self ..))) (fun c hc => hl c (List.mem_cons_of_mem _ hc))

theorem crcG_lt (l : List Nat) (h : ∀ b ∈ l, b < 256) : crcG l < 4294967296 := Nat.xor_lt_two_pow (n := 32) (crcFold_lt l _ (by decide) h) (by decide)

theorem fold_take (l : List Nat) (x k : Nat) (hk : k < l.length) : (l.take (k + 1)).foldl crcByte x = crcByte ((l.take k).foldl crcByte x) (l.getD k 0) := by
  rw [List.take_add_one, List.foldl_append]
  simp [List.getD, List.getElem?_eq_getElem hk]
noncomputable section

/-! ### the table of the sums of one byte -/
def tabV : List AV := (List.range 256).map fun i => .int .u32 (.ofNat (step8 i))
def tabA : Array Value := ((List.range 256).map fun i => Value.int .u32 (.ofNat (step8 i))).toArray

/-- the table of the sums of one byte -/
def TabOk (t : Array Value) : Prop := t.size = 256 ∧ ∀ i, i < 256 → t[i]? = some (.int .u32 (Int.ofNat (step8 i)))

/-- what lay there lies there as it lay -/
def Lk (w w' : World) : Prop := w.heap.size ≤ w'.heap.size ∧ (∀ C, C < w.heap.size → w'.heap[C]? = w.heap[C]?) ∧ w'.os = w.os ∧ w'.tape = w.tape ∧ w'.output = w.output

theorem tab_ok : TabOk tabA := by
  refine ⟨by simp [tabA], fun i hi => ?_⟩
  simp [tabA, hi]

theorem cvs_ints (e : Env) (k : IntKind) (f : Nat → Int) : ∀ l : List Nat, cvs e (l.map fun i => .int k (f i)) = some (l.map fun i => .int k (f i))
  | [] => rfl
  | a :: l => by simp only [List.map_cons, cvs, cv, cvs_ints e k f l]

theorem tab_of {P : Program} {f : FuncId} (h : EntOk P [] f (.pure [] (.agg tabV))) (w : World) : Calls P f #[] w fun e w' => e = .returned (.agg tabA) ∧ Lk w w' := by
  have hH : HR (gpO P []) (env0 P.globals.size w (fun _ => .bool false)) [] (Tr.nil : Tr AObj).get P.globals.size w :=
    HR0g (G := .nil) (fun _ => .bool false) (fun b o hb => by cases hb) (ora_nil _)
  refine (h.2.2 _ w [] rfl hH).mono ?_
  rintro en w' ⟨_, H', e', hen, _, hT⟩
  refine ⟨?_, hT.size, fun C hC => hT.keep C hC ?_, hT.os, hT.tape, hT.output⟩
  · obtain ⟨y, hy, rfl⟩ := hen
    have hc : cv e' (.agg tabV) = some (.agg tabA) := by
      simp only [cv, tabV, cvs_ints]
      rfl
    rw [hc] at hy
    cases hy
    rfl
  · rintro ⟨b, o, x, hb, _⟩
    cases hb
end
end Go.X
