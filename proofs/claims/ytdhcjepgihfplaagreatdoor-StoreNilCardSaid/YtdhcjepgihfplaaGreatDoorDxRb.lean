/- The tables are so, by looks that the kernel takes. -/
import Derived.Test.YtdhcjepgihfplaaGreatDoorDxRa
namespace Go.X
noncomputable section

def TrAll {α : Type} (p : Nat → α → Prop) : (Nat → Nat) → Tr α → Prop
  | _, .nil => True
  | g, .node v l r => (match v with | some x => p (g 0) x | none => True) ∧ TrAll p (fun n => g (2 * n + 1)) l ∧ TrAll p (fun n => g (2 * n + 2)) r

theorem TrAll.get {α : Type} {p : Nat → α → Prop} : ∀ {t : Tr α} {g : Nat → Nat}, TrAll p g t → ∀ n x, t.get n = some x → p (g n) x := by
  intro t
  induction t with
  | nil => intro g _ n x h; cases h
  | node v l r ihl ihr =>
    intro g h n x hx
    obtain ⟨h1, h2, h3⟩ := h
    rw [Tr.get_node] at hx
    by_cases h0 : n = 0
    · rw [if_pos h0] at hx; subst hx h0; exact h1
    · rw [if_neg h0] at hx
      by_cases ho : n % 2 = 1
      · rw [if_pos ho] at hx
        have := ihl h2 _ x hx
        have e1 : 2 * (n / 2) + 1 = n := by omega
        rw [e1] at this; exact this
      · rw [if_neg ho] at hx
        have := ihr h3 _ x hx
        have e1 : 2 * (n / 2 - 1) + 2 = n := by omega
        rw [e1] at this; exact this

def Tr.allB {α : Type} (p : Nat → α → Bool) : Nat → Nat → Tr α → Bool
  | _, _, .nil => true
  | a, b, .node v l r => (match v with | some x => p b x | none => true) && l.allB p (2 * a) (a + b) && r.allB p (2 * a) (2 * a + b)

theorem Tr.allB_get {α : Type} {p : Nat → α → Bool} : ∀ {t : Tr α} {a b : Nat}, t.allB p a b = true → ∀ n x, t.get n = some x → p (a * n + b) x = true := by
  intro t
  induction t with
  | nil => intro a b _ n x h; cases h
  | node v l r ihl ihr =>
    intro a b h n x hx
    simp only [Tr.allB, Bool.and_eq_true] at h
    obtain ⟨⟨h1, h2⟩, h3⟩ := h
    rw [Tr.get_node] at hx
    by_cases h0 : n = 0
    · rw [if_pos h0] at hx; subst hx h0; rw [Nat.mul_zero, Nat.zero_add]; exact h1
    · rw [if_neg h0] at hx
      by_cases ho : n % 2 = 1
      · rw [if_pos ho] at hx
        have := ihl h2 _ x hx
        have e1 : 2 * a * (n / 2) + (a + b) = a * n + b := by
          have : n = 2 * (n / 2) + 1 := by omega
          conv => rhs; rw [this]
          rw [Nat.mul_add, Nat.mul_one, ← Nat.mul_assoc, Nat.mul_comm a 2]; omega
        rw [e1] at this; exact this
      · rw [if_neg ho] at hx
        have := ihr h3 _ x hx
        have e1 : 2 * a * (n / 2 - 1) + (2 * a + b) = a * n + b := by
          have : n = 2 * (n / 2 - 1) + 2 := by omega
          conv => rhs; rw [this]
          rw [Nat.mul_add, ← Nat.mul_assoc, Nat.mul_comm a 2]; omega
        rw [e1] at this; exact this

def fldsB (P : Program) : List Field → List FldI → Bool
  | [], [] => true
  | f :: fs, g :: gs => Nat.beq f.offset g.off && Nat.beq f.type g.ty && Nat.beq (P.cellsOf f.type) g.size && fldsB P fs gs
  | _, _ => false

theorem fldsB_of {P : Program} : ∀ {fs : List Field} {gs : List FldI}, fldsB P fs gs = true → (fs.map fun f => (f.offset, f.type, P.cellsOf f.type)) = gs.map (fun g => (g.off, g.ty, g.size)) := by
  intro fs
  induction fs with
  | nil => intro gs h; cases gs with
    | nil => rfl
    | cons g gs => cases h
  | cons f fs ih =>
    intro gs h
    cases gs with
    | nil => cases h
    | cons g gs =>
      simp only [fldsB, Bool.and_eq_true] at h
      obtain ⟨⟨⟨h1, h2⟩, h3⟩, h4⟩ := h
      simp only [List.map_cons]
      rw [ih h4, nbeq_of h3, nbeq_of h1, nbeq_of h2]

def tkB (P : Program) : TypeDesc → TK → Bool
  | .bool, .bool => true
  | .int k, .int k' => kEq k k'
  | .string, .str => true
  | .pointer e, .ptr e' => Nat.beq e e'
  | .slice e, .slice e' => Nat.beq e e'
  | .array n e, .arr n' e' => Nat.beq n n' && Nat.beq e e'
  | .struct fs, .struct gs => fldsB P fs.toList gs
  | .interface _, .iface => true
  | .func .., .func => true
  | .bool, .other | .int _, .other | .string, .other | .pointer _, .other | .slice _, .other | .func .., .other | .interface _, .other | .map .., .other | .chan .., .other | .tuple _, .other | .unsafePointer, .other | .float _, .other | .complex _, .other | .invalid, .other | .named .., .other => true
  | _, _ => false

theorem tkB_of {P : Program} {d : TypeDesc} {k : TK} (h : tkB P d k = true) : TKok P d k := by
  unfold tkB at h
  split at h <;> first
    | trivial
    | exact kEq_of h
    | exact nbeq_of h
    | (simp only [Bool.and_eq_true] at h; exact ⟨nbeq_of h.1, nbeq_of h.2⟩)
    | exact fldsB_of h
    | cases h

def haveB (P : Program) : TypeDesc → Bool
  | .struct fs => fs.toList.all fun f => (P.info? f.type).isSome
  | _ => true

def namesB : TypeDesc → Bool
  | .struct fs => fs.toList.all fun f => !(f.name == "_")
  | _ => true

def zeroB (l : List AV) : Option (List AV) → Bool
  | some m => AV.sames m l
  | none => false

def zeroB1 (l : List AV) : Option Value → Bool
  | some z => zeroB l (ofConsts z.cells.toList)
  | none => false

def tyB (P : Program) (t : TypeId) (ti : TyI) : Bool :=
  match P.info? t, P.underlying t with
  | some i, some d => Nat.beq i.size ti.size && Nat.beq i.bytes ti.bytes && zeroB1 ti.zero i.zero && Nat.beq ti.zero.length ti.size && tkB P d ti.k && haveB P d &&
      (!ti.cmp || (!(P.stoodInHeld t) && !(P.eqGuardType P.depth t) && namesB d))
  | _, _ => false

theorem tyB_of {P : Program} {t : TypeId} {ti : TyI} (h : tyB P t ti = true) : TyOk P t ti := by
  unfold tyB at h
  split at h
  · rename_i i d hi hd
    simp only [Bool.and_eq_true] at h
    obtain ⟨⟨⟨⟨⟨⟨h1, h2⟩, h3⟩, h4⟩, h5⟩, h6⟩, h7⟩ := h
    refine ⟨⟨i, hi, nbeq_of h1, nbeq_of h2, ?_⟩, nbeq_of h4, ⟨d, hd, tkB_of h5⟩, ?_, ?_⟩
    · unfold zeroB1 at h3
      split at h3
      · rename_i z hz
        unfold zeroB at h3
        split at h3
        · rename_i m hm
          exact ⟨z, hz, by rw [hm, AV.sames_of _ _ h3]⟩
        · cases h3
      · cases h3
    · intro fs hfs f hf
      rw [hd] at hfs; cases hfs
      simp only [haveB, List.all_eq_true] at h6
      exact Option.isSome_iff_exists.1 (h6 f (by simpa using hf))
    · intro hc
      rw [hc] at h7
      simp only [Bool.not_true, Bool.false_or, Bool.and_eq_true, Bool.not_eq_true'] at h7
      refine ⟨h7.1.1, h7.1.2, fun fs hfs f hf => ?_⟩
      rw [hd] at hfs; cases hfs
      simp only [namesB, List.all_eq_true] at h7
      have := h7.2 f (by simpa using hf)
      simpa using this
  · cases h

theorem xpok_of {P : Program} {X : XP} (h1 : X.tys.allB (tyB P) 1 0 = true) (h2 : X.glob = P.globals.size) : XPok P X := by
  refine ⟨fun t ti ht => ?_, h2⟩
  have := Tr.allB_get h1 t ti ht
  rw [Nat.one_mul, Nat.add_zero] at this
  exact tyB_of this

def nameB (fn : Func) : Bool := !(fn.name == "runtime.NumGoroutine")

theorem fnok_of {P : Program} {X : XP} (h1 : TrAll (fun f fn => P.funcs[f]? = some fn) (fun n => n) X.fns) (h2 : X.fns.allB (fun _ fn => nameB fn) 1 0 = true)
    (h3 : TrAll (fun f x => ∀ fn, X.fns.get f = some fn → ExtOk P fn x) (fun n => n) X.ext) : FnOk P X := by
  refine ⟨fun f fn hf => ⟨h1.get f fn hf, ?_⟩, fun f fn x hf _ hx => h3.get f x hx fn hf⟩
  have := Tr.allB_get h2 f fn hf
  simp only [nameB, Bool.not_eq_true'] at this
  exact this

theorem memo_of {P : Program} {O : List OraE} {M : Tr (List Ent)} (h : TrAll (fun f es => ∀ en ∈ es, EntOk P O f en) (fun n => n) M) : MemoOk P O M := fun f es hf => h.get f es hf

theorem entNil {P : Program} {O : List OraE} {f : FuncId} : ∀ en ∈ ([] : List Ent), EntOk P O f en := fun _ h => by cases h

theorem entAll {P : Program} {O : List OraE} {f : FuncId} {e : Ent} {l : List Ent} (h : EntOk P O f e) (k : ∀ en ∈ l, EntOk P O f en) : ∀ en ∈ e :: l, EntOk P O f en := by
  intro en hen
  rcases List.mem_cons.1 hen with rfl | hen
  · exact h
  · exact k en hen

end
end Go.X
