/- The tables are so, by looks that the kernel takes. -/
import Derived.Test.YtnmkiflnonafbaaGreatDoorE12
import Derived.ProofKit
import Derived.LaidMore
import Derived.OpenShut
import Derived.ChangeOld
import GoSem.ClaimJoined
set_option linter.unusedVariables false
set_option linter.unusedSimpArgs false
namespace Go.X
noncomputable section
def ZeB {α : Type} (p : Nat → α → Prop) : (Nat → Nat) → Tr α → Prop
 | _, .nil => True
 | g, .node v l r => (match v with | some x => p (g 0) x | none => True) ∧ ZeB p (fun n => g (2 * n + 1)) l ∧ ZeB p (fun n => g (2 * n + 2)) r
theorem ZeB.get {α : Type} {p : Nat → α → Prop} : ∀ {t : Tr α} {g : Nat → Nat}, ZeB p g t → ∀ n x, t.get n = some x → p (g n) x := by
 intro t
 induction t with
 | nil => intro g _ n x h; cases h
 | node v l r ihl ihr =>
  intro g h n x hx;obtain ⟨h1, h2, h3⟩ := h;rw [Tr.get_node] at hx
  by_cases h0 : n = 0
  ·rw [if_pos h0] at hx; subst hx h0; exact h1
  ·rw [if_neg h0] at hx
   by_cases ho : n % 2 = 1
   ·rw [if_pos ho] at hx;have := ihl h2 _ x hx;have e1 : 2 * (n / 2) + 1 = n := by omega
    rw [e1] at this; exact this
   ·rw [if_neg ho] at hx;have := ihr h3 _ x hx;have e1 : 2 * (n / 2 - 1) + 2 = n := by omega
    rw [e1] at this; exact this
def Tr.allB {α : Type} (p : Nat → α → Bool) : Nat → Nat → Tr α → Bool
 | _, _, .nil => true
 | a, b, .node v l r => (match v with | some x => p b x | none => true) && l.allB p (2 * a) (a + b) && r.allB p (2 * a) (2 * a + b)
theorem Tr.allB_get {α : Type} {p : Nat → α → Bool} : ∀ {t : Tr α} {a b : Nat}, t.allB p a b = true → ∀ n x, t.get n = some x → p (a * n + b) x = true := by
 intro t
 induction t with
 | nil => intro a b _ n x h; cases h
 | node v l r ihl ihr =>
  intro a b h n x hx;simp only [Tr.allB, Bool.and_eq_true] at h;obtain ⟨⟨h1, h2⟩, h3⟩ := h;rw [Tr.get_node] at hx
  by_cases h0 : n = 0
  ·rw [if_pos h0] at hx; subst hx h0; rw [Nat.mul_zero, Nat.zero_add]; exact h1
  ·rw [if_neg h0] at hx
   by_cases ho : n % 2 = 1
   ·rw [if_pos ho] at hx;have := ihl h2 _ x hx;have e1 : 2 * a * (n / 2) + (a + b) = a * n + b := by
     have : n = 2 * (n / 2) + 1 := by omega
     conv => rhs; rw [this]
     rw [Nat.mul_add, Nat.mul_one, ← Nat.mul_assoc, Nat.mul_comm a 2]; omega
    rw [e1] at this; exact this
   ·rw [if_neg ho] at hx;have := ihr h3 _ x hx;have e1 : 2 * a * (n / 2 - 1) + (2 * a + b) = a * n + b := by
     have : n = 2 * (n / 2 - 1) + 2 := by omega
     conv => rhs; rw [this]
     rw [Nat.mul_add, ← Nat.mul_assoc, Nat.mul_comm a 2]; omega
    rw [e1] at this; exact this
def ZmY (P : Program) : List Field → List FldI → Bool
 | [], [] => true
 | f :: fs, g :: gs => Nat.beq f.offset g.off && Nat.beq f.type g.ty && Nat.beq (P.cellsOf f.type) g.size && ZmY P fs gs
 | _, _ => false
theorem ZmZ {P : Program} : ∀ {fs : List Field} {gs : List FldI}, ZmY P fs gs = true → (fs.map fun f => (f.offset, f.type, P.cellsOf f.type)) = gs.map (fun g => (g.off, g.ty, g.size)) := by
 intro fs
 induction fs with
 | nil => intro gs h; cases gs with
  | nil => rfl
  | cons g gs => cases h
 | cons f fs ih =>
  intro gs h;cases gs with
  | nil => cases h
  | cons g gs =>
   simp only [ZmY, Bool.and_eq_true] at h;obtain ⟨⟨⟨h1, h2⟩, h3⟩, h4⟩ := h;simp only [List.map_cons];rw [ih h4, Zab h3, Zab h1, Zab h2]
def tkB (P : Program) : TypeDesc → TK → Bool
 | .bool, .bool => true
 | .int k, .int k' => kEq k k'
 | .string, .str => true
 | .pointer e, .ptr e' => Nat.beq e e'
 | .slice e, .slice e' => Nat.beq e e'
 | .array n e, .arr n' e' => Nat.beq n n' && Nat.beq e e'
 | .struct fs, .struct gs => ZmY P fs.toList gs
 | .interface _, .iface => true
 | .func .., .func => true
 | .bool, .other | .int _, .other | .string, .other | .pointer _, .other | .slice _, .other | .func .., .other | .interface _, .other | .map .., .other | .chan .., .other | .tuple _, .other | .unsafePointer, .other | .float _, .other | .complex _, .other | .invalid, .other | .named .., .other => true
 | _, _ => false
theorem Zqk {P : Program} {d : TypeDesc} {k : TK} (h : tkB P d k = true) : Zd4 P d k := by
 unfold tkB at h
 split at h <;> first
  | trivial
  | exact Zje h
  | exact Zab h
  | (simp only [Bool.and_eq_true] at h; exact ⟨Zab h.1, Zab h.2⟩)
  | exact ZmZ h
  | cases h
def Zql (P : Program) : TypeDesc → Bool
 | .struct fs => fs.toList.all fun f => (P.info? f.type).isSome
 | _ => true
def Zon : TypeDesc → Bool
 | .struct fs => fs.toList.all fun f => !(f.name == "_")
 | _ => true
def Zqm (l : List AV) : Option (List AV) → Bool
 | some m => AV.sames m l
 | none => false
def Zoo (l : List AV) : Option Value → Bool
 | some z => Zqm l (Zbi z.cells.toList)
 | none => false
def tyB (P : Program) (t : TypeId) (ti : TyI) : Bool :=
 match P.info? t, P.underlying t with
 | some i, some d => Nat.beq i.size ti.size && Nat.beq i.bytes ti.bytes && Zoo ti.zero i.zero && Nat.beq ti.zero.length ti.size && tkB P d ti.k && Zql P d &&
  (!ti.cmp || (!(P.stoodInHeld t) && !(P.eqGuardType P.depth t) && Zon d))
 | _, _ => false
theorem Zqn {P : Program} {t : TypeId} {ti : TyI} (h : tyB P t ti = true) : TyOk P t ti := by
 unfold tyB at h
 split at h
 ·rename_i i d hi hd;simp only [Bool.and_eq_true] at h;obtain ⟨⟨⟨⟨⟨⟨h1, h2⟩, h3⟩, h4⟩, h5⟩, h6⟩, h7⟩ := h;refine ⟨⟨i, hi, Zab h1, Zab h2, ?_⟩, Zab h4, ⟨d, hd, Zqk h5⟩, ?_, ?_⟩
  ·unfold Zoo at h3
   split at h3
   ·rename_i z hz;unfold Zqm at h3
    split at h3
    ·rename_i m hm;exact ⟨z, hz, by rw [hm, AV.sames_of _ _ h3]⟩
    ·cases h3
   ·cases h3
  ·intro fs hfs f hf;rw [hd] at hfs; cases hfs;simp only [Zql, List.all_eq_true] at h6;exact Option.isSome_iff_exists.1 (h6 f (by simpa using hf))
  ·intro hc;rw [hc] at h7;simp only [Bool.not_true, Bool.false_or, Bool.and_eq_true, Bool.not_eq_true'] at h7;refine ⟨h7.1.1, h7.1.2, fun fs hfs f hf => ?_⟩
   rw [hd] at hfs; cases hfs;simp only [Zon, List.all_eq_true] at h7;have := h7.2 f (by simpa using hf)
   simpa using this
 ·cases h
theorem ZoT {P : Program} {X : XP} (h1 : X.tys.allB (tyB P) 1 0 = true) (h2 : X.glob = P.globals.size) : XPok P X := by
 refine ⟨fun t ti ht => ?_, h2⟩
 have := Tr.allB_get h1 t ti ht;rw [Nat.one_mul, Nat.add_zero] at this;exact Zqn this
def ZoU (fn : Func) : Bool := !(fn.name == "runtime.NumGoroutine")
theorem ZoV {P : Program} {X : XP} (h1 : ZeB (fun f fn => P.funcs[f]? = some fn) (fun n => n) X.fns) (h2 : X.fns.allB (fun _ fn => ZoU fn) 1 0 = true)
 (h3 : ZeB (fun f x => ∀ fn, X.fns.get f = some fn → Znc P fn x) (fun n => n) X.ext) : FnOk P X := by
 refine ⟨fun f fn hf => ⟨h1.get f fn hf, ?_⟩, fun f fn x hf _ hx => h3.get f x hx fn hf⟩
 have := Tr.allB_get h2 f fn hf;simp only [ZoU, Bool.not_eq_true'] at this;exact this
theorem Zly {P : Program} {M : Tr (List Ent)} (h : ZeB (fun f es => ∀ en ∈ es, ZdD P f en) (fun n => n) M) : Zd3 P M := fun f es hf => h.get f es hf
theorem Zqo {P : Program} {f : FuncId} : ∀ en ∈ ([] : List Ent), ZdD P f en := fun _ h => by cases h
theorem Zqp {P : Program} {f : FuncId} {e : Ent} {l : List Ent} (h : ZdD P f e) (k : ∀ en ∈ l, ZdD P f en) : ∀ en ∈ e :: l, ZdD P f en := by
 intro en hen;rcases List.mem_cons.1 hen with rfl | hen
 ·exact h
 ·exact k en hen
end
end Go.X

/- From what is known of a call to the call at a world whose package variables are laid. -/
namespace Go.X
noncomputable section
def ZrS (w : World) (B : Nat) : Value := match w.heap[B]? with | some (.cells _ t _) => .int .i64 (Int.ofNat t) | _ => .bool false
def Zlz (NG : Nat) (w : World) (sy : Nat → Value) : Env :=
 ⟨fun b => if b < NG then some (b, 0) else none, fun i => if i % 2 = 1 then ZrS w (i / 2) else sy (i / 2)⟩
theorem ZoW {NG : Nat} {w : World} {sy : Nat → Value} {b : Nat} {c : Array Value} {t : TypeId} {fz : Nat × Nat} (h : w.heap[b]? = some (.cells c t fz)) : (Zlz NG w sy).ty b = t := by
 have h1 : (2 * b + 1) % 2 = 1 := by omega
 have h2 : (2 * b + 1) / 2 = b := by omega
 simp only [Env.ty, Zlz, h1, if_true, h2, ZrS, h, Int.ofNat_eq_natCast, Int.toNat_natCast]
theorem ZlA {w w' : World} (h1 : w'.os = w.os) (h2 : w'.output = w.output) (h : ∀ B, B < w.heap.size → w'.heap[B]? = w.heap[B]?) (may : MemPlace → Prop) : w.keptBut w' may := by
 refine ⟨h1, h2, fun i hi => ?_⟩
 rw [h i hi];have hk := World.keptBut_refl w may;exact hk.2.2 i hi
section
variable {H : Type} {enc : TypeId × Value → H} {P : Program} {w : World} {base : Nat} {sp : Nat → Bool} {held : Bool} {fuel : Nat}
end
theorem ZcB {P : Program} {w : World} {n : String} {g : Nat} {cs : Array Value} (hg : P.globalNamed n = some g) (h : w.var? P n = some cs) : ∃ t fz, w.heap[g]? = some (.cells cs t fz) := by
 simp only [World.var?, hg, Option.bind_some] at h
 split at h
 ·rename_i c t fz hc;cases h;exact ⟨_, _, hc⟩
 ·cases h
end
end Go.X

/- The package variables that are laid, by lists; the call. -/
namespace Go.X
noncomputable section
def gOf : List (Nat × AObj) → Tr AObj
 | [] => .nil
 | p :: r => (gOf r).set p.1 (some p.2)
theorem ZoX : ∀ {l : List (Nat × AObj)} {b : Nat} {o : AObj}, (gOf l).get b = some o → (b, o) ∈ l := by
 intro l
 induction l with
 | nil => intro b o h; cases h
 | cons p r ih =>
  intro b o h;simp only [gOf] at h;rw [Tr.get_set] at h
  by_cases hb : b = p.1
  ·rw [if_pos hb] at h;cases h;subst hb;exact List.mem_cons_self ..
  ·rw [if_neg hb] at h;exact List.mem_cons_of_mem _ (ih h)
def Zqq : Env := ⟨fun _ => none, fun _ => .bool false⟩
def AV.closed1 : AV → Bool
 | .bool _ => true
 | .int _ _ => true
 | _ => false
def AV.closeds (l : List AV) : Bool := l.all AV.closed1
theorem Zft (e : Env) : ∀ l, AV.closeds l = true → cvs e l = cvs Zqq l
 | [], _ => rfl
 | v :: l, h => by
  simp only [AV.closeds, List.all_cons, Bool.and_eq_true] at h;have ih := Zft e l h.2;have h1 := h.1;cases v <;> simp only [AV.closed1, Bool.false_eq_true] at h1 <;> simp [cvs, cv, ih]
def ZdE (NG : Nat) (w : World) (G : Tr AObj) : Prop := ∀ b o, G.get b = some o → b < NG ∧ ∃ el avs c t fz, o = .blk el true (.fix (List.length avs)) (Tr.put .nil 0 avs) ∧ w.heap[b]? = some (.cells c t fz) ∧ AV.closeds avs = true ∧ cvs Zqq avs = some c.toList
theorem ZrY {P : Program} {G : Tr AObj} {w : World} (sy : Nat → Value) (hG : ZdE P.globals.size w G) :
 HR P.globals.size (Zlz P.globals.size w sy) [] G.get P.globals.size w where
 dom b x hb := by
  simp only [Zlz] at hb
  by_cases h : b < P.globals.size
  ·exact h
  ·rw [if_neg h] at hb; cases hb
 live b o hb := by
  obtain ⟨hlt, el, avs, c, t, fz, rfl, hw, hcl, hc⟩ := hG b o hb;have hlen := Zal hc;refine ⟨(b, 0), by simp only [Zlz]; rw [if_pos hlt], c, fz, ?_, (fun h => by cases h), (by show c.size = avs.length; rw [← hlen]; simp), fun i v hv => ?_⟩
  ·show w.heap[b]? = some (.cells c ((Zlz P.globals.size w sy).ty b) fz);rw [ZoW hw]; exact hw
  ·rw [Tr.get_put] at hv;simp only [Nat.zero_le, Nat.zero_add, true_and, Nat.sub_zero] at hv
   by_cases hi : i < avs.length
   ·rw [if_pos hi] at hv;rw [← Zft (Zlz P.globals.size w sy) avs hcl] at hc;obtain ⟨y, hy, hx⟩ := Zby hc i v hv;exact ⟨y, hy, by simpa using hx⟩
   ·rw [if_neg hi] at hv; cases hv
 inj b c o p x y hb hc hx hy hxy := by
  obtain ⟨h1, _⟩ := hG b o hb;obtain ⟨h2, _⟩ := hG c p hc;simp only [Zlz] at hx hy;rw [if_pos h1] at hx; rw [if_pos h2] at hy;cases hx; cases hy; exact hxy
 glob g hg := by simp only [Zlz]; rw [if_pos (show g < P.globals.size from hg)]
theorem Zfu {P : Program} {G : Tr AObj} {w w' : World} {sy : Nat → Value} {e' : Env} {G' : Nat → Option AObj} {n' : Nat} (hG : ZdE P.globals.size w G)
 (h : Tran (Zlz P.globals.size w sy) G.get P.globals.size w e' G' n' w') : ∀ B, B < w.heap.size → w'.heap[B]? = w.heap[B]? := by
 intro B hB;refine h.keep B hB ?_;rintro ⟨b, o, x, h1, h2, _⟩;obtain ⟨_, el, avs, c, t, fz, rfl, _⟩ := hG b o h1;cases h2
theorem Zrs {P : Program} {f : FuncId} {as : List AV} {G : Tr AObj} {outs : List (AV × AHeap)} {w : World} (h : ZdD P f (.loc as ⟨P.globals.size, G⟩ outs)) (hG : ZdE P.globals.size w G)
 {vs : List Value} (sy : Nat → Value) (hvs : cvs (Zlz P.globals.size w sy) as = some vs) (hout : ∀ p ∈ outs, p.1 = .bool true) :
 Calls P f vs.toArray w fun en w' => en = .returned (.bool true) ∧ (∀ B, B < w.heap.size → w'.heap[B]? = w.heap[B]?) ∧ ∀ may, w.keptBut w' may := by
 refine (h [] _ w vs hvs (ZrY sy hG)).mono fun en w' ⟨y, hy, v, H', hm, e', hv, _, hT⟩ => ?_
 have hv1 : v = .bool true := hout _ hm;subst hv1;simp only [cv, Option.some.injEq] at hv;subst hv;exact ⟨hy, Zfu hG hT, ZlA hT.os hT.output (Zfu hG hT)⟩
section
variable {H : Type} {enc : TypeId × Value → H} {P : Program} {w : World} {base : Nat} {sp : Nat → Bool} {held : Bool} {fuel : Nat}
end
end
end Go.X

/- Arguments: what they read as, opened; readings behind a call that leaves memory alone; numbers of which little is known. -/
namespace Go.X
noncomputable section
theorem ZoY {W W' : World} (h : ∀ B, B < W.heap.size → W'.heap[B]? = W.heap[B]?) (p : MemPlace) (hp : p.block < W.heap.size) : W.sameAt W' p := by
 cases p with
 | cell b off =>
  show W'.cell? ⟨b, off, none⟩ = W.cell? ⟨b, off, none⟩;have hb : W'.heap[b]? = W.heap[b]? := h b hp;simp only [World.cell?, hb]
 | map b => exact h b hp
theorem ZgX {H : Type} {enc : TypeId × Value → H} {P : Program} {W W' : World} {base : Nat} {sp : Nat → Bool} {held : Bool} (h : ∀ B, B < W.heap.size → W'.heap[B]? = W.heap[B]?) :
 ∀ {ts : List TypeId} {vs : List Value} {ds : List (DataW H)} {ps : List MemPlace}, DataW.TrodAll enc P W base sp held ts vs ds ps → DataW.TrodAll enc P W' base sp held ts vs ds ps := by
 intro ts
 induction ts with
 | nil =>
  intro vs ds ps ht;obtain ⟨rfl, rfl, rfl⟩ := ChangeShapes.trodAll_nil ht;exact ChangeShapes.trodAll_mk0
 | cons t ts ih =>
  intro vs ds ps ht;obtain ⟨v, vs', d, ds', p, q, rfl, rfl, rfl, ⟨fuel, h1⟩, h2⟩ := ChangeShapes.trodAll_cons ht;exact ⟨p, q, ⟨fuel, DataW.trod_carry _ _ _ _ h1 (fun pl hpl => ZoY h pl (DataW.trod_lt _ _ _ _ h1 pl hpl))⟩, ih h2, rfl⟩
section
variable {H : Type} {enc : TypeId × Value → H} {P : Program} {w : World} {base : Nat} {sp : Nat → Bool} {held : Bool} {fuel : Nat}
theorem Zjb {cs : List Value} {o : Nat} {v : Value} (h : (cs.drop o).take 1 = [v]) : cs[o]? = some v := by
 have h4 := congrArg (fun l => l[0]?) h
 simpa using h4
theorem Zh7 {t : TypeId} {fs : Array Field} {cs : List Value} {x : DataW H × List MemPlace} {k : IntKind} {i : Nat} {f : Field} {o u : Nat} (ht : P.underlying t = some (.struct fs)) (hf : fs[i]? = some f) (ho : f.offset = o) (hu : f.type = u)
 (hk : P.underlying u = some (.int k)) (hc : P.cellsOf u = 1) (h : DataW.trod enc P w base sp held fuel t cs = some x) : ∃ n, cs[o]? = some (.int k n) ∧ (Lit.int k n).wf = true := by
 obtain ⟨xs, n, _, _, _, hl, hall⟩ := DataW.trod_struct ht h;have h1 := hall i f hf;have hi : i < xs.length := by rw [hl]; exact (Array.getElem?_eq_some_iff.1 hf).1
 rw [List.getElem?_eq_getElem hi, hu, hc, ho] at h1;obtain ⟨m, hm, _, hw⟩ := DataW.trod_int hk h1;exact ⟨m, Zjb hm, hw⟩
theorem Zfv {t : TypeId} {fs : Array Field} {cs : List Value} {x : DataW H × List MemPlace} {i : Nat} {f : Field} {o u c : Nat} (ht : P.underlying t = some (.struct fs)) (hf : fs[i]? = some f) (ho : f.offset = o) (hu : f.type = u)
 (hc : P.cellsOf u = c) (h : DataW.trod enc P w base sp held fuel t cs = some x) : ∃ n y, DataW.trod enc P w base sp held n u ((cs.drop o).take c) = some y := by
 obtain ⟨xs, n, _, _, _, hl, hall⟩ := DataW.trod_struct ht h;have h1 := hall i f hf;have hi : i < xs.length := by rw [hl]; exact (Array.getElem?_eq_some_iff.1 hf).1
 rw [List.getElem?_eq_getElem hi, hu, hc, ho] at h1;exact ⟨n, _, h1⟩
end
theorem ZrZ {a b : Bool} (ha : a = true) (hb : b = true) : (a && b) = true := by rw [ha, hb]; rfl
end
end Go.X

/- What a function can come to, off a table of what each function leads to: for rows over large programs. -/
namespace Go.X
noncomputable section
def ZcI (T : Tr (List Nat)) (g : Nat) : List Nat := match T.get g with | some l => l | none => []
def ZjU (T : Tr (List Nat)) : Nat → List Nat → List Nat → List Nat
 | 0, _, seen => seen.reverse
 | _ + 1, [], seen => seen.reverse
 | n + 1, f :: todo, seen => @Bool.rec (fun _ => List Nat) (ZjU T n (ZcI T f ++ todo) (f :: seen)) (ZjU T n todo seen) (ZkO f seen)
def ZpX (T : Tr (List Nat)) : Nat → Nat
 | 0 => 0
 | n + 1 => ZpX T n + ((ZcI T n).length + 1)
def Zrt (P : Program) (T : Tr (List Nat)) (g : Nat) : Bool := ZfZ ((P.funcs[g]?).elim [] P.leadsTo) (ZcI T g)
def ZgY (P : Program) (T : Tr (List Nat)) : Nat → Nat → Bool
 | _, 0 => true
 | a, n + 1 => Zrt P T a && ZgY P T (a + 1) n
theorem Zbr {P : Program} {T : Tr (List Nat)} : ∀ {n a : Nat}, ZgY P T a n = true → ∀ g, a ≤ g → g < a + n → (P.funcs[g]?).elim [] P.leadsTo = ZcI T g
 | 0, a, _, g, h1, h2 => by omega
 | n + 1, a, h, g, h1, h2 => by
  simp only [ZgY, Bool.and_eq_true] at h;rcases Nat.lt_or_ge a g with h3 | h3
  ·exact Zbr h.2 g (by omega) (by omega)
  ·obtain rfl : g = a := by omega
   exact Zek h.1
theorem Zjc (t : Nat) : ∀ (l : List Nat), ZkO t l = l.contains t
 | [] => rfl
 | u :: l => by
  simp only [ZkO, Zaw, List.contains_cons, Zjc t l]
  by_cases h : t = u
  ·subst h; rw [ZbK rfl]; simp
  ·rw [Zbx h];have : (t == u) = false := beq_eq_false_iff_ne.2 h;simp [this]
theorem ZdF {P : Program} {T : Tr (List Nat)} (h : ∀ g : Nat, (P.funcs[g]?).elim [] P.leadsTo = ZcI T g) : ∀ (n : Nat) (todo seen : List Nat), P.closureVia n todo seen = ZjU T n todo seen
 | 0, _, _ => rfl
 | _ + 1, [], _ => rfl
 | n + 1, f :: todo, seen => by
  simp only [Program.closureVia, ZjU, Zaw, Zjc, h f];cases seen.contains f with
  | true => simp only [if_true, cond_true]; exact ZdF h n _ _
  | false => simp only [Bool.false_eq_true, if_false, cond_false]; exact ZdF h n _ _
theorem ZoZ {P : Program} {T : Tr (List Nat)} (h : ∀ g : Nat, (P.funcs[g]?).elim [] P.leadsTo = ZcI T g) : (P.funcs.toList.map fun g => (P.leadsTo g).length + 1).sum = ZpX T P.funcs.size := by
 have key : ∀ n, n ≤ P.funcs.size → ((P.funcs.toList.take n).map fun g => (P.leadsTo g).length + 1).sum = ZpX T n := by
  intro n
  induction n with
  | zero => intro _; rfl
  | succ n ih =>
   intro hn;have hlt : n < P.funcs.toList.length := by rw [Array.length_toList]; omega
   rw [List.take_succ_eq_append_getElem hlt, List.map_append, List.sum_append, ih (by omega)]
   simp only [List.map_cons, List.map_nil, List.sum_cons, List.sum_nil, Nat.add_zero, ZpX];have := h n;rw [Array.getElem?_eq_getElem (by omega)] at this
   simp only [Option.elim] at this;rw [← this]; simp
 have := key P.funcs.size (Nat.le_refl _);rw [← this, List.take_of_length_le (by simp)]
theorem ZjV {P : Program} {T : Tr (List Nat)} {n : Nat} (h1 : ∀ g : Nat, g < n → (P.funcs[g]?).elim [] P.leadsTo = ZcI T g) (h2 : T.allB (fun g _ => Nat.blt g n) 1 0 = true) (h3 : P.funcs.size = n) {f : FuncId} {l : List Nat}
 (h4 : ZjU T (1 + ZpX T n) [f] [] = l) : P.closure f = l := by
 have h : ∀ g : Nat, (P.funcs[g]?).elim [] P.leadsTo = ZcI T g := by
  intro g;rcases Nat.lt_or_ge g n with hg | hg
  ·exact h1 g hg
  ·rw [Array.getElem?_eq_none (by omega)]
   unfold ZcI;cases ht : T.get g with
   | none => rfl
   | some l =>
    have := Tr.allB_get h2 g l ht;rw [Nat.one_mul, Nat.add_zero] at this;exact absurd (ZaF this) (by omega)
 unfold Program.closure;rw [ZdF h, ZoZ h, h3, h4]
theorem ZjW {P : Program} {f : FuncId} {l : List Nat} (h : P.closure f = l) : P.inPlace f = l.filterMap fun g => (P.funcs[g]?).bind fun fn => if fn.ours || fn.body.isNone || fn.name == "runtime.NumGoroutine" then some fn.name else none := by
 unfold Program.inPlace; rw [h]
theorem Zdg {P : Program} {f : FuncId} {l : List Nat} (h : P.closure f = l) : P.unfollowed f = l.any fun g => (P.funcs[g]?).any fun fn => match fn.body with | some c => c.unfollowed | none => entryCalls fn := by
 unfold Program.unfollowed; rw [h]; rfl
theorem ZgZ {P : Program} {f : FuncId} {l : List Nat} (h : P.closure f = l) : P.varsNamed f = ((((l).flatMap fun g => ((P.funcs[g]?).bind (·.body)).elim [] Code.globalsNamed).eraseDups).filterMap (fun g => (P.globals[g]?).map (·.name)) ++
 l.filterMap fun g => (P.funcs[g]?).bind fun fn => if fn.body.isNone then entryReads.lookup fn.name else none).eraseDups := by
 unfold Program.varsNamed; rw [h]
theorem Zh8 {P : Program} {f : FuncId} (h : P.unfollowed f = true) : P.recurses f = true := by
 unfold Program.recurses; rw [h]; rfl
end
end Go.X

/- What is laid in a variable of numbers, truth values, strings, and arrays and structs of them, opened. -/
namespace Go.X
noncomputable section
mutual
def ZcV {H : Type} : DataW H → List Value
 | .lit (.bool b) => [.bool b]
 | .lit (.int k n) => [.int k n]
 | .lit (.string l) => [.string ⟨l.toArray⟩]
 | .agg ds => Zjd ds
 | _ => []
def Zjd {H : Type} : List (DataW H) → List Value
 | [] => []
 | d :: ds => ZcV d ++ Zjd ds
end
def consecB : Nat → List (Nat × Nat) → Nat → Bool
 | s, [], e => Nat.beq s e
 | s, p :: r, e => Nat.beq p.1 s && consecB (s + p.2) r e
def piece (cs : List Value) (p : Nat × Nat) : List Value := (cs.drop p.1).take p.2
theorem Zg0 : ∀ {l : List (Nat × Nat)} {s e : Nat}, consecB s l e = true → s ≤ e
 | [], s, e, h => by simp only [consecB] at h; rw [Zab h]; exact Nat.le_refl _
 | p :: l, s, e, h => by
  simp only [consecB, Bool.and_eq_true] at h;have := Zg0 h.2; omega
theorem ZdG {cs : List Value} : ∀ {l : List (Nat × Nat)} {s e : Nat}, consecB s l e = true → (cs.drop s).take (e - s) = (l.map (piece cs)).flatten
 | [], s, e, h => by simp only [consecB] at h; rw [Zab h]; simp
 | p :: l, s, e, h => by
  simp only [consecB, Bool.and_eq_true] at h;have h1 := Zab h.1;have h2 := Zg0 h.2;have ih := ZdG (cs := cs) h.2;simp only [List.map_cons, List.flatten_cons, ← ih, piece, h1];have he : e - s = p.2 + (e - (s + p.2)) := by omega
  rw [he, List.take_add, List.drop_drop]
def Zgc (n c : Nat) : List (Nat × Nat) := (List.range n).map fun i => (i * c, c)
def Zh9 (P : Program) : Nat → TypeId → Bool
 | 0, _ => false
 | d + 1, t => match P.underlying t with
  | some .bool => Nat.beq (P.cellsOf t) 1
  | some (.int _) => Nat.beq (P.cellsOf t) 1
  | some .string => Nat.beq (P.cellsOf t) 1
  | some (.array n e) => consecB 0 (Zgc n (P.cellsOf e)) (P.cellsOf t) && Zh9 P d e
  | some (.struct fs) => consecB 0 (fs.toList.map fun f => (f.offset, P.cellsOf f.type)) (P.cellsOf t) && fs.toList.all fun f => Zh9 P d f.type
  | _ => false
section
variable {H : Type} {enc : TypeId × Value → H} {P : Program} {w : World} {base : Nat} {sp : Nat → Bool} {held : Bool}
theorem Zfw {α : Type} {l : List α} {g : α → DataW H} {f : α → List Value} (h : ∀ a ∈ l, f a = ZcV (g a)) : (l.map f).flatten = Zjd (l.map g) := by
 induction l with
 | nil => rfl
 | cons a l ih =>
  simp only [List.map_cons, List.flatten_cons, Zjd];rw [h a (by simp), ih (fun b hb => h b (by simp [hb]))]
theorem Zbs : ∀ (d : Nat) (t : TypeId), Zh9 P d t = true → ∀ (fuel : Nat) (cs : List Value) (x : DataW H × List MemPlace), DataW.trod enc P w base sp held fuel t cs = some x → cs = ZcV x.1 := by
 intro d
 induction d with
 | zero => intro t h; cases h
 | succ d ih =>
  intro t h fuel cs x hx;simp only [Zh9] at h
  split at h
  ·rename_i hu;cases fuel with
   | zero => simp [DataW.trod] at hx
   | succ fuel =>
    unfold DataW.trod at hx; rw [hu] at hx
    split at hx <;> simp_all
    subst hx; rfl
  ·rename_i k hu;cases fuel with
   | zero => simp [DataW.trod] at hx
   | succ fuel =>
    unfold DataW.trod at hx; rw [hu] at hx
    split at hx <;> simp_all
    obtain ⟨h1, h2⟩ := hx;subst h2; simp [ZcV]
  ·rename_i hu;cases fuel with
   | zero => simp [DataW.trod] at hx
   | succ fuel =>
    unfold DataW.trod at hx; rw [hu] at hx
    split at hx <;> simp_all
    obtain ⟨h1, h2⟩ := hx;subst h2; simp [ZcV]
  ·rename_i n e hu;simp only [Bool.and_eq_true] at h;obtain ⟨xs, m, _, rfl, hl, hn, hf⟩ := DataW.trod_array hu hx;have hc := ZdG (cs := cs) h.1;rw [List.drop_zero, Nat.sub_zero, ← hl, List.take_length] at hc;simp only [ZcV];rw [hc];have : (Zgc n (P.cellsOf e)).map (piece cs) = xs.map (fun x => ZcV x.1) := by
    apply List.ext_getElem?;intro i;simp only [Zgc, List.map_map, List.getElem?_map]
    by_cases hi : i < n
    ·have hxi : i < xs.length := by omega
     have h2 := hf i hi;rw [List.getElem?_eq_getElem hxi] at h2 ⊢;have h3 := ih e h.2 _ _ _ h2;simp [hi, piece, h3]
    ·rw [List.getElem?_eq_none (by simp; omega), List.getElem?_eq_none (by omega)]; rfl
   rw [this];exact Zfw (fun a _ => rfl)
  ·rename_i fs hu;simp only [Bool.and_eq_true, List.all_eq_true] at h;obtain ⟨xs, m, _, rfl, hl, hn, hf⟩ := DataW.trod_struct hu hx;have hc := ZdG (cs := cs) h.1;rw [List.drop_zero, Nat.sub_zero, ← hl, List.take_length] at hc;simp only [ZcV];rw [hc];have : (fs.toList.map fun f => (f.offset, P.cellsOf f.type)).map (piece cs) = xs.map (fun x => ZcV x.1) := by
    apply List.ext_getElem?;intro i;simp only [List.map_map, List.getElem?_map];cases hfi : fs.toList[i]? with
    | none =>
     have : xs[i]? = none := List.getElem?_eq_none (by have := List.getElem?_eq_none_iff.1 hfi; rw [Array.length_toList] at this; omega)
     rw [this]; rfl
    | some f =>
     have hlt := (List.getElem?_eq_some_iff.1 hfi).1;have h2 := hf i f (by simpa using hfi)
     have hxi : i < xs.length := by rw [Array.length_toList] at hlt; omega
     rw [List.getElem?_eq_getElem hxi] at h2 ⊢;have h3 := ih f.type (h.2 f (List.mem_of_getElem? hfi)) _ _ _ h2;simp [piece, h3]
   rw [this];exact Zfw (fun a _ => rfl)
  ·cases h
end
end
end Go.X
