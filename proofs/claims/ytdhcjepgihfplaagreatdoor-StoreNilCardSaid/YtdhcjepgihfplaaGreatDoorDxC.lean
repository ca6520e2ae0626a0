/- What an abstract heap says of a world; what a step may change. -/
import Derived.Test.YtdhcjepgihfplaaGreatDoorDxB
namespace Go.X
noncomputable section

abbrev Loops := List (Nat × Code × Code)

def Tr.getU (t : Tr AV) (i : Nat) : AV := match t.get i with | some v => v | none => .undef

def TmOk (e : Env) (tm : Tr AV) (n : Nat) (tmps : Array Value) : Prop :=
  tmps.size = n ∧ ∀ i, cv e (tm.getU i) = some (tmps.getD i Go.undef)

def SzOk (κ n : Nat) : Sz → Prop
  | .fix m => n = m
  | .opn lo hi es => n = es * κ ∧ lo ≤ κ ∧ ∀ h, hi = some h → κ < h

def XE.toCode : XE → Code
  | .normal => .skip
  | .exit id => .exit id
  | .ret => .ret
  | .pan _ => .skip

def ObjR (e : Env) (L : Loops) (b : Nat) (x : Nat × Nat) (w : World) : AObj → Prop
  | .blk el ro sz cells => ∃ (c : Array Value) (fz : Nat × Nat), w.heap[x.1]? = some (.cells c (e.elR x.1 ro el) fz) ∧ (ro = false → fz = (0, 0)) ∧
      SzOk x.2 c.size sz ∧ ∀ i v, cells.get i = some v → ∃ y, cv e v = some y ∧ c[i]? = some y
  | .loop st pend fn fr ps dfr => ∃ (asg body : Code) (xd : Nat × Nat) (tmps : Array Value), lookL L b = some (asg, body) ∧ e.f dfr = some xd ∧
      w.heap[x.1]? = some (.loop { state := st, pending := pend.map XE.toCode, fn := fn, tmps := tmps, params := ps.toArray, assign := asg, body := body, defers := xd.1 }) ∧
      TmOk e fr.tm fr.n tmps
  | .defr full => w.heap[x.1]? = some (.deferred (if full then some [] else none))
  | .siter s pos => w.heap[x.1]? = some (.stringIter (bytesOf s) pos)

def AObj.wr : AObj → Bool
  | .blk _ ro _ _ => !ro
  | _ => true

/-- what is said of numbers of which little is known is so -/
def OraOk (l : List OraE) (sy : Nat → Value) : Prop := ∀ o ∈ l, ∀ e : Env, e.sy = sy → ∀ x y : AV, numSame o.x x = true → numSame o.y y = true → ∀ vx vy, cv e x = some vx → cv e y = some vy →
  ∃ k a k' b u, vx = .int k a ∧ vy = .int k' b ∧ binInt o.op k k' a b = some u ∧ cv e o.r = cv e u

structure GP where
  n : Nat
  ora : List OraE

def gpO (P : Program) (O : List OraE) : GP := ⟨P.globals.size, O⟩

abbrev gp (P : Program) (X : XP) : GP := gpO P X.ora

structure HR (NG : GP) (e : Env) (L : Loops) (G : Nat → Option AObj) (nx : Nat) (w : World) : Prop where
  dom : ∀ b x, e.f b = some x → b < nx
  live : ∀ b o, G b = some o → ∃ x, e.f b = some x ∧ ObjR e L b x w o
  inj : ∀ b c o p x y, G b = some o → G c = some p → e.f b = some x → e.f c = some y → x.1 = y.1 → b = c
  glob : ∀ g, g < NG.n → e.f g = some (g, 0)
  ora : OraOk NG.ora e.sy

def Foot (e : Env) (G : Nat → Option AObj) (B : Nat) : Prop := ∃ b o x, G b = some o ∧ o.wr = true ∧ e.f b = some x ∧ x.1 = B

structure Tran (e : Env) (G : Nat → Option AObj) (nx : Nat) (w : World) (e' : Env) (G' : Nat → Option AObj) (nx' : Nat) (w' : World) : Prop where
  le : e.le e'
  old : ∀ b, b < nx → e'.f b = e.f b
  nx : nx ≤ nx'
  size : w.heap.size ≤ w'.heap.size
  keep : ∀ B, B < w.heap.size → ¬ Foot e G B → w'.heap[B]? = w.heap[B]?
  foot : ∀ B, Foot e' G' B → B < w.heap.size → Foot e G B
  ro : ∀ b o, G' b = some o → o.wr = false → ∃ o0, G b = some o0 ∧ o0.wr = false
  os : w'.os = w.os
  tape : w'.tape = w.tape
  output : w'.output = w.output

theorem Tran.refl (e : Env) (G : Nat → Option AObj) (nx : Nat) (w : World) : Tran e G nx w e G nx w :=
  ⟨Env.le_refl e, fun _ _ => rfl, Nat.le_refl _, Nat.le_refl _, fun _ _ _ => rfl, fun _ h _ => h, fun _ o h hr => ⟨o, h, hr⟩, rfl, rfl, rfl⟩

theorem Tran.trans {e e1 e2 : Env} {G G1 G2 : Nat → Option AObj} {n n1 n2 : Nat} {w w1 w2 : World} (h : Tran e G n w e1 G1 n1 w1) (k : Tran e1 G1 n1 w1 e2 G2 n2 w2) :
    Tran e G n w e2 G2 n2 w2 where
  le := Env.le_trans h.le k.le
  old b hb := (k.old b (Nat.lt_of_lt_of_le hb h.nx)).trans (h.old b hb)
  nx := Nat.le_trans h.nx k.nx
  size := Nat.le_trans h.size k.size
  keep B hB hf := by
    rw [k.keep B (Nat.lt_of_lt_of_le hB h.size) (fun hf1 => hf (h.foot B hf1 hB)), h.keep B hB hf]
  foot B hB hs := h.foot B (k.foot B hB (Nat.lt_of_lt_of_le hs h.size)) hs
  ro b o hb hr := let ⟨o1, h1, h2⟩ := k.ro b o hb hr; h.ro b o1 h1 h2
  os := k.os.trans h.os
  tape := k.tape.trans h.tape
  output := k.output.trans h.output

/-- G' has no more than G -/
def Sub (G' G : Nat → Option AObj) : Prop := ∀ b o, G' b = some o → G b = some o

theorem Sub.refl (G : Nat → Option AObj) : Sub G G := fun _ _ h => h
theorem Sub.trans {A B C : Nat → Option AObj} (h : Sub A B) (k : Sub B C) : Sub A C := fun _ _ x => k _ _ (h _ _ x)

theorem Foot.mono {e : Env} {G G' : Nat → Option AObj} (h : Sub G' G) {B : Nat} (hf : Foot e G' B) : Foot e G B := by
  obtain ⟨b, o, x, h1, h2, h3, h4⟩ := hf
  exact ⟨b, o, x, h _ _ h1, h2, h3, h4⟩

theorem HR.weaken {NG : GP} {e : Env} {L : Loops} {G G' : Nat → Option AObj} {nx : Nat} {w : World} (h : HR NG e L G nx w) (hs : Sub G' G) : HR NG e L G' nx w where
  dom := h.dom
  live b o hb := h.live b o (hs _ _ hb)
  inj b c o p x y hb hc := h.inj b c o p x y (hs _ _ hb) (hs _ _ hc)
  glob := h.glob
  ora := h.ora

theorem Tran.weaken {e e' : Env} {G G1 G' : Nat → Option AObj} {n n' : Nat} {w w' : World} (h : Tran e G n w e' G1 n' w') (hs : Sub G' G1) : Tran e G n w e' G' n' w' :=
  { h with foot := fun B hB => h.foot B (hB.mono hs), ro := fun b o hb hr => h.ro b o (hs _ _ hb) hr }

/-- a step from less than is known is a step from what is known -/
theorem Tran.from_sub {e e' : Env} {G G0 G' : Nat → Option AObj} {n n' : Nat} {w w' : World} (h : Tran e G0 n w e' G' n' w') (hs : Sub G0 G) : Tran e G n w e' G' n' w' :=
  { h with keep := fun B hB hf => h.keep B hB (fun hf' => hf (hf'.mono hs)), foot := fun B hB hl => (h.foot B hB hl).mono hs, ro := fun b o hb hr => let ⟨o1, h1, h2⟩ := h.ro b o hb hr; ⟨o1, hs _ _ h1, h2⟩ }

theorem HR.bump {NG : GP} {e : Env} {L : Loops} {G : Nat → Option AObj} {nx nx' : Nat} {w : World} (h : HR NG e L G nx w) (hn : nx ≤ nx') : HR NG e L G nx' w :=
  { h with dom := fun b x hb => Nat.lt_of_lt_of_le (h.dom b x hb) hn }

theorem Tran.bump {e e' : Env} {G G' : Nat → Option AObj} {n n' n2 : Nat} {w w' : World} (h : Tran e G n w e' G' n' w') (hn : n' ≤ n2) : Tran e G n w e' G' n2 w' :=
  { h with nx := Nat.le_trans h.nx hn }

theorem ObjR.lt {e : Env} {L : Loops} {b : Nat} {x : Nat × Nat} {w : World} {o : AObj} (h : ObjR e L b x w o) : x.1 < w.heap.size := by
  have key : ∀ {ob : Obj}, w.heap[x.1]? = some ob → x.1 < w.heap.size := fun {ob} hh => by
    rcases Nat.lt_or_ge x.1 w.heap.size with h1 | h1
    · exact h1
    · rw [Array.getElem?_eq_none h1] at hh; cases hh
  cases o with
  | blk el ro sz cells => obtain ⟨c, fz, h1, _⟩ := h; exact key h1
  | loop st pend fn fr ps dfr => obtain ⟨_, _, _, _, _, _, h1, _⟩ := h; exact key h1
  | defr f => exact key h
  | siter s p => exact key h

theorem TmOk.le {e e' : Env} (hle : e.le e') {tm : Tr AV} {n : Nat} {t : Array Value} (h : TmOk e tm n t) : TmOk e' tm n t :=
  ⟨h.1, fun i => cv_le hle _ _ (h.2 i)⟩

/-- an object stands as it did: its block is as it was; the environment has grown -/
theorem ObjR.keep {e e' : Env} {L L' : Loops} {b : Nat} {x : Nat × Nat} {w w' : World} {o : AObj} (h : ObjR e L b x w o) (hle : e.le e')
    (hw : w'.heap[x.1]? = w.heap[x.1]?) (hL : lookL L' b = lookL L b) : ObjR e' L' b x w' o := by
  cases o with
  | blk el ro sz cells =>
    obtain ⟨c, fz, h1, h2, h3, h4⟩ := h
    have hel : e'.elR x.1 ro el = e.elR x.1 ro el := by cases ro <;> simp only [Env.elR, Env.ty, hle.2]
    exact ⟨c, fz, hw.trans (hel ▸ h1), h2, h3, fun i v hv => let ⟨y, hy, hc⟩ := h4 i v hv; ⟨y, cv_le hle _ _ hy, hc⟩⟩
  | loop st pend fn fr ps dfr =>
    obtain ⟨asg, body, xd, t, h1, h2, h3, h4⟩ := h
    exact ⟨asg, body, xd, t, hL.trans h1, hle.1 _ _ h2, hw.trans h3, h4.le hle⟩
  | defr f => exact hw.trans h
  | siter s p => exact hw.trans h

/-- what is known but was not used by a step stays known -/
theorem HR.frame {NG : GP} {e e' : Env} {L : Loops} {G G0 G' : Nat → Option AObj} {n n' : Nat} {w w' : World} (h : HR NG e L G n w) (hs : Sub G0 G)
    (ht : Tran e G0 n w e' G' n' w') (h' : HR NG e' L G' n' w') :
    HR NG e' L (fun b => match G' b with | some o => some o | none => (match G0 b with | some _ => none | none => G b)) n' w' := by
  have hcase : ∀ b o, (match G' b with | some o => some o | none => (match G0 b with | some _ => none | none => G b)) = some o → G' b = some o ∨ (G' b = none ∧ G0 b = none ∧ G b = some o) := by
    intro b o hb
    cases h1 : G' b with
    | some p => rw [h1] at hb; left; exact hb
    | none =>
      rw [h1] at hb
      cases h2 : G0 b with
      | some p => rw [h2] at hb; cases hb
      | none => rw [h2] at hb; right; exact ⟨rfl, rfl, hb⟩
  have hout : ∀ b o x, G0 b = none → G b = some o → e.f b = some x → x.1 < w.heap.size ∧ ¬ Foot e G0 x.1 := by
    intro b o x h0 hb hx
    obtain ⟨y, hy, hO⟩ := h.live b o hb
    rw [hx] at hy; cases hy
    refine ⟨hO.lt, ?_⟩
    rintro ⟨c, p, y, hc, _, hy, he⟩
    have := h.inj c b p o y x (hs _ _ hc) hb hy hx he
    subst this
    rw [h0] at hc; cases hc
  refine ⟨h'.dom, ?_, ?_, h'.glob, h'.ora⟩
  · intro b o hb
    rcases hcase b o hb with h1 | ⟨h1, h2, h3⟩
    · exact h'.live b o h1
    · obtain ⟨x, hx, hO⟩ := h.live b o h3
      obtain ⟨hlt, hnf⟩ := hout b o x h2 h3 hx
      exact ⟨x, ht.le.1 _ _ hx, hO.keep ht.le (ht.keep _ hlt hnf) rfl⟩
  · intro b c o p x y hb hc hx hy hxy
    have back : ∀ c p y, G c = some p → e'.f c = some y → e.f c = some y := by
      intro c p y hc hy
      obtain ⟨y', hy', _⟩ := h.live c p hc
      have := ht.le.1 _ _ hy'
      rw [hy] at this
      rw [hy', this]
    have cross : ∀ b c o p x y, G' b = some o → G0 c = none → G c = some p → e'.f b = some x → e'.f c = some y → x.1 = y.1 → False := by
      intro b c o p x y hb h0 hc hx hy hxy
      have hy' := back c p y hc hy
      cases hw : o.wr with
      | true =>
        obtain ⟨hlt, hnf⟩ := hout c p y h0 hc hy'
        exact hnf (ht.foot _ ⟨b, o, x, hb, hw, hx, hxy⟩ hlt)
      | false =>
        obtain ⟨o0, hb0, _⟩ := ht.ro b o hb hw
        have hx' := back b o0 x (hs _ _ hb0) hx
        have := h.inj b c o0 p x y (hs _ _ hb0) hc hx' hy' hxy
        subst this
        rw [h0] at hb0; cases hb0
    rcases hcase b o hb with h1 | ⟨_, h2, h3⟩
    · rcases hcase c p hc with k1 | ⟨_, k2, k3⟩
      · exact h'.inj b c o p x y h1 k1 hx hy hxy
      · exact (cross b c o p x y h1 k2 k3 hx hy hxy).elim
    · rcases hcase c p hc with k1 | ⟨_, k2, k3⟩
      · exact (cross c b p o y x k1 h2 h3 hy hx hxy.symm).elim
      · exact h.inj b c o p x y h3 k3 (back _ _ _ h3 hx) (back _ _ _ k3 hy) hxy

def upd (G : Nat → Option AObj) (b : Nat) (o : Option AObj) : Nat → Option AObj := fun c => if c = b then o else G c

theorem upd_same (G : Nat → Option AObj) (b : Nat) (o : Option AObj) : upd G b o b = o := by simp [upd]
theorem upd_ne (G : Nat → Option AObj) {b c : Nat} (o : Option AObj) (h : c ≠ b) : upd G b o c = G c := by simp [upd, h]

theorem get_set_upd (t : Tr AObj) (b : Nat) (o : Option AObj) : (t.set b o).get = upd t.get b o := by
  funext c; rw [Tr.get_set]; rfl

/-- a block's object is replaced; the block is the only one that changes -/
theorem HR.upd {NG : GP} {e : Env} {L : Loops} {G : Nat → Option AObj} {n : Nat} {w w' : World} {b : Nat} {o o' : AObj} {x : Nat × Nat} (h : HR NG e L G n w)
    (hb : G b = some o) (hx : e.f b = some x) (hsame : ∀ B, B ≠ x.1 → w'.heap[B]? = w.heap[B]?) (ho : ObjR e L b x w' o') : HR NG e L (upd G b (some o')) n w' := by
  refine ⟨h.dom, ?_, ?_, h.glob, h.ora⟩
  · intro c p hc
    by_cases e1 : c = b
    · subst e1; rw [upd_same] at hc; cases hc; exact ⟨x, hx, ho⟩
    · rw [upd_ne _ _ e1] at hc
      obtain ⟨y, hy, hO⟩ := h.live c p hc
      exact ⟨y, hy, hO.keep (Env.le_refl e) (hsame _ fun he => e1 (h.inj c b p o y x hc hb hy hx he)) rfl⟩
  · intro c d p q y z hc hd hy hz hyz
    have hh : ∀ c p, X.upd G b (some o') c = some p → ∃ p', G c = some p' := by
      intro c p hc
      by_cases e1 : c = b
      · subst e1; exact ⟨o, hb⟩
      · rw [upd_ne _ _ e1] at hc; exact ⟨p, hc⟩
    obtain ⟨p', hp'⟩ := hh c p hc
    obtain ⟨q', hq'⟩ := hh d q hd
    exact h.inj c d p' q' y z hp' hq' hy hz hyz

theorem Tran.upd {e : Env} {G : Nat → Option AObj} {n : Nat} {w w' : World} {b : Nat} {o o' : AObj} {x : Nat × Nat} 
    (hb : G b = some o) (hx : e.f b = some x) (hw : o.wr = true) (hw' : o'.wr = true) (hsame : ∀ B, B ≠ x.1 → w'.heap[B]? = w.heap[B]?) (hsz : w'.heap.size = w.heap.size)
    (hos : w'.os = w.os) (htp : w'.tape = w.tape) (hout : w'.output = w.output) : Tran e G n w e (X.upd G b (some o')) n w' where
  le := Env.le_refl e
  old _ _ := rfl
  nx := Nat.le_refl _
  size := by omega
  keep B _ hf := hsame B fun he => hf ⟨b, o, x, hb, hw, hx, he.symm⟩
  foot B hf _ := by
    obtain ⟨c, p, y, hc, hp, hy, he⟩ := hf
    by_cases e1 : c = b
    · subst e1; rw [hx] at hy; cases hy; exact ⟨c, o, x, hb, hw, hx, he⟩
    · rw [upd_ne _ _ e1] at hc; exact ⟨c, p, y, hc, hp, hy, he⟩
  ro c p hc hp := by
    by_cases e1 : c = b
    · subst e1; rw [upd_same] at hc; cases hc; rw [hw'] at hp; cases hp
    · rw [upd_ne _ _ e1] at hc; exact ⟨p, hc, hp⟩
  os := hos
  tape := htp
  output := hout

/-- an id is forgotten -/
theorem Sub.drop (G : Nat → Option AObj) (b : Nat) : Sub (upd G b none) G := fun c o hc => by
  by_cases e1 : c = b
  · subst e1; rw [upd_same] at hc; cases hc
  · rw [upd_ne _ _ e1] at hc; exact hc

/-- the environment with one id more -/
def Env.ext (e : Env) (b : Nat) (x : Nat × Nat) : Env := { e with f := fun c => if c = b then some x else e.f c }

theorem Env.ext_same (e : Env) (b : Nat) (x : Nat × Nat) : (e.ext b x).f b = some x := by simp [Env.ext]
theorem Env.ext_ne (e : Env) {b c : Nat} (x : Nat × Nat) (h : c ≠ b) : (e.ext b x).f c = e.f c := by simp [Env.ext, h]
theorem Env.le_ext {e : Env} {b : Nat} (h : e.f b = none) (x : Nat × Nat) : e.le (e.ext b x) :=
  ⟨fun c y hc => by rw [Env.ext_ne _ _ (fun he => by subst he; rw [h] at hc; cases hc)]; exact hc, rfl⟩

/-- a new block, under an id that was free -/
theorem HR.alloc {NG : GP} {e : Env} {L : Loops} {G : Nat → Option AObj} {n : Nat} {w w' : World} {b κ : Nat} {o : AObj} {ob : Obj} (h : HR NG e L G n w)
    (hb : e.f b = none) (hn : b < n) (hheap : w'.heap = w.heap.push ob) (ho : ObjR (e.ext b (w.heap.size, κ)) L b (w.heap.size, κ) w' o) :
    HR NG (e.ext b (w.heap.size, κ)) L (X.upd G b (some o)) n w' := by
  have hle := Env.le_ext hb (w.heap.size, κ)
  have hold : ∀ B, B < w.heap.size → w'.heap[B]? = w.heap[B]? := fun B hB => by rw [hheap, Array.getElem?_push, if_neg (by omega)]
  have hG : G b = none := by
    cases hg : G b with
    | none => rfl
    | some p => obtain ⟨y, hy, _⟩ := h.live b p hg; rw [hb] at hy; cases hy
  refine ⟨?_, ?_, ?_, fun g hg => hle.1 _ _ (h.glob g hg), by rw [hle.2]; exact h.ora⟩
  · intro c y hc
    by_cases e1 : c = b
    · subst e1; exact hn
    · rw [Env.ext_ne _ _ e1] at hc; exact h.dom c y hc
  · intro c p hc
    by_cases e1 : c = b
    · subst e1; rw [upd_same] at hc; cases hc; exact ⟨_, Env.ext_same _ _ _, ho⟩
    · rw [upd_ne _ _ e1] at hc
      obtain ⟨y, hy, hO⟩ := h.live c p hc
      exact ⟨y, hle.1 _ _ hy, hO.keep hle (hold _ hO.lt) rfl⟩
  · intro c d p q y z hc hd hy hz hyz
    have cross : ∀ c p y, c ≠ b → X.upd G b (some o) c = some p → (e.ext b (w.heap.size, κ)).f c = some y → y.1 < w.heap.size := by
      intro c p y e1 hc hy
      rw [upd_ne _ _ e1] at hc
      rw [Env.ext_ne _ _ e1] at hy
      obtain ⟨y', hy', hO⟩ := h.live c p hc
      rw [hy] at hy'; cases hy'; exact hO.lt
    by_cases e1 : c = b
    · by_cases e2 : d = b
      · rw [e1, e2]
      · have := cross d q z e2 hd hz
        subst e1; rw [Env.ext_same] at hy; cases hy; simp at hyz; omega
    · by_cases e2 : d = b
      · have := cross c p y e1 hc hy
        subst e2; rw [Env.ext_same] at hz; cases hz; simp at hyz; omega
      · rw [upd_ne _ _ e1] at hc; rw [upd_ne _ _ e2] at hd
        rw [Env.ext_ne _ _ e1] at hy; rw [Env.ext_ne _ _ e2] at hz
        exact h.inj c d p q y z hc hd hy hz hyz

theorem Tran.alloc {e : Env} {G : Nat → Option AObj} {n n' : Nat} {w w' : World} {b κ : Nat} {o : AObj} {ob : Obj}
    (hb : e.f b = none) (hnb : n ≤ b) (hn : n ≤ n') (hw : o.wr = true) (hheap : w'.heap = w.heap.push ob) (hos : w'.os = w.os) (htp : w'.tape = w.tape) (hout : w'.output = w.output) :
    Tran e G n w (e.ext b (w.heap.size, κ)) (X.upd G b (some o)) n' w' where
  le := Env.le_ext hb _
  old c hc := Env.ext_ne _ _ (by omega)
  nx := hn
  size := by rw [hheap]; simp
  keep B hB _ := by rw [hheap, Array.getElem?_push, if_neg (by omega)]
  foot B hf hB := by
    obtain ⟨c, p, y, hc, hp, hy, he⟩ := hf
    by_cases e1 : c = b
    · subst e1; rw [Env.ext_same] at hy; cases hy; simp at he; omega
    · rw [upd_ne _ _ e1] at hc; rw [Env.ext_ne _ _ e1] at hy; exact ⟨c, p, y, hc, hp, hy, he⟩
  ro c p hc hp := by
    by_cases e1 : c = b
    · subst e1; rw [upd_same] at hc; cases hc; rw [hw] at hp; cases hp
    · rw [upd_ne _ _ e1] at hc; exact ⟨p, hc, hp⟩
  os := hos
  tape := htp
  output := hout

/-- a world that differs in nothing that is looked at -/
theorem HR.same {NG : GP} {e : Env} {L : Loops} {G : Nat → Option AObj} {n : Nat} {w w' : World} (h : HR NG e L G n w) (hh : w'.heap = w.heap) : HR NG e L G n w' where
  dom := h.dom
  live b o hb := let ⟨x, hx, hO⟩ := h.live b o hb; ⟨x, hx, hO.keep (Env.le_refl e) (by rw [hh]) rfl⟩
  inj := h.inj
  glob := h.glob
  ora := h.ora

theorem Tran.same {e : Env} {G : Nat → Option AObj} {n : Nat} {w w' : World} (hh : w'.heap = w.heap) (hos : w'.os = w.os) (htp : w'.tape = w.tape) (hout : w'.output = w.output) : Tran e G n w e G n w' :=
  ⟨Env.le_refl e, fun _ _ => rfl, Nat.le_refl _, by rw [hh]; exact Nat.le_refl _, fun _ _ _ => by rw [hh], fun _ h _ => h, fun _ o h hr => ⟨o, h, hr⟩, hos, htp, hout⟩

end
end Go.X
