/- Merging outcomes. -/
import Derived.Test.YtdhcjepgihfplaaGreatDoorDxU
namespace Go.X
noncomputable section
set_option linter.unusedSectionVars false

theorem strEq_of : ∀ {a b : List Nat}, strEq a b = true → a = b := by
  intro a
  induction a with
  | nil => intro b h; cases b with
    | nil => rfl
    | cons => simp [strEq] at h
  | cons x a ih =>
    intro b h
    cases b with
    | nil => simp [strEq] at h
    | cons y b =>
      simp only [strEq, Bool.and_eq_true] at h
      rw [nbeq_of h.1, ih h.2]

theorem Cap.same_of {a b : Cap} (h : a.same b = true) : a = b := by
  cases a <;> cases b <;> simp only [Cap.same, Bool.false_eq_true] at h <;> rw [nbeq_of h]

theorem RC.same_of {a b : RC} (h : a.same b = true) : a = b := by
  cases a <;> cases b <;> simp only [RC.same, Bool.false_eq_true, Bool.and_eq_true, iEq_eq] at h
  · rw [kEq_of h.1.1, nbeq_of h.1.2, nbeq_of h.2]
  · rw [kEq_of h.1.1, eq_of_beq h.1.2, eq_of_beq h.2]
  · rw [nbeq_of h.1, nbeq_of h.2]
  · rw [nbeq_of h.1, nbeq_of h.2]
  · rw [nbeq_of h.1, nbeq_of h.2]

mutual
theorem AV.same_of : ∀ (a b : AV), a.same b = true → a = b
  | .undef, b, h => by cases b <;> simp [AV.same] at h; rfl
  | .bool x, b, h => by cases b <;> simp [AV.same] at h; rw [h]
  | .int k n, b, h => by
    cases b <;> simp only [AV.same, Bool.false_eq_true, Bool.and_eq_true, iEq_eq] at h
    rw [kEq_of h.1, eq_of_beq h.2]
  | .str s, b, h => by cases b <;> simp only [AV.same, Bool.false_eq_true] at h; rw [strEq_of h]
  | .nilp, b, h => by cases b <;> simp [AV.same] at h; rfl
  | .nils, b, h => by cases b <;> simp [AV.same] at h; rfl
  | .nilm, b, h => by cases b <;> simp [AV.same] at h; rfl
  | .nilf, b, h => by cases b <;> simp [AV.same] at h; rfl
  | .nili, b, h => by cases b <;> simp [AV.same] at h; rfl
  | .ptr x y, b, h => by
    cases b <;> simp only [AV.same, Bool.false_eq_true, Bool.and_eq_true] at h
    rw [nbeq_of h.1, nbeq_of h.2]
  | .sl x y z c, b, h => by
    cases b <;> simp only [AV.same, Bool.false_eq_true, Bool.and_eq_true] at h
    rw [nbeq_of h.1.1.1, nbeq_of h.1.1.2, nbeq_of h.1.2, Cap.same_of h.2]
  | .fn f x y, b, h => by
    cases b <;> simp only [AV.same, Bool.false_eq_true, Bool.and_eq_true] at h
    rw [nbeq_of h.1.1, AV.sames_of _ _ h.1.2, AV.sames_of _ _ h.2]
  | .yld x, b, h => by cases b <;> simp only [AV.same, Bool.false_eq_true] at h; rw [nbeq_of h]
  | .ifc t v, b, h => by
    cases b <;> simp only [AV.same, Bool.false_eq_true, Bool.and_eq_true] at h
    rw [nbeq_of h.1, AV.same_of _ _ h.2]
  | .agg x, b, h => by cases b <;> simp only [AV.same, Bool.false_eq_true] at h; rw [AV.sames_of _ _ h]
  | .tup x, b, h => by cases b <;> simp only [AV.same, Bool.false_eq_true] at h; rw [AV.sames_of _ _ h]
  | .capOf x y, b, h => by
    cases b <;> simp only [AV.same, Bool.false_eq_true, Bool.and_eq_true] at h
    rw [nbeq_of h.1, nbeq_of h.2]
  | .sym x, b, h => by cases b <;> simp only [AV.same, Bool.false_eq_true] at h; rw [nbeq_of h]
  | .res x c, b, h => by
    cases b <;> simp only [AV.same, Bool.false_eq_true, Bool.and_eq_true] at h
    rw [nbeq_of h.1, RC.same_of h.2]
  | .pan v, b, h => by
    cases b <;> simp only [AV.same, Bool.false_eq_true] at h
    rw [AV.same_of _ _ h]
theorem AV.sames_of : ∀ (a b : List AV), AV.sames a b = true → a = b
  | [], b, h => by cases b <;> simp [AV.sames] at h; rfl
  | x :: a, b, h => by
    cases b with
    | nil => simp [AV.sames] at h
    | cons y b =>
      simp only [AV.sames, Bool.and_eq_true] at h
      rw [AV.same_of _ _ h.1, AV.sames_of _ _ h.2]
end

theorem Tr.isEmpty_get {α : Type} : ∀ (t : Tr α), t.isEmpty = true → ∀ n, t.get n = none := by
  intro t
  induction t with
  | nil => intro _ n; rfl
  | node v l r ihl ihr =>
    intro h n
    simp only [Tr.isEmpty, Bool.and_eq_true] at h
    rw [Tr.get_node]
    split
    · simpa using h.1.1
    · split
      · exact ihl h.1.2 _
      · exact ihr h.2 _

theorem Tr.sub_get {α : Type} {f : α → α → Bool} : ∀ (t t' : Tr α), t.sub f t' = true → ∀ n x, t.get n = some x → ∃ y, t'.get n = some y ∧ f x y = true := by
  intro t
  induction t with
  | nil => intro t' _ n x hx; cases hx
  | node v l r ihl ihr =>
    intro t' h n x hx
    cases t' with
    | nil =>
      simp only [Tr.sub] at h
      rw [Tr.isEmpty_get _ h] at hx; cases hx
    | node v' l' r' =>
      simp only [Tr.sub, Bool.and_eq_true] at h
      rw [Tr.get_node] at hx ⊢
      by_cases h0 : n = 0
      · rw [if_pos h0] at hx ⊢
        have := h.1.1
        rw [hx] at this
        cases v' with
        | none => simp [optSub] at this
        | some y => exact ⟨y, rfl, this⟩
      · rw [if_neg h0] at hx ⊢
        by_cases h1 : n % 2 = 1
        · rw [if_pos h1] at hx ⊢; exact ihl l' h.1.2 _ _ hx
        · rw [if_neg h1] at hx ⊢; exact ihr r' h.2 _ _ hx

theorem optSame_of {α : Type} {f : α → α → Bool} (hf : ∀ a b, f a b = true → a = b) {a b : Option α} (h : optSame f a b = true) : a = b := by
  cases a <;> cases b <;> simp only [optSame, Bool.false_eq_true] at h
  · rfl
  · rw [hf _ _ h]

theorem AObj.sub_ok {o1 o2 : AObj} (h : AObj.sub o1 o2 = true) : o1.wr = o2.wr ∧ ∀ {e : Env} {L : Loops} {b : Nat} {x : Nat × Nat} {w : World}, ObjR e L b x w o2 → ObjR e L b x w o1 := by
  cases o1 with
  | blk el ro sz cells =>
    cases o2 with
    | blk el' ro' sz' cells' =>
      simp only [AObj.sub, Bool.and_eq_true] at h
      obtain ⟨⟨⟨h1, h2⟩, h3⟩, h4⟩ := h
      have e1 := nbeq_of h1
      have e2 : ro = ro' := eq_of_beq h2
      have e3 : sz = sz' := by
        cases sz <;> cases sz' <;> simp only [Sz.same, Bool.false_eq_true, Bool.and_eq_true] at h3
        · rw [nbeq_of h3]
        · rw [nbeq_of h3.1.1, nbeq_of h3.2, optSame_of (fun a b h => nbeq_of h) h3.1.2]
      subst e1; subst e2; subst e3
      refine ⟨rfl, fun {e L b x w} hO => ?_⟩
      obtain ⟨c, fz, g1, g2, g3, g4⟩ := hO
      refine ⟨c, fz, g1, g2, g3, fun i v hv => ?_⟩
      obtain ⟨v', hv', hs⟩ := Tr.sub_get cells cells' h4 i v hv
      rw [AV.same_of _ _ hs]
      exact g4 i v' hv'
    | _ => simp [AObj.sub] at h
  | loop st p f fr ps d =>
    cases o2 with
    | loop st' p' f' fr' ps' d' =>
      simp only [AObj.sub, Bool.and_eq_true] at h
      obtain ⟨⟨⟨⟨⟨h1, h2⟩, h3⟩, h4⟩, h5⟩, h6⟩ := h
      have e1 : st = st' := eq_of_beq h1
      have e2 : p = p' := optSame_of (fun a b h => by cases a <;> cases b <;> simp only [XE.same, Bool.false_eq_true] at h <;> first | rfl | rw [nbeq_of h]) h2
      have e3 := nbeq_of h3
      have e5 : ps = ps' := strEq_of h5
      have e6 := nbeq_of h6
      subst e1; subst e2; subst e3; subst e5; subst e6
      simp only [Fr.sub, Bool.and_eq_true] at h4
      obtain ⟨⟨k1, k2⟩, k3⟩ := h4
      refine ⟨rfl, fun {e L b x w} hO => ?_⟩
      obtain ⟨asg, body, xd, t, g1, g2, g3, g4⟩ := hO
      refine ⟨asg, body, xd, t, g1, g2, g3, ?_⟩
      refine ⟨by rw [nbeq_of k3]; exact g4.1, fun i => ?_⟩
      have : fr.tm.getU i = fr'.tm.getU i := by
        unfold Tr.getU
        cases hi : fr.tm.get i with
        | some v =>
          obtain ⟨v', hv', hs⟩ := Tr.sub_get _ _ k1 i v hi
          rw [hv', AV.same_of _ _ hs]
        | none =>
          cases hi' : fr'.tm.get i with
          | none => rfl
          | some v' => obtain ⟨v, hv, _⟩ := Tr.sub_get _ _ k2 i v' hi'; rw [hi] at hv; cases hv
      rw [this]; exact g4.2 i
    | _ => simp [AObj.sub] at h
  | defr a =>
    cases o2 with
    | defr b =>
      simp only [AObj.sub] at h
      have := eq_of_beq h
      subst this
      exact ⟨rfl, fun {e L b x w} hO => hO⟩
    | _ => simp [AObj.sub] at h
  | siter s p =>
    cases o2 with
    | siter s' p' =>
      simp only [AObj.sub, Bool.and_eq_true] at h
      rw [strEq_of h.1, nbeq_of h.2]
      exact ⟨rfl, fun {e L b x w} hO => hO⟩
    | _ => simp [AObj.sub] at h

/-- less is known -/
def LeG (G' G : Nat → Option AObj) : Prop := ∀ b o1, G' b = some o1 → ∃ o2, G b = some o2 ∧ AObj.sub o1 o2 = true

theorem HR.leG {NG : GP} {e : Env} {L : Loops} {G G' : Nat → Option AObj} {n : Nat} {w : World} (h : HR NG e L G n w) (hs : LeG G' G) : HR NG e L G' n w where
  dom := h.dom
  live b o hb := by
    obtain ⟨o2, h2, hsub⟩ := hs b o hb
    obtain ⟨x, hx, hO⟩ := h.live b o2 h2
    exact ⟨x, hx, (AObj.sub_ok hsub).2 hO⟩
  inj b c o p x y hb hc := by
    obtain ⟨o2, h2, _⟩ := hs b o hb
    obtain ⟨p2, h3, _⟩ := hs c p hc
    exact h.inj b c o2 p2 x y h2 h3
  glob := h.glob
  ora := h.ora

theorem Tran.leG {e e' : Env} {G G1 G' : Nat → Option AObj} {n n' : Nat} {w w' : World} (h : Tran e G n w e' G1 n' w') (hs : LeG G' G1) : Tran e G n w e' G' n' w' :=
  { h with
    foot := fun B hB => h.foot B (by
      obtain ⟨b, o, x, h1, h2, h3, h4⟩ := hB
      obtain ⟨o2, g1, g2⟩ := hs b o h1
      exact ⟨b, o2, x, g1, by rw [← (AObj.sub_ok g2).1]; exact h2, h3, h4⟩)
    ro := fun b o hb hr => by
      obtain ⟨o2, g1, g2⟩ := hs b o hb
      exact h.ro b o2 g1 (by rw [← (AObj.sub_ok g2).1]; exact hr) }

theorem dropArgs_get : ∀ (args : List AV) (t : Tr AObj) (c : Nat) (o : AObj), (dropArgs t args).get c = some o → t.get c = some o := by
  intro args
  induction args with
  | nil => intro t c o h; exact h
  | cons a args ih =>
    intro t c o h
    unfold dropArgs at h
    split at h
    · rename_i heq; cases heq
    · rename_i heq
      injection heq with h1 h2
      subst h2
      have := ih _ _ _ h
      rw [Tr.get_set] at this
      split at this
      · cases this
      · exact this
    · rename_i heq
      injection heq with h1 h2
      subst h2
      exact ih _ _ _ h

theorem dropFrom_get (lo : Nat) : ∀ (n : Nat) (t : Tr AObj) (c : Nat) (o : AObj), (dropFrom lo n t).get c = some o → t.get c = some o := by
  intro n
  induction n with
  | zero => intro t c o h; exact h
  | succ n ih =>
    intro t c o h
    simp only [dropFrom] at h
    have := ih _ _ _ h
    rw [Tr.get_set] at this
    split at this
    · cases this
    · exact this

theorem maxNext_ge : ∀ (l : List (AV × AHeap)) (v : AV) (H : AHeap), (v, H) ∈ l → H.next ≤ maxNext l := by
  intro l
  induction l with
  | nil => intro v H h; cases h
  | cons p l ih =>
    intro v H h
    obtain ⟨v0, H0⟩ := p
    simp only [maxNext]
    rcases List.mem_cons.1 h with heq | h
    · cases heq; exact Nat.le_max_left _ _
    · exact Nat.le_trans (ih v H h) (Nat.le_max_right _ _)

theorem mergeOne_ok {NG : GP} {n0 N : Nat} {args : List AV} {L : Loops} {e : Env} {H0 : AHeap} {w : World} {v v' : AV} {H H' : AHeap} {en : Ending} {w' : World} (h : mergeOne n0 N args (v, H) = some (v', H')) (hN : H.next ≤ N) (ho : HOut NG L e H0 w v H en w') : HOut NG L e H0 w v' H' en w' := by
  obtain ⟨e1, hen, hH, hT⟩ := ho
  unfold mergeOne at h
  split at h
  · rename_i b off len cap H1 heq
    cases heq
    unfold mgObj at h
    split at h
    · rename_i k el lo hi es cells hob
      simp only [brec] at h
      cases hb : Nat.ble (k + len) lo with
      | false => rw [hb] at h; cases h
      | true =>
        rw [hb] at h; simp only [cond_true, Option.some.injEq, Prod.mk.injEq] at h
        obtain ⟨rfl, rfl⟩ := h
        have hle := nble_of hb
        obtain ⟨y, hy, rfl⟩ := endR_not hen (by simp)
        obtain ⟨x, hx, hy'⟩ := cv_sl hy
        obtain ⟨x', hx', hO⟩ := hH.live b _ hob
        rw [hx] at hx'; cases hx'
        obtain ⟨hfree, _⟩ := hH.free hN
        have hlee := Env.le_ext hfree x
        have hOn : ObjR (e1.ext N x) L N x w' (.blk el false (.opn (k + len) none es) cells) := by
          obtain ⟨c, fz, g1, g2, ⟨g3, g4, g5⟩, g6⟩ := hO
          exact ⟨c, fz, g1, g2, ⟨g3, by omega, fun _ h => by cases h⟩, fun i v hv => let ⟨z, hz, hc⟩ := g6 i v hv; ⟨z, cv_le hlee _ _ hz, hc⟩⟩
        have hsub : Sub (mgObjs n0 N args H b (.blk el false (.opn (k + len) none es) cells)).get (upd (upd H.objs.get b none) N (some (.blk el false (.opn (k + len) none es) cells))) := by
          intro c o hc
          simp only [mgObjs] at hc
          rw [Tr.get_set] at hc
          by_cases hcN : c = N
          · subst hcN; rw [if_pos rfl] at hc; rw [upd_same]; exact hc
          · rw [if_neg hcN] at hc
            have h1 := dropFrom_get _ _ _ _ _ hc
            rw [Tr.get_set] at h1
            by_cases hcb : c = b
            · rw [if_pos hcb] at h1; cases h1
            · rw [if_neg hcb] at h1
              rw [upd_ne _ _ hcN, upd_ne _ _ hcb]
              exact dropArgs_get _ _ _ _ h1
        refine ⟨e1.ext N x, ?_, ?_, ?_⟩
        · exact endR_ret (by simp only [cv, Env.ext_same]; rw [hy'])
        · exact ((hH.bump (show H.next ≤ N + 1 by omega)).rebind hob hx hfree (Nat.lt_succ_self _) (fun _ _ => rfl) hOn).weaken hsub
        · exact (hT.trans (Tran.rebind hob hx rfl rfl hfree hN (show H.next ≤ N + 1 by omega) (fun _ _ => rfl) rfl rfl rfl rfl)).weaken hsub
    · cases h
  · cases h

theorem mergeAll_mem {n0 N : Nat} {args : List AV} {v : AV} {H : AHeap} : ∀ {r : List (AV × AHeap)}, mergeAll n0 N args v H r = true → ∀ p ∈ r, ∃ q, mergeOne n0 N args p = some q ∧ v = q.1 ∧ H.next = q.2.next ∧ H.objs.sub AObj.sub q.2.objs = true := by
  intro r
  induction r with
  | nil => intro _ p hp; cases hp
  | cons o r ih =>
    intro h p hp
    simp only [mergeAll] at h
    cases hm : mergeOne n0 N args o with
    | none => rw [hm] at h; cases h
    | some q =>
      rw [hm] at h
      simp only [Bool.and_eq_true] at h
      rcases List.mem_cons.1 hp with rfl | hp
      · exact ⟨q, hm, AV.same_of _ _ h.1.1.1, nbeq_of h.1.1.2, h.1.2⟩
      · exact ih h.2 p hp

/-- G' says less than G -/
def LeW (G' G : Nat → Option AObj) : Prop := ∀ b o1, G' b = some o1 → ∃ o2, G b = some o2 ∧ o1.wr = o2.wr ∧ ∀ (e : Env) (L : Loops) (b : Nat) (x : Nat × Nat) (w : World), ObjR e L b x w o2 → ObjR e L b x w o1

theorem HR.leW {NG : GP} {e : Env} {L : Loops} {G G' : Nat → Option AObj} {n : Nat} {w : World} (h : HR NG e L G n w) (hs : LeW G' G) : HR NG e L G' n w where
  dom := h.dom
  live b o hb := by
    obtain ⟨o2, h2, _, hsub⟩ := hs b o hb
    obtain ⟨x, hx, hO⟩ := h.live b o2 h2
    exact ⟨x, hx, hsub _ _ _ _ _ hO⟩
  inj b c o p x y hb hc := by
    obtain ⟨o2, h2, _⟩ := hs b o hb
    obtain ⟨p2, h3, _⟩ := hs c p hc
    exact h.inj b c o2 p2 x y h2 h3
  glob := h.glob
  ora := h.ora

theorem Tran.leW {e e' : Env} {G G1 G' : Nat → Option AObj} {n n' : Nat} {w w' : World} (h : Tran e G n w e' G1 n' w') (hs : LeW G' G1) : Tran e G n w e' G' n' w' :=
  { h with
    foot := fun B hB => h.foot B (by
      obtain ⟨b, o, x, h1, h2, h3, h4⟩ := hB
      obtain ⟨o2, g1, g2, _⟩ := hs b o h1
      exact ⟨b, o2, x, g1, by rw [← g2]; exact h2, h3, h4⟩)
    ro := fun b o hb hr => by
      obtain ⟨o2, g1, g2, _⟩ := hs b o hb
      exact h.ro b o2 g1 (by rw [← g2]; exact hr) }

theorem LeW.trans {G0 G1 G2 : Nat → Option AObj} (h : LeW G0 G1) (k : LeW G1 G2) : LeW G0 G2 := by
  intro b o hb
  obtain ⟨o1, h1, h2, h3⟩ := h b o hb
  obtain ⟨o2, k1, k2, k3⟩ := k b o1 h1
  exact ⟨o2, k1, h2.trans k2, fun e L b x w hO => h3 e L b x w (k3 e L b x w hO)⟩

theorem LeW.refl (G : Nat → Option AObj) : LeW G G := fun b o hb => ⟨o, hb, rfl, fun _ _ _ _ _ h => h⟩

theorem meet_get {α : Type} (f : α → α → Option α) : ∀ (t t' : Tr α) (n : Nat) (z : α), (t.meet f t').get n = some z → ∃ x y, t.get n = some x ∧ t'.get n = some y ∧ f x y = some z := by
  intro t
  induction t with
  | nil => intro t' n x h; simp only [Tr.meet] at h; cases h
  | node v l r ihl ihr =>
    intro t' n x h
    cases t' with
    | nil => simp only [Tr.meet] at h; cases h
    | node v' l' r' =>
      simp only [Tr.meet] at h
      rw [Tr.get_node] at h
      rw [Tr.get_node, Tr.get_node]
      by_cases h0 : n = 0
      · rw [if_pos h0] at h
        rw [if_pos h0, if_pos h0]
        unfold meetO at h
        split at h
        · rename_i p q; exact ⟨p, q, rfl, rfl, h⟩
        · cases h
      · rw [if_neg h0] at h
        rw [if_neg h0, if_neg h0]
        by_cases h1 : n % 2 = 1
        · rw [if_pos h1] at h; rw [if_pos h1, if_pos h1]; exact ihl l' _ _ h
        · rw [if_neg h1] at h; rw [if_neg h1, if_neg h1]; exact ihr r' _ _ h

theorem leastN_le (a b : Nat) : leastN a b ≤ a ∧ leastN a b ≤ b := by
  simp only [leastN, brec]
  cases hb : Nat.ble a b with
  | true => exact ⟨Nat.le_refl _, nble_of hb⟩
  | false =>
    have : ¬ a ≤ b := fun h => by rw [Nat.ble_eq_true_of_le h] at hb; cases hb
    exact ⟨by show b ≤ a; omega, Nat.le_refl _⟩

theorem meetObj_ok {x y z : AObj} (h : meetObj x y = some z) : (z.wr = x.wr ∧ ∀ (e : Env) (L : Loops) (b : Nat) (p : Nat × Nat) (w : World), ObjR e L b p w x → ObjR e L b p w z) ∧
    (z.wr = y.wr ∧ ∀ (e : Env) (L : Loops) (b : Nat) (p : Nat × Nat) (w : World), ObjR e L b p w y → ObjR e L b p w z) := by
  simp only [meetObj, brec] at h
  cases hs : AObj.sub x y with
  | true =>
    rw [hs] at h
    simp only [cond_true, Option.some.injEq] at h; subst h
    exact ⟨⟨rfl, fun _ _ _ _ _ h => h⟩, (AObj.sub_ok hs).1, fun e L b p w => (AObj.sub_ok hs).2⟩
  | false =>
    rw [hs] at h
    simp only [cond_false] at h
    unfold meetObj2 at h
    split at h
    · rename_i el ro s c el' ro' s' c'
      simp only [brec] at h
      cases hb : (Nat.beq el el' && ro == ro' && c.sub AV.same c') with
      | false => rw [hb] at h; cases h
      | true =>
        rw [hb] at h
        simp only [cond_true] at h
        simp only [Bool.and_eq_true] at hb
        have e1 := nbeq_of hb.1.1
        have e2 : ro = ro' := eq_of_beq hb.1.2
        subst e1; subst e2
        cases s with
        | fix n => simp [joinSz, meetBlk] at h
        | opn lo hi es =>
          cases s' with
          | fix n => simp [joinSz, meetBlk] at h
          | opn lo' hi' es' =>
            simp only [joinSz, brec] at h
            cases he : Nat.beq es es' with
            | false => rw [he] at h; cases h
            | true =>
              rw [he] at h
              simp only [cond_true, meetBlk, Option.some.injEq] at h; subst h
              have e3 := nbeq_of he
              subst e3
              have hl := leastN_le lo lo'
              refine ⟨⟨rfl, fun e L b p w hO => ?_⟩, rfl, fun e L b p w hO => ?_⟩
              · obtain ⟨c0, fz, g1, g2, ⟨g3, g4, g5⟩, g6⟩ := hO
                refine ⟨c0, fz, g1, g2, ⟨g3, Nat.le_trans hl.1 g4, fun h hh => ?_⟩, g6⟩
                unfold joinHi at hh
                split at hh
                · rename_i a b'
                  simp only [Option.some.injEq] at hh; subst hh
                  exact Nat.lt_of_lt_of_le (g5 a rfl) (Nat.le_max_left _ _)
                · cases hh
              · obtain ⟨c0, fz, g1, g2, ⟨g3, g4, g5⟩, g6⟩ := hO
                refine ⟨c0, fz, g1, g2, ⟨g3, Nat.le_trans hl.2 g4, fun h hh => ?_⟩, fun i v hv => ?_⟩
                · unfold joinHi at hh
                  split at hh
                  · rename_i a b'
                    simp only [Option.some.injEq] at hh; subst hh
                    exact Nat.lt_of_lt_of_le (g5 b' rfl) (Nat.le_max_right _ _)
                  · cases hh
                · obtain ⟨v', hv', hsm⟩ := Tr.sub_get c c' hb.2 i v hv
                  rw [AV.same_of _ _ hsm]
                  exact g6 i v' hv'
    · cases h

theorem meetH_next (a b : AHeap) : (meetH a b).next = Nat.max a.next b.next := by cases a; cases b; rfl
theorem meetH_objs (a b : AHeap) : (meetH a b).objs = a.objs.meet meetObj b.objs := by cases a; cases b; rfl

theorem meetH_le (a b : AHeap) : LeW (meetH a b).objs.get a.objs.get ∧ LeW (meetH a b).objs.get b.objs.get := by
  rw [meetH_objs]
  constructor
  · intro n z hz
    obtain ⟨x, y, hx, hy, hxy⟩ := meet_get _ _ _ _ _ hz
    obtain ⟨h1, _⟩ := meetObj_ok hxy
    exact ⟨x, hx, h1.1, h1.2⟩
  · intro n z hz
    obtain ⟨x, y, hx, hy, hxy⟩ := meet_get _ _ _ _ _ hz
    obtain ⟨_, h1⟩ := meetObj_ok hxy
    exact ⟨y, hy, h1.1, h1.2⟩

theorem mergeSame_ok {v : AV} : ∀ (r : List (AV × AHeap)) (acc H : AHeap), mergeSame v acc r = some H →
    LeW H.objs.get acc.objs.get ∧ acc.next ≤ H.next ∧ ∀ u H', (u, H') ∈ r → u = v ∧ LeW H.objs.get H'.objs.get ∧ H'.next ≤ H.next := by
  intro r
  induction r with
  | nil =>
    intro acc H h
    simp only [mergeSame, Option.some.injEq] at h; subst h
    exact ⟨LeW.refl _, Nat.le_refl _, fun _ _ h => by cases h⟩
  | cons o r ih =>
    intro acc H h
    simp only [mergeSame, brec] at h
    cases hs : v.same o.1 with
    | false => rw [hs] at h; cases h
    | true =>
      rw [hs] at h; simp only [cond_true] at h
      obtain ⟨h1, h2, h3⟩ := ih _ _ h
      rw [meetH_next] at h2
      have h2a : acc.next ≤ H.next := Nat.le_trans (Nat.le_max_left _ _) h2
      have h2b : o.2.next ≤ H.next := Nat.le_trans (Nat.le_max_right _ _) h2
      obtain ⟨m1, m2⟩ := meetH_le acc o.2
      refine ⟨h1.trans m1, h2a, ?_⟩
      intro u H' hm
      rcases List.mem_cons.1 hm with rfl | hm
      · exact ⟨(AV.same_of _ _ hs).symm, h1.trans m2, h2b⟩
      · exact h3 u H' hm

theorem mergeV_ok {NG : GP} {L : Loops} {e : Env} {H : AHeap} {w : World} {r : List (AV × AHeap)} {en : Ending} {w' : World} (h : ValOut NG L e H w r en w') : ValOut NG L e H w (mergeV r) en w' := by
  unfold mergeV
  split
  · exact h
  · exact h
  · rename_i o o' r'
    unfold mergeS
    split
    · rename_i Hm hm
      obtain ⟨v, H', hmem, e1, hen, hH, hT⟩ := h
      obtain ⟨h1, h2, h3⟩ := mergeSame_ok _ _ _ hm
      rcases List.mem_cons.1 hmem with rfl | hmem'
      · exact ⟨v, Hm, by simp, e1, hen, (hH.bump h2).leW h1, (hT.bump h2).leW h1⟩
      · obtain ⟨rfl, g1, g2⟩ := h3 _ _ hmem'
        exact ⟨o.1, Hm, by simp, e1, hen, (hH.bump g2).leW g1, (hT.bump g2).leW g1⟩
    · exact h

theorem mergeOuts_ok {P : Program} {X : XP} : MergeOk P X := by
  refine ⟨?_, fun r L e H w en w' h => mergeV_ok h⟩
  intro f _ n0 as r L e H w y w' _ h
  unfold mergeOuts
  split
  · exact h
  · exact h
  · rename_i o o' r'
    unfold mergeInto
    split
    · rename_i p hp
      simp only [brec]
      cases hm : mergeAll n0 (maxNext (o :: o' :: r')) as p.1 p.2 (o' :: r') with
      | false => exact h
      | true =>
        simp only [cond_true]
        obtain ⟨v, H', hmem, ho⟩ := h
        have hN := maxNext_ge _ _ _ hmem
        rcases List.mem_cons.1 hmem with rfl | hmem'
        · exact ⟨p.1, p.2, by simp, mergeOne_ok hp hN ho⟩
        · obtain ⟨q, hq, h1, h2, h3⟩ := mergeAll_mem hm _ hmem'
          obtain ⟨e1, hy, hH, hT⟩ := mergeOne_ok hq hN ho
          have hle : LeG p.2.objs.get q.2.objs.get := fun b o1 hb => Tr.sub_get _ _ h3 b o1 hb
          exact ⟨p.1, p.2, by simp, e1, by rw [h1]; exact hy, by rw [h2]; exact hH.leG hle, by rw [h2]; exact hT.leG hle⟩
    · exact h
end
end Go.X
