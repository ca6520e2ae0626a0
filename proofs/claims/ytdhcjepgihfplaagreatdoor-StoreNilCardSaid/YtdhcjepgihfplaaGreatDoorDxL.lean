/- The operations that write memory. -/
import Derived.Test.YtdhcjepgihfplaaGreatDoorDxK
namespace Go.X
noncomputable section
set_option linter.unusedSectionVars false

/-- a block that is known under one id gets another id; the first one is forgotten -/
theorem HR.rebind {NG : GP} {e : Env} {L : Loops} {G : Nat → Option AObj} {n : Nat} {w w' : World} {b nid : Nat} {o o' : AObj} {x : Nat × Nat} (h : HR NG e L G n w)
    (hb : G b = some o) (hx : e.f b = some x) (hn : e.f nid = none) (hlt : nid < n) (hsame : ∀ B, B ≠ x.1 → w'.heap[B]? = w.heap[B]?) (ho : ObjR (e.ext nid x) L nid x w' o') :
    HR NG (e.ext nid x) L (X.upd (X.upd G b none) nid (some o')) n w' := by
  have hle := Env.le_ext hn x
  have hG : G nid = none := by
    cases hg : G nid with
    | none => rfl
    | some p => obtain ⟨y, hy, _⟩ := h.live nid p hg; rw [hn] at hy; cases hy
  have hold : ∀ c p, c ≠ nid → X.upd (X.upd G b none) nid (some o') c = some p → c ≠ b ∧ G c = some p := by
    intro c p e1 hc
    rw [upd_ne _ _ e1] at hc
    by_cases e2 : c = b
    · subst e2; rw [upd_same] at hc; cases hc
    · rw [upd_ne _ _ e2] at hc; exact ⟨e2, hc⟩
  refine ⟨?_, ?_, ?_, fun g hg => hle.1 _ _ (h.glob g hg), by rw [hle.2]; exact h.ora⟩
  · intro c y hc
    by_cases e1 : c = nid
    · subst e1; exact hlt
    · rw [Env.ext_ne _ _ e1] at hc; exact h.dom c y hc
  · intro c p hc
    by_cases e1 : c = nid
    · subst e1; rw [upd_same] at hc; cases hc; exact ⟨x, Env.ext_same _ _ _, ho⟩
    · obtain ⟨e2, hc'⟩ := hold c p e1 hc
      obtain ⟨y, hy, hO⟩ := h.live c p hc'
      exact ⟨y, hle.1 _ _ hy, hO.keep hle (hsame _ fun he => e2 (h.inj c b p o y x hc' hb hy hx he)) rfl⟩
  · intro c d p q y z hc hd hy hz hyz
    by_cases e1 : c = nid
    · by_cases e2 : d = nid
      · rw [e1, e2]
      · obtain ⟨e3, hd'⟩ := hold d q e2 hd
        rw [Env.ext_ne _ _ e2] at hz
        subst e1; rw [Env.ext_same] at hy; cases hy
        exact absurd (h.inj d b q o z x hd' hb hz hx hyz.symm) e3
    · obtain ⟨e3, hc'⟩ := hold c p e1 hc
      rw [Env.ext_ne _ _ e1] at hy
      by_cases e2 : d = nid
      · subst e2; rw [Env.ext_same] at hz; cases hz
        exact absurd (h.inj c b p o y x hc' hb hy hx hyz) e3
      · obtain ⟨e4, hd'⟩ := hold d q e2 hd
        rw [Env.ext_ne _ _ e2] at hz
        exact h.inj c d p q y z hc' hd' hy hz hyz

theorem Tran.rebind {e : Env} {G : Nat → Option AObj} {n0 n : Nat} {w w' : World} {b nid : Nat} {o o' : AObj} {x : Nat × Nat}
    (hb : G b = some o) (hx : e.f b = some x) (hw : o.wr = true) (hw' : o'.wr = true) (hn : e.f nid = none) (h0 : n0 ≤ nid) (hn0 : n0 ≤ n) (hsame : ∀ B, B ≠ x.1 → w'.heap[B]? = w.heap[B]?) (hsz : w'.heap.size = w.heap.size)
    (hos : w'.os = w.os) (htp : w'.tape = w.tape) (hout : w'.output = w.output) : Tran e G n0 w (e.ext nid x) (X.upd (X.upd G b none) nid (some o')) n w' where
  le := Env.le_ext hn x
  old c hc := Env.ext_ne _ _ (by omega)
  nx := hn0
  size := by omega
  keep B _ hf := hsame B fun he => hf ⟨b, o, x, hb, hw, hx, he.symm⟩
  foot B hf _ := by
    obtain ⟨c, p, y, hc, hp, hy, he⟩ := hf
    by_cases e1 : c = nid
    · subst e1; rw [Env.ext_same] at hy; cases hy; exact ⟨b, o, x, hb, hw, hx, he⟩
    · rw [upd_ne _ _ e1] at hc; rw [Env.ext_ne _ _ e1] at hy
      by_cases e2 : c = b
      · subst e2; rw [upd_same] at hc; cases hc
      · rw [upd_ne _ _ e2] at hc; exact ⟨c, p, y, hc, hp, hy, he⟩
  ro c p hc hp := by
    by_cases e1 : c = nid
    · subst e1; rw [upd_same] at hc; cases hc; rw [hw'] at hp; cases hp
    · rw [upd_ne _ _ e1] at hc
      by_cases e2 : c = b
      · subst e2; rw [upd_same] at hc; cases hc
      · rw [upd_ne _ _ e2] at hc; exact ⟨p, hc, hp⟩
  os := hos
  tape := htp
  output := hout

/-- storing cells into a block -/
theorem store_blk {P : Program} {w : World} {B off : Nat} {c : Array Value} {el : TypeId} {fz : Nat × Nat} {xs : List Value} (h1 : w.heap[B]? = some (.cells c el fz))
    (h2 : fz = (0, 0)) (hin : off + xs.length ≤ c.size) (hone : ∀ x ∈ xs, x.oneCell' = true) :
    ∃ w', (storeCells ⟨B, off, none⟩ xs).run P w = .ok () w' ∧ w'.heap[B]? = some (.cells (putArr c off xs) el fz) ∧ (∀ B', B' ≠ B → w'.heap[B']? = w.heap[B']?) ∧ w'.heap.size = w.heap.size ∧
      w'.os = w.os ∧ w'.tape = w.tape ∧ w'.output = w.output := by
  have hrun := run_storeCells_cells (P := P) B off xs 0 w
    (fun j hj => by simp only [World.cell?, h1, Nat.add_zero]; simp; omega)
    (fun j hj => by simp [World.frozen?, h1, h2]) hone
  simp only [Nat.add_zero] at hrun
  obtain ⟨g1, g2, g3, g4, g5, g6⟩ := setCells_heap B el fz xs off w c h1
  exact ⟨_, hrun, g1, g2, g3, g4, g5, g6⟩

section
variable {P : Program} {X : XP} (ok : XPok P X) (w : World) {e : Env} {L : Loops} {H : AHeap} {nx : Nat} {NG : GP} (hH : HR NG e L H.objs.get nx w)

include ok hH in
theorem appendA_run {ts : Array TypeId} {t el ty : TypeId} {ei : TyI} (h0 : ts[0]? = some t) (hu : P.underlying t = some (.slice el)) (hel : X.tys.get el = some ei) {x : Value} {n : Nat} {xs : List AV} {ys : List Value}
    (hxs : cvs e xs = some ys) (hlen : ys.length = n * ei.size) (hsrc : Src P w ts ei.size el x n ys) {s v : AV} {vs : Value} (hs : cv e s = some vs) {nid n0 : Nat} {H' : AHeap}
    (hok : apOk ei n (lenA s) = true) (h : appendA H nid el ei.size n xs s = some (v, H')) (hn : e.f nid = none) (hlt : nid < nx) (hn0 : n0 ≤ nid) :
    ∃ e' y w', (Builtin.append_ ts ty #[vs, x]).run P w = .ok y w' ∧ cv e' v = some y ∧ HR NG e' L H'.objs.get nx w' ∧ Tran e H.objs.get n0 w e' H'.objs.get nx w' ∧ H'.next = H.next := by
  have hke := ok.tys el ei hel
  have hGn : H.objs.get nid = none := by
    cases hg : H.objs.get nid with
    | none => rfl
    | some p => obtain ⟨y, hy, _⟩ := hH.live nid p hg; rw [hn] at hy; cases hy
  have hokk : ∃ l, lenA s = some l ∧ l + n < 1048576 ∧ ei.bytes ≤ 1048576 ∧ 0 < ei.size := by
    unfold apOk at hok
    cases hl : lenA s with
    | none => rw [hl] at hok; cases hok
    | some l =>
      rw [hl] at hok
      simp only [Bool.and_eq_true] at hok
      exact ⟨l, rfl, nblt_of hok.1.1, nble_of hok.1.2, nblt_of hok.2⟩
  obtain ⟨l, hl, hsmall, hbytes, hpos⟩ := hokk
  -- a new block
  have grown : ∀ {H0 : AHeap} {base : Option Addr} {sLen sCap : Nat} {olds : List AV} {old : List Value} {v : AV} {H' : AHeap}, vs = .slice base sLen sCap → sLen + n < 1048576 → ¬ sLen + n ≤ sCap → cvs e olds = some old → old.length = sLen * ei.size →
      (∀ W : World, W.heap = w.heap → (Builtin.firstCells ei.size sLen (.slice base sLen sCap)).run P W = .ok old.toArray W) → Sub H0.objs.get H.objs.get → H0.next = H.next →
      apGrown H0 nid el ei.size (sLen + n) (olds ++ xs) = some (v, H') →
      ∃ e' y w', (Builtin.append_ ts ty #[vs, x]).run P w = .ok y w' ∧ cv e' v = some y ∧ HR NG e' L H'.objs.get nx w' ∧ Tran e H.objs.get n0 w e' H'.objs.get nx w' ∧ H'.next = H.next := by
    intro H0 base sLen sCap olds old v H' hvs hsm hgrow hold hol hrun hsub hnx hh
    simp only [apGrown, brec] at hh
    cases hc : (olds ++ xs).all AV.isCell with
    | false => rw [hc] at hh; cases hh
    | true =>
      rw [hc] at hh; simp only [cond_true, Option.some.injEq, Prod.mk.injEq] at hh
      obtain ⟨rfl, rfl⟩ := hh
      obtain ⟨newCap, rest, g1, g2, g3⟩ := append_grows w (ty := ty) h0 hu hke hsrc hgrow hsm hbytes hrun
      have hle := Env.le_ext hn (w.heap.size, newCap)
      have hall := cvs_append hold hxs
      have hO : ObjR (e.ext nid (w.heap.size, newCap)) L nid (w.heap.size, newCap) { w with drawn := w.drawn + 1, heap := w.heap.push (.cells (old.toArray ++ ys.toArray ++ rest) el) } (.blk el false (.opn (sLen + n) none ei.size) (Tr.put .nil 0 (olds ++ xs))) := by
        refine objR_new w rfl ⟨?_, g1, fun _ h => by cases h⟩ ?_
        · simp only [Array.size_append, List.size_toArray, hol, hlen, g2]
          rw [← Nat.add_mul, ← Nat.add_mul, Nat.mul_comm ei.size]
          congr 1; omega
        · intro i a ha
          obtain ⟨y, hy, hx⟩ := put_get (cvs_le hle _ _ hall) i a ha
          refine ⟨y, hy, ?_⟩
          have hi : i < (old ++ ys).length := by
            rcases Nat.lt_or_ge i (old ++ ys).length with h | h
            · exact h
            · simp [List.getElem?_eq_none h] at hx
          have : old.toArray ++ ys.toArray = (old ++ ys).toArray := by simp
          rw [this, Array.getElem?_append_left (by simpa using hi)]; exact hx
      refine ⟨e.ext nid (w.heap.size, newCap), _, _, by rw [hvs]; exact g3, by simp only [cv, Env.ext_same, Cap.val, Nat.sub_zero], ?_, ?_, ?_⟩
      · show HR NG _ L (H0.objs.set nid _).get nx _
        rw [get_set_upd]
        exact HR.alloc (hH.weaken hsub) hn hlt rfl hO
      · show Tran e H.objs.get n0 w _ (H0.objs.set nid _).get nx _
        rw [get_set_upd]
        refine Tran.from_sub ?_ hsub
        exact Tran.alloc (w := w) (ob := .cells (old.toArray ++ ys.toArray ++ rest) el) hn hn0 (by omega) rfl rfl rfl rfl rfl
      · exact hnx
  have firstOld : ∀ {b off len : Nat} {olds : List AV} {x : Nat × Nat} {c : Nat}, getCells H b off (len * ei.size) = some olds → e.f b = some x →
      ∃ old, cvs e olds = some old ∧ old.length = len * ei.size ∧ ∀ W : World, W.heap = w.heap → (Builtin.firstCells ei.size len (.slice (some ⟨x.1, off, none⟩) len c)).run P W = .ok old.toArray W := by
    intro b off len olds x c hg hx
    obtain ⟨x', os, hx', hos, hol, hcell⟩ := getCells_cv hH hg
    rw [hx] at hx'; cases hx'
    refine ⟨os, hos, hol, fun W hW => ?_⟩
    have hr := run_loadCells_list (P := P) W ⟨x.1, off, none⟩ os (fun j u hj => by
      rw [add_none]
      have := hcell j u hj
      simp only [World.cell?] at this ⊢
      rw [hW]; exact this)
    rw [hol] at hr
    simp only [Builtin.firstCells, hr]
  -- within the capacity
  have fits : ∀ {b off len : Nat} {cap : Cap} {v : AV} {H' : AHeap} {x0 : Nat × Nat}, e.f b = some x0 → vs = .slice (some ⟨x0.1, off, none⟩) len (cap.val x0.2) → len + n ≤ cap.val x0.2 →
      apFits b off (len + n) cap (putCells H b (off + len * ei.size) xs) = some (v, H') →
      ∃ e' y w', (Builtin.append_ ts ty #[vs, x]).run P w = .ok y w' ∧ cv e' v = some y ∧ HR NG e' L H'.objs.get nx w' ∧ Tran e H.objs.get n0 w e' H'.objs.get nx w' ∧ H'.next = H.next := by
    intro b off len cap v H' x0 hx0 hvs hfit hh
    cases hp : putCells H b (off + len * ei.size) xs with
    | none => rw [hp] at hh; simp [apFits] at hh
    | some H1 =>
      rw [hp] at hh
      simp only [apFits, Option.some.injEq, Prod.mk.injEq] at hh
      obtain ⟨rfl, rfl⟩ := hh
      obtain ⟨x', w', hx', hrun, hHR, hT, hnx⟩ := putCells_run (P := P) hH hp hxs
      rw [hx0] at hx'; cases hx'
      refine ⟨e, .slice (some ⟨x0.1, off, none⟩) (len + n) (cap.val x0.2), w', ?_, by simp only [cv, hx0], hHR, { hT with old := fun _ _ => rfl, nx := by omega }, hnx⟩
      rw [hvs, append_fits w h0 hu hke hsrc hfit]
      simp only [add_none, hrun, Result.andThen_ok]
  unfold appendA at h
  split at h
  · simp only [cv, Option.some.injEq] at hs
    simp only [lenA, Option.some.injEq] at hl; subst hl
    simp only [brec] at h
    cases hb : Nat.beq n 0 with
    | true =>
      have hn0' := nbeq_of hb
      rw [hb] at h; simp only [cond_true, Option.some.injEq, Prod.mk.injEq] at h
      obtain ⟨rfl, rfl⟩ := h
      subst hn0'
      refine ⟨e, .slice none 0 0, w, ?_, rfl, hH, { Tran.refl e H.objs.get nx w with old := fun _ _ => rfl, nx := by omega }, rfl⟩
      rw [← hs, append_fits w h0 hu hke hsrc (Nat.le_refl _)]
    | false =>
      rw [hb] at h; simp only [cond_false] at h
      have hne : n ≠ 0 := fun h => by subst h; cases hb
      exact grown (H0 := H) (olds := []) (old := []) hs.symm (by omega) (by omega) rfl (by simp) (fun W _ => by simp [Builtin.firstCells]) (Sub.refl _) rfl (by simpa using h)
  · rename_i b off len c
    obtain ⟨x0, hx0, hvs⟩ := cv_sl hs
    simp only [lenA, Option.some.injEq] at hl; subst hl
    simp only [apFix, brec] at h
    cases hb : Nat.ble (len + n) c with
    | true =>
      rw [hb] at h; simp only [cond_true] at h
      exact fits hx0 hvs (nble_of hb) h
    | false =>
      rw [hb] at h; simp only [cond_false] at h
      have hgt : ¬ len + n ≤ c := fun hh => by rw [Nat.ble_eq_true_of_le hh] at hb; cases hb
      cases hg : getCells H b off (len * ei.size) with
      | none => rw [hg] at h; simp [apGrow] at h
      | some olds =>
        rw [hg] at h
        simp only [apGrow] at h
        obtain ⟨old, ho1, ho2, ho3⟩ := firstOld hg hx0
        exact grown (H0 := H) hvs hsmall hgt ho1 ho2 ho3 (Sub.refl _) rfl h
  · rename_i b off len k
    obtain ⟨x0, hx0, hvs⟩ := cv_sl hs
    simp only [lenA, Option.some.injEq] at hl; subst hl
    unfold apOpn at h
    split at h
    · rename_i el' lo hi es' cells hob
      obtain ⟨x', hx', c, fz, b1, b2, ⟨b3, b4, b5⟩, b6⟩ := hH.live b _ hob
      rw [hx0] at hx'; cases hx'
      simp only [brec] at h
      cases hb : Nat.ble (k + (len + n)) lo with
      | true =>
        rw [hb] at h; simp only [cond_true] at h
        exact fits hx0 hvs (by have := nble_of hb; simp only [Cap.val]; omega) h
      | false =>
        rw [hb] at h; simp only [cond_false] at h
        cases hg : getCells H b off (len * ei.size) with
        | none => rw [hg] at h; cases hi <;> simp [apMaybe] at h
        | some olds =>
          rw [hg] at h
          obtain ⟨old, ho1, ho2, ho3⟩ := firstOld hg hx0
          cases hi with
          | some hh =>
            simp only [apMaybe, brec] at h
            cases hb2 : (Nat.ble hh (k + (len + n)) && Nat.blt 0 (len + n)) with
            | false => rw [hb2] at h; cases h
            | true =>
              rw [hb2] at h; simp only [cond_true] at h
              simp only [Bool.and_eq_true] at hb2
              have := nble_of hb2.1
              have := nblt_of hb2.2
              have := b5 hh rfl
              exact grown (H0 := H) hvs hsmall (by simp only [Cap.val]; omega) ho1 ho2 ho3 (Sub.refl _) rfl h
          | none =>
            simp only [apMaybe, brec] at h
            cases hb2 : (Nat.beq off 0 && Nat.beq k 0 && Nat.beq es' ei.size && Nat.beq el' el) with
            | false => rw [hb2] at h; cases h
            | true =>
              rw [hb2] at h; simp only [cond_true] at h
              simp only [Bool.and_eq_true] at hb2
              have e1 := nbeq_of hb2.1.1.1; have e2 := nbeq_of hb2.1.1.2; have e3 := nbeq_of hb2.1.2; have e4 := nbeq_of hb2.2
              subst e1; subst e2; subst e3; subst e4
              have hsub : Sub (H.set b none).objs.get H.objs.get := by
                show Sub (H.objs.set b none).get H.objs.get
                rw [get_set_upd]; exact Sub.drop _ _
              by_cases hfit : len + n ≤ x0.2
              · -- the block stays; it gets a new id
                simp only [apGrown, brec] at h
                cases hc : (olds ++ xs).all AV.isCell with
                | false => rw [hc] at h; cases h
                | true =>
                  rw [hc] at h; simp only [cond_true, Option.some.injEq, Prod.mk.injEq] at h
                  obtain ⟨rfl, rfl⟩ := h
                  have hin : len * ei.size + ys.length ≤ c.size := by
                    rw [hlen, ← Nat.add_mul, b3, Nat.mul_comm]; exact Nat.mul_le_mul_left _ hfit
                  have hall := cvs_append ho1 hxs
                  have hone : ∀ y ∈ ys, y.oneCell' = true := by
                    simp only [List.all_append, Bool.and_eq_true] at hc
                    exact isCells_one hc.2 hxs
                  obtain ⟨w', s1, s2, s3, s4, s5, s6, s7⟩ := store_blk (P := P) b1 (b2 rfl) hin hone
                  have hle := Env.le_ext hn x0
                  obtain ⟨_, os, hx2, hos, hol, hcell⟩ := getCells_cv hH hg
                  rw [hx0] at hx2; cases hx2
                  rw [ho1] at hos; cases hos
                  have hO : ObjR (e.ext nid x0) L nid x0 w' (.blk el' false (.opn (len + n) none ei.size) (Tr.put .nil 0 (olds ++ xs))) := by
                    refine ⟨_, fz, s2, b2, by rw [size_putArr]; exact ⟨b3, hfit, fun _ h => by cases h⟩, ?_⟩
                    intro i a ha
                    obtain ⟨y, hy, hxx⟩ := put_get (cvs_le hle _ _ hall) i a ha
                    refine ⟨y, hy, ?_⟩
                    rw [get_putArr _ _ _ _ hin]
                    simp only [List.getElem?_toArray] at hxx
                    by_cases hi : i < old.length
                    · rw [List.getElem?_append_left hi] at hxx
                      rw [if_neg (by omega)]
                      have := hcell i y hxx
                      simp only [World.cell?, b1, Nat.zero_add] at this
                      simpa using this
                    · rw [List.getElem?_append_right (by omega)] at hxx
                      have hlt2 : i - old.length < ys.length := (List.getElem?_eq_some_iff.1 hxx).1
                      rw [if_pos (by omega), ← ho2]; exact hxx
                  refine ⟨e.ext nid x0, .slice (some ⟨x0.1, 0, none⟩) (len + n) x0.2, w', ?_, by simp only [cv, Env.ext_same, Cap.val, Nat.sub_zero], ?_, ?_, rfl⟩
                  · rw [hvs, append_fits w h0 hu hke hsrc (by simpa [Cap.val] using hfit)]
                    simp only [add_none, Nat.zero_add, s1, Result.andThen_ok, Cap.val, Nat.sub_zero]
                  · show HR NG _ L ((H.objs.set b none).set nid _).get nx _
                    rw [get_set_upd, get_set_upd]
                    exact hH.rebind hob hx0 hn hlt s3 hO
                  · show Tran e H.objs.get n0 w _ ((H.objs.set b none).set nid _).get nx _
                    rw [get_set_upd, get_set_upd]
                    exact Tran.rebind hob hx0 rfl rfl hn hn0 (by omega) s3 s4 s5 s6 s7
              · exact grown (H0 := H.set b none) hvs hsmall (by simpa [Cap.val] using hfit) ho1 ho2 ho3 hsub rfl h
    · cases h
  · cases h
end
end
end Go.X
