/- The package variables that are laid, by lists. -/
import Derived.Test.YtdhcjepgihfplaaGreatDoorDxRc
namespace Go.X
noncomputable section

def gOf : List (Nat × AObj) → Tr AObj
  | [] => .nil
  | p :: r => (gOf r).set p.1 (some p.2)

theorem gOf_get : ∀ {l : List (Nat × AObj)} {b : Nat} {o : AObj}, (gOf l).get b = some o → (b, o) ∈ l := by
  intro l
  induction l with
  | nil => intro b o h; cases h
  | cons p r ih =>
    intro b o h
    simp only [gOf] at h
    rw [Tr.get_set] at h
    by_cases hb : b = p.1
    · rw [if_pos hb] at h
      cases h
      subst hb
      exact List.mem_cons_self ..
    · rw [if_neg hb] at h
      exact List.mem_cons_of_mem _ (ih h)

/-- all that is known of the variables is so -/
def GlobAll (NG : Nat) (w : World) (G : Tr AObj) : Prop := ∀ b o, G.get b = some o → b < NG ∧ ∃ el avs c t fz, o = .blk el true (.fix (List.length avs)) (Tr.put .nil 0 avs) ∧ w.heap[b]? = some (.cells c t fz) ∧ AV.closeds avs = true ∧ cvs eNil avs = some c.toList

theorem HR0g {P : Program} {O : List OraE} {G : Tr AObj} {w : World} (sy : Nat → Value) (hG : GlobAll P.globals.size w G) (hO : OraOk O (env0 P.globals.size w sy).sy) :
    HR (gpO P O) (env0 P.globals.size w sy) [] G.get P.globals.size w where
  dom b x hb := by
    simp only [env0] at hb
    by_cases h : b < P.globals.size
    · exact h
    · rw [if_neg h] at hb; cases hb
  live b o hb := by
    obtain ⟨hlt, el, avs, c, t, fz, rfl, hw, hcl, hc⟩ := hG b o hb
    have hlen := cvs_length hc
    refine ⟨(b, 0), by simp only [env0]; rw [if_pos hlt], c, fz, ?_, (fun h => by cases h), ?_, fun i v hv => ?_⟩
    · show w.heap[b]? = some (.cells c ((env0 P.globals.size w sy).ty b) fz)
      rw [env0_ty hw]; exact hw
    · show c.size = avs.length
      rw [← hlen]; simp
    · rw [Tr.get_put] at hv
      simp only [Nat.zero_le, Nat.zero_add, true_and, Nat.sub_zero] at hv
      by_cases hi : i < avs.length
      · rw [if_pos hi] at hv
        rw [closeds_cv eNil (env0 P.globals.size w sy) avs hcl] at hc
        obtain ⟨y, hy, hx⟩ := cvs_get hc i v hv
        exact ⟨y, hy, by simpa using hx⟩
      · rw [if_neg hi] at hv; cases hv
  inj b c o p x y hb hc hx hy hxy := by
    obtain ⟨h1, _⟩ := hG b o hb
    obtain ⟨h2, _⟩ := hG c p hc
    simp only [env0] at hx hy
    rw [if_pos h1] at hx; rw [if_pos h2] at hy
    cases hx; cases hy; exact hxy
  glob g hg := by simp only [env0]; rw [if_pos (show g < P.globals.size from hg)]
  ora := hO

theorem tran_sameg {P : Program} {G : Tr AObj} {w w' : World} {sy : Nat → Value} {e' : Env} {G' : Nat → Option AObj} {n' : Nat} (hG : GlobAll P.globals.size w G)
    (h : Tran (env0 P.globals.size w sy) G.get P.globals.size w e' G' n' w') : ∀ B, B < w.heap.size → w'.heap[B]? = w.heap[B]? := by
  intro B hB
  refine h.keep B hB ?_
  rintro ⟨b, o, x, h1, h2, _⟩
  obtain ⟨_, el, avs, c, t, fz, rfl, _⟩ := hG b o h1
  cases h2

/-- the call, at a world, of which a look of the kernel's says that it returns true -/
theorem top_trueg {P : Program} {X : XP} (ok : XPok P X) (okf : FnOk P X) (hmix : P.follows .mixedOrders = true) (hMe : MemoOk P X.ora X.memo) {n f : Nat} {G : Tr AObj} {l : List (List AV)}
    (h : chkTop X n f ⟨P.globals.size, G⟩ l = true) {w : World} (hG : GlobAll P.globals.size w G) {as : List AV} (hm : as ∈ l)
    {vs : List Value} (sy : Nat → Value) (hO : OraOk X.ora (env0 P.globals.size w sy).sy) (hvs : cvs (env0 P.globals.size w sy) as = some vs) :
    Calls P f vs.toArray w fun en w' => en = .returned (.bool true) ∧ (∀ B, B < w.heap.size → w'.heap[B]? = w.heap[B]?) ∧ ∀ may, w.keptBut w' may := by
  simp only [chkTop, Bool.and_eq_true] at h
  obtain ⟨⟨hb, hn1⟩, hc⟩ := h
  have hc := chkTrues_mem hc as hm
  simp only [chkTrue] at hc
  unfold outsTrue1 at hc
  split at hc
  · rename_i o ho
    have hB := (run_ok ok okf hmix (memoFits hMe) n).2
    obtain ⟨_, hcalls⟩ := hB [] f [] [] as ⟨P.globals.size, G⟩ o ho hb (env0 P.globals.size w sy) w [] vs [] rfl hvs rfl (HR0g sy hG hO)
    have hcalls' : Calls P f vs.toArray w (fun en w' => en ≠ .outgrown ∧ ValOut (gp P X) [] (env0 P.globals.size w sy) ⟨P.globals.size, G⟩ w o en w') := by simpa using hcalls
    refine hcalls'.mono fun en w' ⟨_, v, H', hm', e', hen, _, hT⟩ => ?_
    have hv1 : v = .bool true := outsTrue_mem hc _ hm'
    subst hv1
    obtain ⟨y, hv, rfl⟩ := endR_not hen (by simp)
    simp only [cv, Option.some.injEq] at hv
    subst hv
    exact ⟨rfl, tran_sameg hG hT, kept_same hT.os hT.output (tran_sameg hG hT)⟩
  · cases hc

section
variable {H : Type} {enc : TypeId × Value → H} {P : Program} {w : World} {base : Nat} {sp : Nat → Bool} {held : Bool} {fuel : Nat}

/-- an array of numbers, opened -/
theorem open_ints {n : Nat} {t e : TypeId} {k : IntKind} {cs : List Value} {bs : List Int} {p : List MemPlace} (ht : P.underlying t = some (.array n e)) (he : P.underlying e = some (.int k)) (hc : P.cellsOf e = 1) (ht' : P.cellsOf t = n)
    (h : DataW.trod enc P w base sp held fuel t cs = some (.agg (bs.map fun b => .lit (.int k b)), p)) : cs = bs.map (.int k) := by
  obtain ⟨xs, m, _, hx, hl, hn, hf⟩ := DataW.trod_array ht h
  simp only [Prod.mk.injEq, DataW.agg.injEq] at hx
  have hbl : bs.length = n := by
    have := congrArg List.length hx.1
    simpa [hn] using this
  refine List.ext_getElem? fun i => ?_
  by_cases hi : i < n
  · have h1 := hf i hi
    rw [hc, Nat.mul_one] at h1
    have hxi : i < xs.length := by omega
    rw [List.getElem?_eq_getElem hxi] at h1
    obtain ⟨b, hb, hxb, _⟩ := DataW.trod_int he h1
    have hbi : i < bs.length := by omega
    have h2 := congrArg (fun l => l[i]?) hx.1
    simp only [List.getElem?_map, List.getElem?_eq_getElem hxi, List.getElem?_eq_getElem hbi, Option.map_some, Option.some.injEq] at h2
    rw [hxb] at h2
    simp only [DataW.lit.injEq, Lit.int.injEq, true_and] at h2
    have h3 : cs[i]? = some (.int k b) := by
      have : (cs.drop i).take 1 = [.int k b] := hb
      have h4 := congrArg (fun l => l[0]?) this
      simpa using h4
    rw [h3, List.getElem?_map, List.getElem?_eq_getElem hbi, h2]; rfl
  · rw [List.getElem?_eq_none (by omega), List.getElem?_eq_none (by simp; omega)]
end

theorem globOne {NG : Nat} {w : World} {b el : Nat} {avs : List AV} {l : List Value} {t : TypeId} {fz : Nat × Nat} (hb : b < NG) (hw : w.heap[b]? = some (.cells l.toArray t fz)) (h1 : AV.closeds avs = true) (h2 : cvs eNil avs = some l) :
    b < NG ∧ ∃ el' avs' c t' fz', AObj.blk el true (.fix (List.length avs)) (Tr.put .nil 0 avs) = .blk el' true (.fix (List.length avs')) (Tr.put .nil 0 avs') ∧ w.heap[b]? = some (.cells c t' fz') ∧ AV.closeds avs' = true ∧ cvs eNil avs' = some c.toList :=
  ⟨hb, el, avs, l.toArray, t, fz, rfl, hw, h1, h2⟩
end
end Go.X
