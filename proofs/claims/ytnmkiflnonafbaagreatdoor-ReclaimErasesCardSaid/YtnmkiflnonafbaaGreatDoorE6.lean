/- The operations that make a block. -/
import Derived.Test.YtnmkiflnonafbaaGreatDoorE5
import Derived.Laws.Append
set_option linter.unusedVariables false
set_option linter.unusedSimpArgs false
namespace Go.X
noncomputable section
set_option linter.unusedSectionVars false
theorem zeros_length (z : List AV) (n : Nat) : (zeros z n).length = n * z.length := by
 induction n with
 | zero => simp [zeros]
 | succ n ih => simp only [zeros, List.length_append, ih]; rw [Nat.add_mul]; omega
theorem ZlG (z : List AV) : ∀ (n j : Nat), j < n * z.length → (zeros z n)[j]? = z[j % z.length]? := by
 intro n
 induction n with
 | zero => intro j h; simp at h
 | succ n ih =>
  intro j h;simp only [zeros]
  by_cases hj : j < z.length
  ·rw [List.getElem?_append_left hj, Nat.mod_eq_of_lt hj]
  ·rw [List.getElem?_append_right (by omega), ih _ (by rw [Nat.add_mul] at h; omega)]
   congr 1
   rw [← Nat.mod_eq_sub_mod (by omega)]
theorem Zka {e : Env} : ∀ (l : List AV) (xs : List Value), l.length = xs.length → (∀ (i : Nat) (a : AV), l[i]? = some a → ∃ y, cv e a = some y ∧ xs[i]? = some y) → cvs e l = some xs := by
 intro l
 induction l with
 | nil => intro xs h _; cases xs with
  | nil => rfl
  | cons x xs => simp at h
 | cons a l ih =>
  intro xs h hh;cases xs with
  | nil => simp at h
  | cons x xs =>
   obtain ⟨y, hy, hx⟩ := hh 0 a (by simp)
   simp at hx; subst hx;exact Za2 hy (ih xs (by simpa using h) (fun i b hb => by have := hh (i + 1) b (by simpa using hb); simpa using this))
theorem Zdl {e : Env} {z : List AV} {cs : Array Value} (h : cvs e z = some cs.toList) (n : Nat) :
 cvs e (zeros z n) = some ((Array.range (n * cs.size)).map (fun i => cs[i % cs.size]!)).toList := by
 have hl := Zal h;simp only [Array.length_toList] at hl;apply Zka
 ·rw [zeros_length, ← hl]; simp
 ·intro i a ha;have hi : i < n * z.length := by rw [← zeros_length]; exact (List.getElem?_eq_some_iff.1 ha).1
  rw [ZlG z n i hi] at ha;obtain ⟨y, hy, hx⟩ := Zby h _ _ ha;refine ⟨y, hy, ?_⟩;have hpos : 0 < cs.size := by
   rw [hl];rcases Nat.eq_zero_or_pos z.length with h0 | h0
   ·rw [h0] at hi; simp at hi
   ·exact h0
  have hm : i % cs.size < cs.size := Nat.mod_lt _ hpos;rw [← hl] at hx hi;simp only [Array.getElem?_toList] at hx ⊢;rw [Array.getElem?_map, Array.getElem?_range, if_pos hi];simp only [Option.map_some, Option.some.injEq];rw [getElem!_pos cs _ hm];rw [Array.getElem?_eq_getElem hm] at hx;exact Option.some.inj hx
section
variable {P : Program} {X : XP} (ok : XPok P X) (w : World) {e : Env} {L : Zag}
theorem put_get {l : List AV} {xs : List Value} (h : cvs e l = some xs) : ∀ i v, (Tr.put .nil 0 l).get i = some v → ∃ y, cv e v = some y ∧ xs.toArray[i]? = some y := by
 intro i v hv;rw [Tr.get_put] at hv
 split at hv
 ·obtain ⟨y, hy, hx⟩ := Zby h _ _ hv;exact ⟨y, hy, by simpa using hx⟩
 ·simp at hv
theorem Zdm {w' : World} {c : Array Value} {el : TypeId} {nid κ : Nat} {sz : Sz} {cells : Tr AV} (hheap : w'.heap = w.heap.push (.cells c el (0, 0))) (hsz : Zo0 κ c.size sz)
 (hc : ∀ i v, cells.get i = some v → ∃ y, cv e v = some y ∧ c[i]? = some y) : Zdx e L nid (w.heap.size, κ) w' (.blk el false sz cells) :=
 ⟨c, (0, 0), by rw [hheap]; simp [Env.elR], fun _ => rfl, hsz, hc⟩
include ok in
theorem ZeK {ev : Operand → Option AV} {ρ : Operand → Value} (hev : Ze9 e ev ρ) (o : Oper) {nid : Nat} {v : AV} {ob : AObj} (h : ZcQ X ev nid o.op = some (v, ob)) (hn : e.f nid = none) :
 ∃ y w' obj, (execOp ρ o).run P w = .ok (.value y) w' ∧ w'.heap = w.heap.push obj ∧ w'.os = w.os ∧ w'.tape = w.tape ∧ w'.output = w.output ∧
  cv (e.ext nid (w.heap.size, 0)) v = some y ∧ Zdx (e.ext nid (w.heap.size, 0)) L nid (w.heap.size, 0) w' ob ∧ ob.wr = true := by
 have hle := Env.le_ext hn (w.heap.size, 0);have hfr : ∀ {b : Nat × Nat}, (e.ext nid b).f nid = some b := fun {b} => Env.ext_same _ _ _
 unfold ZcQ at h
 split at h
 ·rename_i t ho;cases ht : X.tys.get t with
  | none => rw [ht] at h; simp [ZhS] at h
  | some ti =>
   rw [ht] at h;simp only [ZhS, Option.some.injEq, Prod.mk.injEq] at h;obtain ⟨rfl, rfl⟩ := h;have hk := ok.tys t ti ht;obtain ⟨z, hz, hzc, _⟩ := ZaT w hk e;have hzl : z.cells.size = ti.size := by have := Zal hzc; simp at this; rw [this, hk.len]
   refine ⟨.pointer (some ⟨w.heap.size, 0, none⟩), { w with heap := w.heap.push (.cells z.cells t) }, .cells z.cells t, ?_, rfl, rfl, rfl, rfl, by simp only [cv, hfr], Zdm w rfl hzl ?_, rfl⟩
   ·simp only [execOp, ho, Instr.alloc, Sem.run_bind, hz, Result.andThen_ok, newVar, newRow, run_newObj, Sem.run_pure]
   ·have := put_get (ZbL hle _ _ hzc);simpa using this
 ·rename_i t x ho;cases hx : ev x with
  | none => rw [hx] at h; simp [ZoK] at h
  | some vx =>
   rw [hx] at h;simp only [ZoK, Zaw] at h;cases hc : vx.cells.all AV.isCell with
   | false => rw [hc] at h; cases h
   | true =>
    rw [hc] at h; simp only [cond_true, Option.some.injEq, Prod.mk.injEq] at h;obtain ⟨rfl, rfl⟩ := h;have hcv := hev _ _ hx;have hcells := Zgd hcv (fun i hi => by subst hi; simp [AV.cells, AV.isCell] at hc)
    have hl := Zal hcells;refine ⟨.pointer (some ⟨w.heap.size, 0, none⟩), { w with heap := w.heap.push (.cells (ρ x).cells t) }, .cells (ρ x).cells t, ?_, rfl, rfl, rfl, rfl, by simp only [cv, hfr], Zdm w rfl (by simp only [Zo0]; simpa using hl) ?_, rfl⟩
    ·simp only [execOp, ho, Instr.box, Sem.run_bind, Result.andThen_ok, newVar, newRow, run_newObj, Sem.run_pure]
    ·have := put_get (ZbL hle _ _ hcells);simpa using this
 ·rename_i t len parts ho;unfold Zk1 at h
  split at h
  ·rename_i el size bytes zero cmp ps ht hp;have hk := ok.tys t _ ht;have hu := Zay hk rfl;cases hel : X.tys.get el with
   | none => rw [hel] at h; simp [ZfS] at h
   | some ei =>
    rw [hel] at h;simp only [ZfS, Zaw] at h;cases hc : (Nat.ble (len * ei.size) 16777216 && ps.all (fun p => p.2.cells.all AV.isCell)) with
    | false => rw [hc] at h; cases h
    | true =>
     rw [hc] at h; simp only [cond_true] at h;simp only [Bool.and_eq_true] at hc;have hle24 := Zak hc.1;have hke := ok.tys el ei hel;cases hf : Zfb (Zc7 ei.size (len * ei.size)) (Tr.put .nil 0 (zeros ei.zero len)) ps with
     | none => rw [hf] at h; simp [ZfR] at h
     | some c =>
      rw [hf] at h;simp only [ZfR, Option.some.injEq, Prod.mk.injEq] at h;obtain ⟨rfl, rfl⟩ := h;obtain ⟨z, hz, hzc, _⟩ := ZaT w hke e;have hzl : z.cells.size = ei.size := by have := Zal hzc; simp at this; rw [this, hke.len]
      obtain ⟨qs, hqs, hp1, hp2⟩ := Zd5 hev hp;have hqs' : (parts.map fun (i, x) => (i, ρ x)).toList = qs := by rw [hqs]; simp
      have hzeros := Zdl hzc len;rw [hzl] at hzeros;have hinit := ZlF hzeros;rw [zeros_length, hke.len] at hinit;simp only [Array.toArray_toList] at hinit
      obtain ⟨cells, h1, h2, h3, h4⟩ := Zjj (place := fun i => some (i * ei.size, ei.size)) (n := len * ei.size) (fun i off size hi => by
       simp only [Zc7, Zaw] at hi;cases hb : Nat.ble ((i + 1) * ei.size) (len * ei.size) with
       | false => rw [hb] at hi; cases hi
       | true =>
        rw [hb] at hi; simp only [cond_true, Option.some.injEq, Prod.mk.injEq] at hi;obtain ⟨rfl, rfl⟩ := hi;have := Zak hb;refine ⟨rfl, ?_⟩
        rw [Nat.add_mul] at this; omega) ps qs _ c _ hp1 hp2 (by simp) hinit (Zjl (by rw [zeros_length, hke.len]; exact Nat.le_refl _)) hf
      refine ⟨.slice (some ⟨w.heap.size, 0, none⟩) len len, { w with heap := w.heap.push (.cells cells el) }, .cells cells el, ?_, rfl, rfl, rfl, rfl, by simp only [cv, hfr, Cap.val], Zdm w rfl h2 ?_, rfl⟩
      ·simp only [execOp, ho];have hn24 : ¬ (len * ei.size > 2 ^ 24) := by omega
       by_cases h0 : len * ei.size = 0
       ·have hcells0 : (Array.range (len * ei.size)).map (fun i => z.cells[i % ei.size]!) = (Array.range (len * ei.size)).map (fun i => (#[] : Array Value)[i % (#[] : Array Value).size]!) := by rw [h0]; simp
        rw [hcells0] at h1;simp only [Instr.buildSlice, Sem.run_bind, run_underlying hu, Result.andThen_ok, Zae w hke, if_neg hn24, Sem.run_ite, if_pos h0, Sem.run_pure, hqs', h1, newRow, run_newObj]
       ·simp only [Instr.buildSlice, Sem.run_bind, run_underlying hu, Result.andThen_ok, Zae w hke, if_neg hn24, Sem.run_ite, if_neg h0, hz, Sem.run_pure, hqs', hzl, h1, newRow, run_newObj]
      ·intro i a ha
       by_cases hi : i < len * ei.size
       ·obtain ⟨a', y, g1, g2, g3⟩ := h3 i hi;rw [ha] at g1; cases g1;exact ⟨y, ZjX hle _ _ g2, g3⟩
       ·rw [h4 i (by omega)] at ha; cases ha
  ·cases h
 ·rename_i t l c ho;unfold Zn9 at h
  split at h
  ·rename_i el size bytes zero cmp k1 l' k2 c' ht hl hc;have hk := ok.tys t _ ht;have hu := Zay hk rfl;cases hel : X.tys.get el with
   | none => rw [hel] at h; simp [ZhT] at h
   | some ei =>
    rw [hel] at h;simp only [ZhT, Zaw] at h;cases hcc : (Nat.ble l' c' && Nat.blt c' 1048576 && Nat.ble ei.bytes 1048576 && Nat.blt 0 ei.size) with
    | false => rw [hcc] at h; cases h
    | true =>
     rw [hcc] at h; simp only [cond_true, Option.some.injEq, Prod.mk.injEq] at h;obtain ⟨rfl, rfl⟩ := h;simp only [Bool.and_eq_true] at hcc;have g1 := Zak hcc.1.1.1; have g2 := ZaF hcc.1.1.2; have g3 := Zak hcc.1.2; have g4 := ZaF hcc.2;have hke := ok.tys el ei hel;obtain ⟨z, hz, hzc, _⟩ := ZaT w hke e;have hzl : z.cells.size = ei.size := by have := Zal hzc; simp at this; rw [this, hke.len]
     obtain ⟨inf, hinf, hib⟩ := Zg1 w hke;have hzeros := Zdl hzc c';rw [hzl] at hzeros;have hl' := Za8 (hev _ _ hl);have hc' := Za8 (hev _ _ hc);have hwl : IntKind.i64.wrap (Int.ofNat l') = (l' : Int) := by rw [Zb9]; simp [ZjG, ZbX]; omega
     have hwc : IntKind.i64.wrap (Int.ofNat c') = (c' : Int) := by rw [Zb9]; simp [ZjG, ZbX]; omega
     refine ⟨.slice (some ⟨w.heap.size, 0, none⟩) l' c', { w with heap := w.heap.push (.cells ((Array.range (c' * ei.size)).map (fun i => z.cells[i % ei.size]!)) el) }, .cells ((Array.range (c' * ei.size)).map (fun i => z.cells[i % ei.size]!)) el, ?_, rfl, rfl, rfl, rfl, by simp only [cv, hfr, Cap.val], Zdm w rfl (by simp [Zo0]) ?_, rfl⟩
     ·have hbytes : (ei.bytes : Int) * (c' : Int) ≤ 1048576 * 1048576 := by
       have : ei.bytes * c' ≤ 1099511627776 := Nat.le_trans (Nat.mul_le_mul g3 (Nat.le_of_lt g2)) (by decide)
       rw [← Int.natCast_mul]; omega
      have htl : (decide ((c' : Int) < 0) || decide ((ei.bytes : Int) * (c' : Int) > 2 ^ 48)) = false := by simp; omega
      simp only [execOp, ho]
      by_cases h0 : c' * ei.size = 0
      ·have hc0 : c' = 0 := by
        rcases Nat.mul_eq_zero.1 h0 with h | h
        ·exact h
        ·omega
       subst hc0;have hl0 : l' = 0 := by omega
       subst hl0;simp [Instr.makeSlice, run_underlying hu, hl', hc', asInt, asIntOf, hinf, Zae w hke, newRow, IntKind.wrap, IntKind.bits, IntKind.signed];have h00 : Array.range 0 = #[] := rfl;rw [h00]; simp
      ·simp only [Instr.makeSlice, Sem.run_bind, run_underlying hu, Result.andThen_ok, hl', hc', asInt, asIntOf, Sem.run_pure, hinf, hib, hwl, hwc, htl, Bool.false_or];have hn1 : ¬ ((decide ((l' : Int) < 0) || decide ((l' : Int) > (c' : Int))) = true) := by simp; omega
       simp only [if_neg hn1, Sem.run_bind, run_askRoom, Result.andThen_ok, Int.toNat_natCast, Zae w hke, if_neg h0, Sem.run_ite, hz, Sem.run_pure, newRow, run_newObj, hzl]
     ·intro i a ha;obtain ⟨y, hy, hx⟩ := put_get (ZbL hle _ _ hzeros) i a ha;rw [Array.toArray_toList] at hx;exact ⟨y, hy, hx⟩
  ·cases h
 ·rename_i t x ho;unfold Zk2 at h
  split at h
  ·rename_i size bytes zero cmp s ht hx;simp only [Option.some.injEq, Prod.mk.injEq] at h;obtain ⟨rfl, rfl⟩ := h;have hu := Zdj (ok.tys t _ ht) rfl;obtain ⟨_, hρ⟩ := Zbh (hev _ _ hx);refine ⟨.pointer (some ⟨w.heap.size, 0, none⟩), { w with heap := w.heap.push (.stringIter (bytesOf s) 0) }, .stringIter (bytesOf s) 0, ?_, rfl, rfl, rfl, rfl, by simp only [cv, hfr], by simp [Zdx], rfl⟩
   simp only [execOp, ho, Instr.range, hρ, Sem.run_bind, run_underlying hu, Result.andThen_ok, Sem.run_pure, run_newObj]
  ·cases h
 ·cases h
end
end
end Go.X

/- Append. -/
namespace Go.X
noncomputable section
set_option linter.unusedSectionVars false
section
variable {P : Program} {X : XP} (ok : XPok P X) (w : World) {e : Env} {L : Zag} {H : AHeap} {nx NG : Nat} (hH : HR NG e L H.objs.get nx w)
inductive Src (P : Program) (w : World) (ts : Array TypeId) (size : Nat) (el : TypeId) (x : Value) (n : Nat) (ys : List Value) : Prop where
 | zeros (u : TypeId) (k k' : IntKind) (h1 : ts[1]? = some u) (hu : P.underlying u = some (.int k)) (hx : x = .int k' (n : Int)) (hn : n < 1048576) (z : Value) (hz : ∀ W : World, (zeroValue el).run P W = .ok z W)
    (i : TypeInfo) (hi : ∀ W : World, (typeInfo el).run P W = .ok i W) (hb : i.bytes ≤ 1048576) (hy0 : n * size = 0 → ys = []) (hy1 : n * size ≠ 0 → (Builtin.zeroCells z.cells n).toList = ys)
 | cells (u : TypeId) (d : TypeDesc) (h1 : ts[1]? = some u) (hu : P.underlying u = some d) (hd : (∃ e', d = .slice e') ∨ d = .string) (hl : ∀ W : World, (Builtin.lenOf x).run P W = .ok n W)
    (hc : ∀ W : World, W.heap = w.heap → (Builtin.firstCells size n x).run P W = .ok ys.toArray W)
theorem ZcY {ts : Array TypeId} {t el ty : TypeId} {ei : TyI} (h0 : ts[0]? = some t) (hu : P.underlying t = some (.slice el)) (hke : TyOk P el ei) {x : Value} {n : Nat} {ys : List Value}
 (hsrc : Src P w ts ei.size el x n ys) {base : Option Addr} {sLen sCap : Nat} (hfit : sLen + n ≤ sCap) :
 (Builtin.append_ ts ty #[.slice base sLen sCap, x]).run P w =
   match base with
   | some a => ((storeCells (a.add (sLen * ei.size)) ys).run P w).andThen fun _ w' => .ok (.slice base (sLen + n) sCap) w'
   | none => .ok (.slice none (sLen + n) sCap) w := by
 have hsz := fun W => Zae (P := P) W hke
 cases hsrc with
 | cells u d h1 hud hd hl hc =>
  rcases hd with ⟨e', rfl⟩ | rfl
  all_goals
   simp only [Builtin.append_, h0, h1, List.getElem?_toArray, List.getElem?_cons_zero, List.getElem?_cons_succ, Sem.run_bind, run_underlying hu, run_underlying hud, Result.andThen_ok, hsz, Bool.false_eq_true, if_false, hl, Bool.not_false, if_true, Sem.run_ite, if_pos hfit, hc w rfl, Sem.run_pure];cases base <;> simp
 | zeros u k k' h1 hud hx hn z hzv i hi hib hy0 hy1 =>
  subst hx;have hwn : IntKind.i64.wrap (n : Int) = (n : Int) := by rw [Zb9]; simp [ZjG, ZbX]; omega
  have hb : ¬ ((n : Int) * (i.bytes : Int) > 2 ^ 48) := by
   have : n * i.bytes ≤ 1099511627776 := Nat.le_trans (Nat.mul_le_mul (Nat.le_of_lt hn) hib) (by decide)
   rw [← Int.natCast_mul]; omega
  have hneg : ¬ ((n : Int) < 0) := by omega
  simp only [Builtin.append_, h0, h1, List.getElem?_toArray, List.getElem?_cons_zero, List.getElem?_cons_succ, Sem.run_bind, run_underlying hu, run_underlying hud, Result.andThen_ok, hsz, if_true, asInt, asIntOf, Sem.run_pure, hwn, if_neg hneg, hi, if_neg hb, Int.toNat_natCast, Bool.not_true, Bool.false_eq_true, if_false, if_pos hfit]
  by_cases h00 : n * ei.size = 0
  ·simp only [if_pos h00, Sem.run_pure, Result.andThen_ok, hy0 h00];cases base <;> simp
  ·simp only [if_neg h00, Sem.run_bind, hzv, Result.andThen_ok, Sem.run_pure, hy1 h00];cases base <;> simp
theorem Zha {ts : Array TypeId} {t el ty : TypeId} {ei : TyI} (h0 : ts[0]? = some t) (hu : P.underlying t = some (.slice el)) (hke : TyOk P el ei) {x : Value} {n : Nat} {ys : List Value}
 (hsrc : Src P w ts ei.size el x n ys) {base : Option Addr} {sLen sCap : Nat} (hgrow : ¬ sLen + n ≤ sCap) (hsmall : sLen + n < 1048576) (hbytes : ei.bytes ≤ 1048576) {old : List Value}
 (hold : ∀ W : World, W.heap = w.heap → (Builtin.firstCells ei.size sLen (.slice base sLen sCap)).run P W = .ok old.toArray W) :
 ∃ (newCap : Nat) (rest : Array Value), sLen + n ≤ newCap ∧ rest.size = (newCap - (sLen + n)) * ei.size ∧
  (Builtin.append_ ts ty #[.slice base sLen sCap, x]).run P w =
    .ok (.slice (some ⟨w.heap.size, 0, none⟩) (sLen + n) newCap) { w with drawn := w.drawn + 1, heap := w.heap.push (.cells (old.toArray ++ ys.toArray ++ rest) el) } := by
 have hsz := fun W => Zae (P := P) W hke
 obtain ⟨inf, hinf, hs1, hs2, z0, hz0, hzc0⟩ := hke.info;have hti : ∀ W : World, (typeInfo el).run P W = .ok inf W := fun W => Zax W hinf
 have hzv0 : ∀ W : World, (zeroValue el).run P W = .ok z0 W := fun W => by simp [zeroValue, hti, hz0]
 have hz0l : z0.cells.size = ei.size := by
  have := Zal (Zbc ⟨fun _ => none, fun _ => .nilFunc⟩ hzc0).1
  simp at this; rw [this, hke.len]
 have hlt : sCap < sLen + n := by omega
 have hncap := nextslicecap_le hlt;have hmul : Builtin.nextslicecap (sLen + n) sCap * inf.bytes ≤ 2199023255552 := by
  rw [hs2];exact Nat.le_trans (Nat.mul_le_mul (Nat.le_trans hncap (show 2 * (sLen + n) ≤ 2097152 by omega)) hbytes) (by decide)
 have hn1 : ∀ q : Prop, ¬ (((sLen + n : Nat) : Int) > IntKind.i64.max ∧ q) := by
  intro q h; have := h.1; simp [IntKind.max, IntKind.signed, IntKind.bits] at this; omega
 have hn2 : ¬ (Builtin.nextslicecap (sLen + n) sCap * inf.bytes > 2 ^ 48) := by omega
 refine ⟨sLen + n + w.tape w.drawn (.appendCap (sLen + n) sCap el) % (2 ^ 63 - (sLen + n)), Builtin.zeroCells z0.cells (sLen + n + w.tape w.drawn (.appendCap (sLen + n) sCap el) % (2 ^ 63 - (sLen + n)) - (sLen + n)), by omega, by simp [Builtin.zeroCells, hz0l], ?_⟩
 have hask : ∀ m, (askRoom m).run P = fun W => .ok () W := fun m => by funext W; simp
 cases hsrc with
 | cells u d h1 hud hd hl hc =>
  rcases hd with ⟨e', rfl⟩ | rfl
  all_goals
   simp only [Builtin.append_, h0, h1, List.getElem?_toArray, List.getElem?_cons_zero, List.getElem?_cons_succ, Sem.run_bind, run_underlying hu, run_underlying hud, Result.andThen_ok, hsz, Bool.false_eq_true, if_false, hl, Bool.not_false, if_true, Sem.run_ite, if_neg hgrow, hti, Sem.run_pure, if_neg (hn1 _), if_neg hn2, run_choose, Question.forced, Question.cut, hask];rw [hold { w with drawn := w.drawn + 1 } rfl]
   simp only [Result.andThen_ok];rw [hc { w with drawn := w.drawn + 1 } rfl]
   simp only [Result.andThen_ok, hzv0, newRow, Sem.run_bind, run_newObj, Sem.run_pure]
 | zeros u k k' h1 hud hx hn z hzv i hi hib hy0 hy1 =>
  subst hx;have hwn : IntKind.i64.wrap (n : Int) = (n : Int) := by rw [Zb9]; simp [ZjG, ZbX]; omega
  have hb : ¬ ((n : Int) * (i.bytes : Int) > 2 ^ 48) := by
   have : n * i.bytes ≤ 1099511627776 := Nat.le_trans (Nat.mul_le_mul (Nat.le_of_lt hn) hib) (by decide)
   rw [← Int.natCast_mul]; omega
  have hneg : ¬ ((n : Int) < 0) := by omega
  have hii : i = inf := by have h1 := hi w; rw [hti w] at h1; injection h1 with h1; exact h1.symm
  subst hii;simp only [Builtin.append_, h0, h1, List.getElem?_toArray, List.getElem?_cons_zero, List.getElem?_cons_succ, Sem.run_bind, run_underlying hu, run_underlying hud, Result.andThen_ok, hsz, if_true, asInt, asIntOf, Sem.run_pure, hwn, if_neg hneg, hi, if_neg hb, Int.toNat_natCast, Bool.not_true, Bool.false_eq_true, if_false, if_neg hgrow, if_neg (hn1 _), if_neg hn2, run_choose, Question.forced, Question.cut, hask];rw [hold { w with drawn := w.drawn + 1 } rfl]
  by_cases h00 : n * ei.size = 0
  ·simp only [if_pos h00, Sem.run_pure, Result.andThen_ok, hy0 h00, hzv0, newRow, Sem.run_bind, run_newObj]
  ·simp only [if_neg h00, Sem.run_bind, hzv, Result.andThen_ok, Sem.run_pure, ← hy1 h00, newRow, run_newObj, Array.toArray_toList];have hzz : z = z0 := by have h1 := hzv w; rw [hzv0 w] at h1; injection h1 with h1; exact h1.symm
   rw [hzz]
end
end
end Go.X

/- The operations that write memory. -/
namespace Go.X
noncomputable section
set_option linter.unusedSectionVars false
theorem HR.rebind {NG : Nat} {e : Env} {L : Zag} {G : Nat → Option AObj} {n : Nat} {w w' : World} {b nid : Nat} {o o' : AObj} {x : Nat × Nat} (h : HR NG e L G n w)
 (hb : G b = some o) (hx : e.f b = some x) (hn : e.f nid = none) (hlt : nid < n) (hsame : ∀ B, B ≠ x.1 → w'.heap[B]? = w.heap[B]?) (ho : Zdx (e.ext nid x) L nid x w' o') :
 HR NG (e.ext nid x) L (X.upd (X.upd G b none) nid (some o')) n w' := by
 have hle := Env.le_ext hn x;have hG : G nid = none := by
  cases hg : G nid with
  | none => rfl
  | some p => obtain ⟨y, hy, _⟩ := h.live nid p hg; rw [hn] at hy; cases hy
 have hold : ∀ c p, c ≠ nid → X.upd (X.upd G b none) nid (some o') c = some p → c ≠ b ∧ G c = some p := by
  intro c p e1 hc;rw [upd_ne _ _ e1] at hc
  by_cases e2 : c = b
  ·subst e2; rw [upd_same] at hc; cases hc
  ·rw [upd_ne _ _ e2] at hc; exact ⟨e2, hc⟩
 refine ⟨?_, ?_, ?_, fun g hg => hle.1 _ _ (h.glob g hg)⟩
 ·intro c y hc
  by_cases e1 : c = nid
  ·subst e1; exact hlt
  ·rw [Env.ext_ne _ _ e1] at hc; exact h.dom c y hc
 ·intro c p hc
  by_cases e1 : c = nid
  ·subst e1; rw [upd_same] at hc; cases hc; exact ⟨x, Env.ext_same _ _ _, ho⟩
  ·obtain ⟨e2, hc'⟩ := hold c p e1 hc;obtain ⟨y, hy, hO⟩ := h.live c p hc';exact ⟨y, hle.1 _ _ hy, hO.keep hle (hsame _ fun he => e2 (h.inj c b p o y x hc' hb hy hx he)) rfl⟩
 ·intro c d p q y z hc hd hy hz hyz
  by_cases e1 : c = nid
  ·by_cases e2 : d = nid
   ·rw [e1, e2]
   ·obtain ⟨e3, hd'⟩ := hold d q e2 hd;rw [Env.ext_ne _ _ e2] at hz;subst e1; rw [Env.ext_same] at hy; cases hy;exact absurd (h.inj d b q o z x hd' hb hz hx hyz.symm) e3
  ·obtain ⟨e3, hc'⟩ := hold c p e1 hc;rw [Env.ext_ne _ _ e1] at hy
   by_cases e2 : d = nid
   ·subst e2; rw [Env.ext_same] at hz; cases hz;exact absurd (h.inj c b p o y x hc' hb hy hx hyz) e3
   ·obtain ⟨e4, hd'⟩ := hold d q e2 hd;rw [Env.ext_ne _ _ e2] at hz;exact h.inj c d p q y z hc' hd' hy hz hyz
theorem Tran.rebind {e : Env} {G : Nat → Option AObj} {n0 n : Nat} {w w' : World} {b nid : Nat} {o o' : AObj} {x : Nat × Nat}
 (hb : G b = some o) (hx : e.f b = some x) (hw : o.wr = true) (hw' : o'.wr = true) (hn : e.f nid = none) (h0 : n0 ≤ nid) (hn0 : n0 ≤ n) (hsame : ∀ B, B ≠ x.1 → w'.heap[B]? = w.heap[B]?) (hsz : w'.heap.size = w.heap.size)
 (hos : w'.os = w.os) (htp : w'.tape = w.tape) (hout : w'.output = w.output) : Tran e G n0 w (e.ext nid x) (X.upd (X.upd G b none) nid (some o')) n w' where
 le := Env.le_ext hn x
 old c hc := Env.ext_ne _ _ (by omega)
 nx := hn0
 size := by omega
 keep B _ hf := hsame B fun he => hf ⟨b, o, x, hb, hw, hx, he.symm⟩
 foot B hf _ := by
  obtain ⟨c, p, y, hc, hp, hy, he⟩ := hf
  by_cases e1 : c = nid
  ·subst e1; rw [Env.ext_same] at hy; cases hy; exact ⟨b, o, x, hb, hw, hx, he⟩
  ·rw [upd_ne _ _ e1] at hc; rw [Env.ext_ne _ _ e1] at hy
   by_cases e2 : c = b
   ·subst e2; rw [upd_same] at hc; cases hc
   ·rw [upd_ne _ _ e2] at hc; exact ⟨c, p, y, hc, hp, hy, he⟩
 ro c p hc hp := by
  by_cases e1 : c = nid
  ·subst e1; rw [upd_same] at hc; cases hc; rw [hw'] at hp; cases hp
  ·rw [upd_ne _ _ e1] at hc
   by_cases e2 : c = b
   ·subst e2; rw [upd_same] at hc; cases hc
   ·rw [upd_ne _ _ e2] at hc; exact ⟨p, hc, hp⟩
 os := hos
 tape := htp
 output := hout
theorem ZlH {P : Program} {w : World} {B off : Nat} {c : Array Value} {el : TypeId} {fz : Nat × Nat} {xs : List Value} (h1 : w.heap[B]? = some (.cells c el fz))
 (h2 : fz = (0, 0)) (hin : off + xs.length ≤ c.size) (hone : ∀ x ∈ xs, x.oneCell' = true) :
 ∃ w', (storeCells ⟨B, off, none⟩ xs).run P w = .ok () w' ∧ w'.heap[B]? = some (.cells (Zce c off xs) el fz) ∧ (∀ B', B' ≠ B → w'.heap[B']? = w.heap[B']?) ∧ w'.heap.size = w.heap.size ∧
  w'.os = w.os ∧ w'.tape = w.tape ∧ w'.output = w.output := by
 have hrun := run_storeCells_cells (P := P) B off xs 0 w
  (fun j hj => by simp only [World.cell?, h1, Nat.add_zero]; simp; omega)
  (fun j hj => by simp [World.frozen?, h1, h2]) hone
 simp only [Nat.add_zero] at hrun;obtain ⟨g1, g2, g3, g4, g5, g6⟩ := Zdh B el fz xs off w c h1;exact ⟨_, hrun, g1, g2, g3, g4, g5, g6⟩
section
variable {P : Program} {X : XP} (ok : XPok P X) (w : World) {e : Env} {L : Zag} {H : AHeap} {nx NG : Nat} (hH : HR NG e L H.objs.get nx w)
include ok hH in
theorem ZeL {ts : Array TypeId} {t el ty : TypeId} {ei : TyI} (h0 : ts[0]? = some t) (hu : P.underlying t = some (.slice el)) (hel : X.tys.get el = some ei) {x : Value} {n : Nat} {xs : List AV} {ys : List Value}
 (hxs : cvs e xs = some ys) (hlen : ys.length = n * ei.size) (hsrc : Src P w ts ei.size el x n ys) {s v : AV} {vs : Value} (hs : cv e s = some vs) {nid n0 : Nat} {H' : AHeap}
 (hok : ZoL ei n (ZfT s) = true) (h : ZfV H nid el ei.size n xs s = some (v, H')) (hn : e.f nid = none) (hlt : nid < nx) (hn0 : n0 ≤ nid) :
 ∃ e' y w', (Builtin.append_ ts ty #[vs, x]).run P w = .ok y w' ∧ cv e' v = some y ∧ HR NG e' L H'.objs.get nx w' ∧ Tran e H.objs.get n0 w e' H'.objs.get nx w' ∧ H'.next = H.next := by
 have hke := ok.tys el ei hel;have hGn : H.objs.get nid = none := by
  cases hg : H.objs.get nid with
  | none => rfl
  | some p => obtain ⟨y, hy, _⟩ := hH.live nid p hg; rw [hn] at hy; cases hy
 have hokk : ∃ l, ZfT s = some l ∧ l + n < 1048576 ∧ ei.bytes ≤ 1048576 ∧ 0 < ei.size := by
  unfold ZoL at hok;cases hl : ZfT s with
  | none => rw [hl] at hok; cases hok
  | some l =>
   rw [hl] at hok;simp only [Bool.and_eq_true] at hok;exact ⟨l, rfl, ZaF hok.1.1, Zak hok.1.2, ZaF hok.2⟩
 obtain ⟨l, hl, hsmall, hbytes, hpos⟩ := hokk;have grown : ∀ {H0 : AHeap} {base : Option Addr} {sLen sCap : Nat} {olds : List AV} {old : List Value} {v : AV} {H' : AHeap}, vs = .slice base sLen sCap → sLen + n < 1048576 → ¬ sLen + n ≤ sCap → cvs e olds = some old → old.length = sLen * ei.size →
  (∀ W : World, W.heap = w.heap → (Builtin.firstCells ei.size sLen (.slice base sLen sCap)).run P W = .ok old.toArray W) → Sub H0.objs.get H.objs.get → H0.next = H.next →
  ZcR H0 nid el ei.size (sLen + n) (olds ++ xs) = some (v, H') →
  ∃ e' y w', (Builtin.append_ ts ty #[vs, x]).run P w = .ok y w' ∧ cv e' v = some y ∧ HR NG e' L H'.objs.get nx w' ∧ Tran e H.objs.get n0 w e' H'.objs.get nx w' ∧ H'.next = H.next := by
  intro H0 base sLen sCap olds old v H' hvs hsm hgrow hold hol hrun hsub hnx hh;simp only [ZcR, Zaw] at hh;cases hc : (olds ++ xs).all AV.isCell with
  | false => rw [hc] at hh; cases hh
  | true =>
   rw [hc] at hh; simp only [cond_true, Option.some.injEq, Prod.mk.injEq] at hh;obtain ⟨rfl, rfl⟩ := hh;obtain ⟨newCap, rest, g1, g2, g3⟩ := Zha w (ty := ty) h0 hu hke hsrc hgrow hsm hbytes hrun;have hle := Env.le_ext hn (w.heap.size, newCap);have hall := ZcC hold hxs;have hO : Zdx (e.ext nid (w.heap.size, newCap)) L nid (w.heap.size, newCap) { w with drawn := w.drawn + 1, heap := w.heap.push (.cells (old.toArray ++ ys.toArray ++ rest) el) } (.blk el false (.opn (sLen + n) none ei.size) (Tr.put .nil 0 (olds ++ xs))) := by
    refine Zdm w rfl ⟨?_, g1, fun _ h => by cases h⟩ ?_
    ·simp only [Array.size_append, List.size_toArray, hol, hlen, g2];rw [← Nat.add_mul, ← Nat.add_mul, Nat.mul_comm ei.size]
     congr 1; omega
    ·intro i a ha;obtain ⟨y, hy, hx⟩ := put_get (ZbL hle _ _ hall) i a ha;refine ⟨y, hy, ?_⟩;have hi : i < (old ++ ys).length := by
      rcases Nat.lt_or_ge i (old ++ ys).length with h | h
      ·exact h
      ·simp [List.getElem?_eq_none h] at hx
     have : old.toArray ++ ys.toArray = (old ++ ys).toArray := by simp
     rw [this, Array.getElem?_append_left (by simpa using hi)]; exact hx
   refine ⟨e.ext nid (w.heap.size, newCap), _, _, by rw [hvs]; exact g3, by simp only [cv, Env.ext_same, Cap.val, Nat.sub_zero], ?_, ?_, ?_⟩
   ·show HR NG _ L (H0.objs.set nid _).get nx _;rw [Zad];exact HR.alloc (hH.weaken hsub) hn hlt rfl hO
   ·show Tran e H.objs.get n0 w _ (H0.objs.set nid _).get nx _;rw [Zad];refine Tran.from_sub ?_ hsub;exact Tran.alloc (w := w) (ob := .cells (old.toArray ++ ys.toArray ++ rest) el) hn hn0 (by omega) rfl rfl rfl rfl rfl
   ·exact hnx
 have firstOld : ∀ {b off len : Nat} {olds : List AV} {x : Nat × Nat} {c : Nat}, ZaM H b off (len * ei.size) = some olds → e.f b = some x →
  ∃ old, cvs e olds = some old ∧ old.length = len * ei.size ∧ ∀ W : World, W.heap = w.heap → (Builtin.firstCells ei.size len (.slice (some ⟨x.1, off, none⟩) len c)).run P W = .ok old.toArray W := by
  intro b off len olds x c hg hx;obtain ⟨x', os, hx', hos, hol, hcell⟩ := Za9 hH hg;rw [hx] at hx'; cases hx';refine ⟨os, hos, hol, fun W hW => ?_⟩
  have hr := run_loadCells_list (P := P) W ⟨x.1, off, none⟩ os (fun j u hj => by
   rw [ZaE];have := hcell j u hj;simp only [World.cell?] at this ⊢
   rw [hW]; exact this)
  rw [hol] at hr;simp only [Builtin.firstCells, hr]
 have fits : ∀ {b off len : Nat} {cap : Cap} {v : AV} {H' : AHeap} {x0 : Nat × Nat}, e.f b = some x0 → vs = .slice (some ⟨x0.1, off, none⟩) len (cap.val x0.2) → len + n ≤ cap.val x0.2 →
  ZgL b off (len + n) cap (putCells H b (off + len * ei.size) xs) = some (v, H') →
  ∃ e' y w', (Builtin.append_ ts ty #[vs, x]).run P w = .ok y w' ∧ cv e' v = some y ∧ HR NG e' L H'.objs.get nx w' ∧ Tran e H.objs.get n0 w e' H'.objs.get nx w' ∧ H'.next = H.next := by
  intro b off len cap v H' x0 hx0 hvs hfit hh;cases hp : putCells H b (off + len * ei.size) xs with
  | none => rw [hp] at hh; simp [ZgL] at hh
  | some H1 =>
   rw [hp] at hh;simp only [ZgL, Option.some.injEq, Prod.mk.injEq] at hh;obtain ⟨rfl, rfl⟩ := hh;obtain ⟨x', w', hx', hrun, hHR, hT, hnx⟩ := ZbM (P := P) hH hp hxs;rw [hx0] at hx'; cases hx';refine ⟨e, .slice (some ⟨x0.1, off, none⟩) (len + n) (cap.val x0.2), w', ?_, by simp only [cv, hx0], hHR, { hT with old := fun _ _ => rfl, nx := by omega }, hnx⟩
   rw [hvs, ZcY w h0 hu hke hsrc hfit];simp only [ZaE, hrun, Result.andThen_ok]
 unfold ZfV at h
 split at h
 ·simp only [cv, Option.some.injEq] at hs;simp only [ZfT, Option.some.injEq] at hl; subst hl;simp only [Zaw] at h;cases hb : Nat.beq n 0 with
  | true =>
   have hn0' := Zab hb;rw [hb] at h; simp only [cond_true, Option.some.injEq, Prod.mk.injEq] at h;obtain ⟨rfl, rfl⟩ := h;subst hn0';refine ⟨e, .slice none 0 0, w, ?_, rfl, hH, { Tran.refl e H.objs.get nx w with old := fun _ _ => rfl, nx := by omega }, rfl⟩
   rw [← hs, ZcY w h0 hu hke hsrc (Nat.le_refl _)]
  | false =>
   rw [hb] at h; simp only [cond_false] at h;have hne : n ≠ 0 := fun h => by subst h; cases hb
   exact grown (H0 := H) (olds := []) (old := []) hs.symm (by omega) (by omega) rfl (by simp) (fun W _ => by simp [Builtin.firstCells]) (Sub.refl _) rfl (by simpa using h)
 ·rename_i b off len c;obtain ⟨x0, hx0, hvs⟩ := Zbk hs;simp only [ZfT, Option.some.injEq] at hl; subst hl;simp only [Zp7, Zaw] at h;cases hb : Nat.ble (len + n) c with
  | true =>
   rw [hb] at h; simp only [cond_true] at h;exact fits hx0 hvs (Zak hb) h
  | false =>
   rw [hb] at h; simp only [cond_false] at h;have hgt : ¬ len + n ≤ c := fun hh => by rw [Nat.ble_eq_true_of_le hh] at hb; cases hb
   cases hg : ZaM H b off (len * ei.size) with
   | none => rw [hg] at h; simp [Zk3] at h
   | some olds =>
    rw [hg] at h;simp only [Zk3] at h;obtain ⟨old, ho1, ho2, ho3⟩ := firstOld hg hx0;exact grown (H0 := H) hvs hsmall hgt ho1 ho2 ho3 (Sub.refl _) rfl h
 ·rename_i b off len k;obtain ⟨x0, hx0, hvs⟩ := Zbk hs;simp only [ZfT, Option.some.injEq] at hl; subst hl;unfold Zp8 at h
  split at h
  ·rename_i el' lo hi es' cells hob;obtain ⟨x', hx', c, fz, b1, b2, ⟨b3, b4, b5⟩, b6⟩ := hH.live b _ hob;rw [hx0] at hx'; cases hx';simp only [Zaw] at h;cases hb : Nat.ble (k + (len + n)) lo with
   | true =>
    rw [hb] at h; simp only [cond_true] at h;exact fits hx0 hvs (by have := Zak hb; simp only [Cap.val]; omega) h
   | false =>
    rw [hb] at h; simp only [cond_false] at h;cases hg : ZaM H b off (len * ei.size) with
    | none => rw [hg] at h; cases hi <;> simp [ZfU] at h
    | some olds =>
     rw [hg] at h;obtain ⟨old, ho1, ho2, ho3⟩ := firstOld hg hx0;cases hi with
     | some hh =>
      simp only [ZfU, Zaw] at h;cases hb2 : (Nat.ble hh (k + (len + n)) && Nat.blt 0 (len + n)) with
      | false => rw [hb2] at h; cases h
      | true =>
       rw [hb2] at h; simp only [cond_true] at h;simp only [Bool.and_eq_true] at hb2;have := Zak hb2.1;have := ZaF hb2.2;have := b5 hh rfl;exact grown (H0 := H) hvs hsmall (by simp only [Cap.val]; omega) ho1 ho2 ho3 (Sub.refl _) rfl h
     | none =>
      simp only [ZfU, Zaw] at h;cases hb2 : (Nat.beq off 0 && Nat.beq k 0 && Nat.beq es' ei.size && Nat.beq el' el) with
      | false => rw [hb2] at h; cases h
      | true =>
       rw [hb2] at h; simp only [cond_true] at h;simp only [Bool.and_eq_true] at hb2;have e1 := Zab hb2.1.1.1; have e2 := Zab hb2.1.1.2; have e3 := Zab hb2.1.2; have e4 := Zab hb2.2;subst e1; subst e2; subst e3; subst e4;have hsub : Sub (H.set b none).objs.get H.objs.get := by
        show Sub (H.objs.set b none).get H.objs.get;rw [Zad]; exact Sub.drop _ _
       by_cases hfit : len + n ≤ x0.2
       ·
        simp only [ZcR, Zaw] at h;cases hc : (olds ++ xs).all AV.isCell with
        | false => rw [hc] at h; cases h
        | true =>
         rw [hc] at h; simp only [cond_true, Option.some.injEq, Prod.mk.injEq] at h;obtain ⟨rfl, rfl⟩ := h;have hin : len * ei.size + ys.length ≤ c.size := by
          rw [hlen, ← Nat.add_mul, b3, Nat.mul_comm]; exact Nat.mul_le_mul_left _ hfit
         have hall := ZcC ho1 hxs;have hone : ∀ y ∈ ys, y.oneCell' = true := by
          simp only [List.all_append, Bool.and_eq_true] at hc;exact ZeC hc.2 hxs
         obtain ⟨w', s1, s2, s3, s4, s5, s6, s7⟩ := ZlH (P := P) b1 (b2 rfl) hin hone;have hle := Env.le_ext hn x0;obtain ⟨_, os, hx2, hos, hol, hcell⟩ := Za9 hH hg;rw [hx0] at hx2; cases hx2;rw [ho1] at hos; cases hos;have hO : Zdx (e.ext nid x0) L nid x0 w' (.blk el' false (.opn (len + n) none ei.size) (Tr.put .nil 0 (olds ++ xs))) := by
          refine ⟨_, fz, s2, b2, by rw [ZcX]; exact ⟨b3, hfit, fun _ h => by cases h⟩, ?_⟩
          intro i a ha;obtain ⟨y, hy, hxx⟩ := put_get (ZbL hle _ _ hall) i a ha;refine ⟨y, hy, ?_⟩;rw [ZdH _ _ _ _ hin];simp only [List.getElem?_toArray] at hxx
          by_cases hi : i < old.length
          ·rw [List.getElem?_append_left hi] at hxx;rw [if_neg (by omega)]
           have := hcell i y hxx;simp only [World.cell?, b1, Nat.zero_add] at this;simpa using this
          ·rw [List.getElem?_append_right (by omega)] at hxx
           have hlt2 : i - old.length < ys.length := (List.getElem?_eq_some_iff.1 hxx).1;rw [if_pos (by omega), ← ho2]; exact hxx
         refine ⟨e.ext nid x0, .slice (some ⟨x0.1, 0, none⟩) (len + n) x0.2, w', ?_, by simp only [cv, Env.ext_same, Cap.val, Nat.sub_zero], ?_, ?_, rfl⟩
         ·rw [hvs, ZcY w h0 hu hke hsrc (by simpa [Cap.val] using hfit)]
          simp only [ZaE, Nat.zero_add, s1, Result.andThen_ok, Cap.val, Nat.sub_zero]
         ·show HR NG _ L ((H.objs.set b none).set nid _).get nx _;rw [Zad, Zad];exact hH.rebind hob hx0 hn hlt s3 hO
         ·show Tran e H.objs.get n0 w _ ((H.objs.set b none).set nid _).get nx _;rw [Zad, Zad];exact Tran.rebind hob hx0 rfl rfl hn hn0 (by omega) s3 s4 s5 s6 s7
       ·exact grown (H0 := H.set b none) hvs hsmall (by simpa [Cap.val] using hfit) ho1 ho2 ho3 hsub rfl h
  ·cases h
 ·cases h
end
end
end Go.X
