/- Walks 3. -/
import Derived.Test.YtjadmbkmlehfdaaGreatDoorK2
import Derived.Laws.CopyOwn
import Derived.Deep.AppendSrc
import Derived.Test.YtjadmbkmlehfdaaGreatDoorProg
set_option linter.unusedVariables false
set_option linter.unusedSimpArgs false
set_option maxRecDepth 100000
namespace Go.M
open Go Go.RowKit
theorem run_copy_k {P : Program} (w : World) (dT sT ty elem : TypeId) (size : Nat) (g o dLen dCap : Nat) (a : Addr) (sLen sCap : Nat) (cur : Array Value) (t : TypeId) (cs : List Value)
 (hu : P.underlying dT = some (.slice elem)) (hs : (P.info? elem).map (·.size) = some size)
 (hg : w.heap[g]? = some (.cells cur t (0, 0))) (hn : cs.length = Nat.min sLen dLen * size)
 (hsrc : ∀ j v, cs[j]? = some v → w.cell? (a.add j) = some v) (hfit : o + cs.length ≤ cur.size) (h1 : ∀ v ∈ cs, v.oneCell' = true) :
 (Builtin.copy_ #[dT, sT] ty #[.slice (some ⟨g, o, none⟩) dLen dCap, .slice (some a) sLen sCap]).run P w =
   .ok (goInt (Nat.min sLen dLen)) (w.setRow g (cur.toList.take o ++ cs ++ cur.toList.drop (o + cs.length)).toArray) := by
 have hl := run_loadCells_list (P := P) w a cs hsrc
 have hst := run_storeCells_at P g o t cs 0 cur w hg (by simpa using hfit) h1
 cases hq : P.info? elem with
 | none => simp [hq] at hs
 | some i =>
  have hi : i.size = size := by simpa [hq] using hs
  simp [Builtin.copy_, run_underlying hu, Builtin.lenOf, Builtin.firstCells, sizeOf, typeInfo, hq, hi, ← hn, hl, hst]
theorem wpList_copy_k {P : Program} {w : World} {ops : Array Oper} {rest : List Oper} {o : Oper} {a : Act} {Q : Exit → Act → World → Prop} (hgd : o.guard = none) (d s : Operand) (dT sT : TypeId)
 (ho : o.op = .call { callee := .builtin .copy, args := #[d, s], argTypes := #[dT, sT] }) (elem : TypeId) (size : Nat) (hu : P.underlying dT = some (.slice elem)) (hsz : (P.info? elem).map (·.size) = some size)
 (g off dLen dCap : Nat) (ad : Addr) (sLen sCap : Nat) (hd : a.eval d = .slice (some ⟨g, off, none⟩) dLen dCap) (hs : a.eval s = .slice (some ad) sLen sCap)
 (cur : List Value) (t : TypeId) (hg : Has w g t cur.toArray) (cs : List Value) (m : Nat) (hm : Nat.min sLen dLen = m) (hn : cs.length = m * size)
 (hsrc : ∀ j v, cs[j]? = some v → w.cell? (ad.add j) = some v) (hfit : off + cs.length ≤ cur.length) (h1 : ∀ v ∈ cs, v.oneCell' = true)
 (h : ∀ w', Hid (Has w' g t (splice cur off cs).toArray) → Hid (Upd (fun b => b = g) w w') → wpList P ops Q rest (a.put o.dst (goInt m)) w') : wpList P ops Q (o :: rest) a w := by
 subst hm
 refine wpList_plain hgd fun K hK => ?_
 have hrun := run_copy_k (P := P) w dT sT o.type elem size g off dLen dCap ad sLen sCap cur.toArray t cs hu hsz hg hn hsrc (by simpa using hfit) h1
 have h2 := h (w.setRow g (cur.toArray.toList.take off ++ cs ++ cur.toArray.toList.drop (off + cs.length)).toArray) (show Has _ _ _ _ by
  have := setRow_heap w g cur.toArray (cur.toArray.toList.take off ++ cs ++ cur.toArray.toList.drop (off + cs.length)).toArray t (0, 0) hg
  unfold Has
  rw [this]
  simp [splice])
  (show Upd _ _ _ from ⟨by simp, fun k _ hk => setRow_other w g k _ (fun e => hk e), rfl, rfl, rfl⟩)
 unfold Oper.wp
 simp only [execOp, ho, resolve, invoke, builtin, Sem.run_bind, Sem.run_pure, Result.andThen_ok, List.map_toArray, List.map_cons, List.map_nil, hd, hs, hrun]
 exact hK _ _ h2
theorem run_append_zeros {P : Program} (w : World) (t it ty e : TypeId) (i : TypeInfo) (z : Value) (ik : IntKind) (ht : P.underlying t = some (.slice e)) (hit : P.underlying it = some (.int ik)) (hi : P.info? e = some i) (hz : i.zero = some z)
 (b : Addr) (sLen sCap : Nat) (olds : List Value) (hlo : olds.length = sLen * i.size) (holds : ∀ j v, olds[j]? = some v → w.cell? (b.add j) = some v)
 (m : Nat) (hm : 0 < m) (hs0 : 0 < i.size) (hg : sCap < sLen + m) (h63 : ((sLen + m : Nat) : Int) ≤ 9223372036854775807) (hfit : Builtin.nextslicecap (sLen + m) sCap * i.bytes ≤ 281474976710656) (hmf : (m : Int) * i.bytes ≤ 281474976710656) :
 (Builtin.append_ #[t, it] ty #[.slice (some b) sLen sCap, .int .i64 ((m : Nat) : Int)]).run P w =
   .ok (.slice (some ⟨w.heap.size, 0, none⟩) (sLen + m) (grownCap w (sLen + m) sCap e))
    (w.drew.alloc (.cells (olds.toArray ++ Builtin.zeroCells z.cells m ++ Builtin.zeroCells z.cells (grownCap w (sLen + m) sCap e - (sLen + m))) e)) := by
 have hn : ¬ (sLen + m ≤ sCap) := by omega
 have h63' : ¬ (9223372036854775807 < ((sLen : Int) + (m : Int))) := by omega
 have h48' : ¬ (281474976710656 < Builtin.nextslicecap (sLen + m) sCap * i.bytes) := by omega
 have hfo := run_firstCells_some (P := P) w.drew i.size sLen b sLen sCap olds hlo (by simpa using holds)
 have hw : IntKind.i64.wrap (m : Int) = (m : Int) := IntWalk.i64_in _ (by omega)
 have hm0 : ¬ ((m : Int) < 0) := by omega
 have hmb : ¬ (281474976710656 < (m : Int) * i.bytes) := by omega
 have hms : ¬ (m * i.size = 0) := by
  intro h
  rcases Nat.mul_eq_zero.1 h with h | h <;> omega
 simp [Builtin.append_, run_underlying ht, run_underlying hit, asInt, asIntOf, sizeOf, typeInfo, zeroValue, hi, hz, Builtin.lenOf, hn, h63', h48', hw, hm0, hmb, hms, Question.forced, hfo, newRow, grownCap]
theorem append_types {P : Program} (w : World) (t t2 ty e e2 : TypeId) (ht : P.underlying t = some (.slice e)) (ht2 : P.underlying t2 = some (.slice e2)) (v x : Value) :
 (Builtin.append_ #[t, t2] ty #[v, x]).run P w = (Builtin.append_ #[t, t] ty #[v, x]).run P w := by
 cases v <;> simp [Builtin.append_, run_underlying ht, run_underlying ht2]
theorem wpList_append_mk2 {P : Program} {w : World} {ops : Array Oper} {rest : List Oper} {o : Oper} {a : Act} {Q : Exit → Act → World → Prop} (hgd : o.guard = none) (s x : Operand) (t t2 : TypeId)
 (ho : o.op = .call { callee := .builtin .append, args := #[s, x], argTypes := #[t, t2] })
 (e : TypeId) (i : TypeInfo) (z : Value) (size bytes : Nat) (ht : P.underlying t = some (.slice e)) (ht2 : P.underlying t2 = some (.slice e)) (hi : P.info? e = some i) (hz : i.zero = some z)
 (hsize : i.size = size) (hby : i.bytes = bytes) (hzs : z.cells.size = size) (hsz : 0 < size)
 (v : Value) (n : Nat) (xs : List Value) (hs : a.eval s = v) (hown : w.ownsRow 0 e size v n xs)
 (ad : Addr) (m c : Nat) (news : List Value) (hx : a.eval x = .slice (some ad) m c) (hl : news.length = m * size) (hnews : ∀ j u, news[j]? = some u → w.cell? (ad.add j) = some u) (h1 : ∀ u ∈ news, u.oneCell' = true)
 (h63 : n + m ≤ maxLen) (hbytes : (n + m) * bytes ≤ 140737488355328)
 (h : ∀ v' w', w'.ownsRow 0 e size v' (n + m) (xs ++ news) → w.grownBy w' v.ownBlock → (v' = .slice none 0 0 ↔ v = .slice none 0 0 ∧ m = 0) → (∀ k, v'.ownBlock = some k → v.ownBlock = some k ∨ w.heap.size ≤ k) → wpList P ops Q rest (a.put o.dst v') w') : wpList P ops Q (o :: rest) a w := by
 refine wpList_plain hgd fun K hK => ?_
 obtain ⟨v', w', hr, h2, h3, h4, h5⟩ := run_append_mk (P := P) w t o.type e i z size bytes ht hi hz hsize hby hzs hsz v n xs hown ad m c news hl hnews h1 h63 hbytes
 rw [← append_types w t t2 o.type e e ht ht2] at hr
 unfold Oper.wp execOp
 simp only [ho, resolve, invoke, builtin, Sem.run_bind, Sem.run_pure, Result.andThen_ok, List.map_toArray, List.map_cons, List.map_nil, hs, hx, hr]
 exact hK _ _ (h v' w' h2 h3 h4 h5)
theorem wpList_append_zeros {P : Program} {w : World} {ops : Array Oper} {rest : List Oper} {o : Oper} {a : Act} {Q : Exit → Act → World → Prop} (hgd : o.guard = none) (s x : Operand) (t it : TypeId)
 (ho : o.op = .call { callee := .builtin .append, args := #[s, x], argTypes := #[t, it] })
 (e : TypeId) (i : TypeInfo) (z : Value) (ik : IntKind) (size bytes : Nat) (ht : P.underlying t = some (.slice e)) (hit : P.underlying it = some (.int ik)) (hi : P.info? e = some i) (hz : i.zero = some z) (hsize : i.size = size) (hby : i.bytes = bytes) (hzs : z.cells.size = size) (hsz : 0 < size)
 (b : Addr) (sLen sCap : Nat) (hs : a.eval s = .slice (some b) sLen sCap) (olds : List Value) (hlo : olds.length = sLen * size) (holds : ∀ j v, olds[j]? = some v → w.cell? (b.add j) = some v)
 (m : Nat) (hx : a.eval x = .int .i64 ((m : Nat) : Int)) (hm : 0 < m) (hg : sCap < sLen + m) (h63 : sLen + m ≤ 1000000) (hb : bytes ≤ 1000)
 (h : ∀ (C : Nat) (cur : List Value) (w' : World), sLen + m ≤ C → C ≤ maxLen → Hid (cur.length = C * size) → Hid (cur.take (sLen * size) = olds) → Hid (Has w' w.heap.size e cur.toArray) → Hid (Old w w') → wpList P ops Q rest (a.put o.dst (.slice (some ⟨w.heap.size, 0, none⟩) (sLen + m) C)) w') : wpList P ops Q (o :: rest) a w := by
 subst hsize
 subst hby
 refine wpList_plain hgd fun K hK => ?_
 have hnc : Builtin.nextslicecap (sLen + m) sCap * i.bytes ≤ 281474976710656 := growslice_fits (by omega) (by
  calc (sLen + m) * i.bytes ≤ 1000000 * 1000 := Nat.mul_le_mul h63 hb
   _ ≤ _ := by omega)
 have hmf : (m : Int) * i.bytes ≤ 281474976710656 := by
  have : m * i.bytes ≤ 1000000 * 1000 := Nat.mul_le_mul (by omega) hb
  have h2 : ((m * i.bytes : Nat) : Int) = (m : Int) * i.bytes := by simp
  omega
 have hr := run_append_zeros (P := P) w t it o.type e i z ik ht hit hi hz b sLen sCap olds hlo holds m hm hsz hg (by omega) hnc hmf
 have hge := grownCap_ge w (sLen + m) sCap e
 have hcm := grownCap_le_maxLen w (sLen + m) sCap e (by unfold maxLen; omega)
 have h2 := h (grownCap w (sLen + m) sCap e) (olds ++ (Builtin.zeroCells z.cells m).toList ++ (Builtin.zeroCells z.cells (grownCap w (sLen + m) sCap e - (sLen + m))).toList)
  (w.drew.alloc (.cells (olds.toArray ++ Builtin.zeroCells z.cells m ++ Builtin.zeroCells z.cells (grownCap w (sLen + m) sCap e - (sLen + m))) e)) hge hcm
  (show _ = _ by
    simp only [List.length_append, Array.length_toList, size_zeroCells, hlo, hzs, ← Nat.add_mul]
    congr 1
    omega)
  (show _ = _ by rw [List.append_assoc, ← hlo]; exact List.take_left)
  (show Has _ _ _ _ by
    unfold Has
    have : (w.drew.alloc (.cells (olds.toArray ++ Builtin.zeroCells z.cells m ++ Builtin.zeroCells z.cells (grownCap w (sLen + m) sCap e - (sLen + m))) e)).heap[w.heap.size]? = _ := heap_alloc_new w.drew _
    rw [this]
    simp)
  (show Upd _ _ _ from ((Upd.refl _ _).drew).alloc _)
 unfold Oper.wp execOp
 simp only [ho, resolve, invoke, builtin, Sem.run_bind, Sem.run_pure, Result.andThen_ok, List.map_toArray, List.map_cons, List.map_nil, hs, hx, hr]
 exact hK _ _ h2
theorem splice_insert {α : Type} (L A E D : List α) (a : Nat) (hA : L.take a = A) (ha : A.length = a) : (splice (splice L a E) (a + E.length) D).take (a + E.length + D.length) = A ++ E ++ D := by
 have h1 : splice L a E = (A ++ E) ++ L.drop (a + E.length) := by unfold splice; rw [hA, List.append_assoc]
 have h2 : (A ++ E).length = a + E.length := by simp [ha]
 have h3 : splice (splice L a E) (a + E.length) D = (A ++ E ++ D) ++ (splice L a E).drop (a + E.length + D.length) := by
  show (splice L a E).take (a + E.length) ++ (D ++ (splice L a E).drop (a + E.length + D.length)) = _
  rw [show (splice L a E).take (a + E.length) = A ++ E from by rw [h1, ← h2, List.take_left], List.append_assoc, List.append_assoc, List.append_assoc]
 rw [h3]
 have h4 : (A ++ E ++ D).length = a + E.length + D.length := by simp [ha, Nat.add_assoc]
 rw [← h4, List.take_left]
theorem splice_insert2 {α : Type} (L A E D : List α) (a : Nat) (hA : L.take a = A) (ha : A.length = a) (hL : a + E.length ≤ L.length) : (splice (splice L (a + E.length) D) a E).take (a + E.length + D.length) = A ++ E ++ D := by
 have h0 : (L.take (a + E.length)).length = a + E.length := by simp; omega
 have h1 : (splice L (a + E.length) D).take a = A := by
  unfold splice
  rw [List.take_append_of_le_length (by rw [h0]; omega), List.take_take, Nat.min_eq_left (by omega), hA]
 have h2 : (splice L (a + E.length) D).drop (a + E.length) = D ++ L.drop (a + E.length + D.length) := by
  unfold splice
  rw [List.drop_append_of_le_length (by rw [h0]; omega), List.drop_eq_nil_of_le (by rw [h0]; omega), List.nil_append]
 have h3 : splice (splice L (a + E.length) D) a E = (A ++ E ++ D) ++ L.drop (a + E.length + D.length) := by
  show (splice L (a + E.length) D).take a ++ (E ++ (splice L (a + E.length) D).drop (a + E.length)) = _
  rw [h1, h2]; simp
 rw [h3]
 have h4 : (A ++ E ++ D).length = a + E.length + D.length := by simp [ha, Nat.add_assoc]
 rw [← h4, List.take_left]
theorem run_overlaps_no {P : Program} {fp fr : Array TypeId} {t el : TypeId} {inf : TypeInfo} (hp0 : fp[0]? = some t) (hu : P.underlying t = some (.slice el)) (hinf : P.info? el = some inf)
 {w : World} {g V : Nat} {tg tV : TypeId} {cg cV : Array Value} (A : Has w g tg cg) (B : Has w V tV cV) (hne : V ≠ g) (o1 o2 la ca lb cb : Nat) :
 (Extern.SlicesOverlaps.overlaps fp fr #[.slice (some ⟨V, o1, none⟩) la ca, .slice (some ⟨g, o2, none⟩) lb cb]).run P w = .ok (.bool false) w := by
 have hsz : ∀ W : World, (sizeOf el).run P W = .ok inf.size W := fun W => by simp [sizeOf, typeInfo, hinf]
 have hnb : (V != g) = true := by simpa using hne
 have hnb' : (V == g) = false := by simpa using hne
 delta Extern.SlicesOverlaps.overlaps Extern.SlicesOverlaps.overlaps.match_4 Extern.SlicesOverlaps.overlaps._sparseCasesOn_4
 unfold Has at A B
 by_cases h0 : la = 0 ∨ lb = 0 ∨ inf.size = 0
 ·simp [hp0, run_underlying hu, hsz, h0, Array.getLit]
 ·simp [hp0, run_underlying hu, hsz, h0, Array.getLit, hnb', hne, frozen, noView, viewAt, mayBeOne, stringish, shape, Sem.run, World.frozen?, World.shape?, A, B]
theorem callFunc_ext' {P : Program} {f : FuncId} {fn : Func} (hf : P.funcs[f]? = some fn) (hname : (fn.name == "runtime.NumGoroutine") = false) (hb : fn.body.isNone = true) (hn : Extern.findNext fn = none) {g : Array Value → Sem Value} (he : Extern.find fn = some g)
 {args : Array Value} {w w' : World} {y : Value} (hr : (g args).run P w = .ok y w') : (callFunc f args).run P w = .ok (.value y) w' := by
 rw [run_callFunc_extern hf hname hb hn he, hr]
 rfl
theorem one_new (w : World) (x : Value) (t : TypeId) : ∀ j u, [x][j]? = some u → (w.alloc (.cells #[x] t)).cell? ((⟨w.heap.size, 0, none⟩ : Addr).add j) = some u := by
 intro j u hj
 have hj0 : j = 0 := by
  have := (List.getElem?_eq_some_iff.1 hj).1
  simpa using this
 subst hj0
 have : (⟨w.heap.size, 0, none⟩ : Addr).add 0 = ⟨w.heap.size, 0, none⟩ := by unfold Addr.add; split <;> simp_all
 rw [this]
 simpa using hj
theorem run_append_str {P : Program} (w : World) (t tx ty e : TypeId) (i : TypeInfo) (z : Value) (ht : P.underlying t = some (.slice e)) (hk : P.underlying tx = some .string) (hi : P.info? e = some i) (hz : i.zero = some z)
 (hsize : i.size = 1) (hby : i.bytes = 1) (hzs : z.cells.size = 1) (g n cap : Nat) (xs : List Value) (hown : w.ownsRow 0 e 1 (.slice (some ⟨g, 0, none⟩) n cap) n xs) (s : ByteArray) (hb : n + s.size ≤ 1000000) :
 ∃ v' w', (Builtin.append_ #[t, tx] ty #[.slice (some ⟨g, 0, none⟩) n cap, .string s]).run P w = .ok v' w' ∧ w'.ownsRow 0 e 1 v' (n + s.size) (xs ++ byteCells s) ∧ w.grownBy w' (some g) ∧
  (∃ k c, v' = .slice (some ⟨k, 0, none⟩) (n + s.size) c ∧ (k = g ∨ w.heap.size ≤ k)) := by
 have hlen : (xs ++ byteCells s).length = (n + s.size) * 1 := by rw [List.length_append, hown.1, byteCells_length]; omega
 rcases hown.2 with ⟨h1, h2⟩ | ⟨g', cap', cur, h1, hbg, hg, hnc, hcm, hcs, htk⟩
 ·cases h1
 ·injection h1 with e1 _ e3
  injection e1 with e4
  injection e4 with e5
  subst e5; subst e3
  by_cases hroom : n + s.size ≤ cap
  ·have hfit : n * i.size + (byteCells s).length ≤ cur.size := by rw [byteCells_length, hcs, hsize]; omega
   have h1' : ∀ u ∈ byteCells s, u.oneCell' = true := fun u hu => by
    obtain ⟨_, _, rfl⟩ := List.mem_map.1 hu
    rfl
   have hst := run_storeCells_at P g (n * i.size) e (byteCells s) 0 cur w hg (by simpa using hfit) h1'
   simp only [Nat.add_zero] at hst
   have hf := firstCells_string (P := P) s w
   rw [← hsize] at hf
   have hr : (Builtin.append_ #[t, tx] ty #[.slice (some ⟨g, 0, none⟩) n cap, .string s]).run P w = .ok (.slice (some ⟨g, 0, none⟩) (n + s.size) cap) (w.setRow g (cur.toList.take (n * i.size) ++ byteCells s ++ cur.toList.drop (n * i.size + (byteCells s).length)).toArray) := by
    simp [Builtin.append_, run_underlying ht, run_underlying hk, sizeOf, typeInfo, hi, Builtin.lenOf, hroom, hf, Addr.add_lit, hst]
   refine ⟨_, _, hr, ⟨hlen, .inr ⟨g, cap, _, rfl, Nat.zero_le _, setRow_heap w g cur _ e _ hg, hroom, hcm, ?_, ?_⟩⟩, ⟨rfl, rfl, rfl, by simp, fun k _ hk => setRow_other w g k _ (fun e => hk (by simp [e]))⟩, ⟨g, cap, rfl, .inl rfl⟩⟩
   ·simp only [List.size_toArray, List.length_append, List.length_take, List.length_drop, Array.length_toList]
    omega
   ·have h5 : cur.toList.take (n * i.size) = xs := by rw [hsize]; exact htk
    rw [h5, ← hlen]
    exact List.take_left
  ·have holds : ∀ j u, xs[j]? = some u → w.cell? ((⟨g, 0, none⟩ : Addr).add j) = some u := hown.cells (g := g) rfl
   have hfo := run_firstCells_some (P := P) w.drew i.size n ⟨g, 0, none⟩ n cap xs (by rw [hown.1, hsize]) (by simpa using holds)
   have hsrc := Src.ofString (P := P) w hk s
   rw [← hsize] at hsrc
   have hr := run_append_grow_src (P := P) w t tx ty e i z ht hi hz (some ⟨g, 0, none⟩) n cap xs hfo (.string s) s.size (byteCells s) hsrc (by omega) (by omega) (growslice_fits (by omega) (by rw [hby]; omega))
   have hge := grownCap_ge w (n + s.size) cap e
   have hcm2 := grownCap_le_maxLen w (n + s.size) cap e (by unfold maxLen; omega)
   refine ⟨_, _, hr, ⟨hlen, .inr ⟨w.heap.size, _, _, rfl, Nat.zero_le _, heap_alloc_new w.drew _, hge, hcm2, ?_, ?_⟩⟩, ⟨rfl, rfl, rfl, by simp, fun k hk _ => Go.heap_alloc_old _ _ hk⟩, ⟨w.heap.size, _, rfl, .inr (Nat.le_refl _)⟩⟩
   ·simp only [Array.size_append, List.size_toArray, size_zeroCells, hzs, hlen]
    omega
   ·simp only [Array.toList_append]
    rw [← hlen]
    exact List.take_left
theorem wp_append_str {P : Program} {w : World} {o : Oper} {a : Act} {K : Act → World → Prop} {Q : Exit → Act → World → Prop} (s x : Operand) (t tx : TypeId)
 (ho : o.op = .call { callee := .builtin .append, args := #[s, x], argTypes := #[t, tx] })
 (e : TypeId) (i : TypeInfo) (z : Value) (ht : P.underlying t = some (.slice e)) (hk : P.underlying tx = some .string) (hi : P.info? e = some i) (hz : i.zero = some z)
 (hsize : i.size = 1) (hby : i.bytes = 1) (hzs : z.cells.size = 1) (g n cap : Nat) (xs : List Value) (hs : a.eval s = .slice (some ⟨g, 0, none⟩) n cap) (hown : w.ownsRow 0 e 1 (.slice (some ⟨g, 0, none⟩) n cap) n xs) (st : ByteArray) (hx : a.eval x = .string st) (hb : n + st.size ≤ 1000000)
 (h : ∀ k c w', w'.ownsRow 0 e 1 (.slice (some ⟨k, 0, none⟩) (n + st.size) c) (n + st.size) (xs ++ byteCells st) → w.grownBy w' (some g) → (k = g ∨ w.heap.size ≤ k) → K (a.put o.dst (.slice (some ⟨k, 0, none⟩) (n + st.size) c)) w') : Oper.wp P o a w K Q := by
 obtain ⟨v', w', hr, h2, h3, k, c, rfl, hk2⟩ := run_append_str (P := P) w t tx o.type e i z ht hk hi hz hsize hby hzs g n cap xs hown st hb
 unfold Oper.wp execOp
 simp only [ho, resolve, invoke, builtin, Sem.run_bind, Sem.run_pure, Result.andThen_ok, List.map_toArray, List.map_cons, List.map_nil, hs, hx, hr]
 exact h k c w' h2 h3 hk2
theorem own_block {w : World} {e : TypeId} {base size n : Nat} {v : Value} {xs : List Value} (own : w.ownsRow base e size v n xs) (hn : 0 < n) : ∃ g c, v = .slice (some ⟨g, 0, none⟩) n c := by
 rcases own.2 with ⟨h1, h2⟩ | ⟨g, c, cur, h1, _⟩
 ·omega
 ·exact ⟨g, c, h1⟩
def InsPost (w : World) (v : Value) (e : TypeId) (k n : Nat) (xs : List Value) (en : Ending) (w' : World) : Prop :=
 ∃ v', en = .returned v' ∧ w'.ownsRow 0 e k v' n xs ∧ Upd (fun b => v.ownBlock = some b) w w' ∧ (∀ b, v'.ownBlock = some b → v.ownBlock = some b ∨ w.heap.size ≤ b)
end Go.M
namespace Go.M
open Go.Proofs Go.RowKit
theorem info_ent : (Tryz.prog.info? 47).map (fun i => (i.zero, i.size, i.bytes)) = some (some (.agg #[.int .i64 0, .string ⟨#[]⟩, .bool false, .int .i64 0, .int .i64 0, .int .i64 0]), 6, 56) := by kernel_rfl
theorem insE_end {w : World} {v : Value} {n c : Nat} {xs el : List Value} {ad : Addr} (own : w.ownsRow 0 47 6 v n xs) (hl : el.length = 6) (he : ∀ j u, el[j]? = some u → w.cell? (ad.add j) = some u) (h1 : ∀ u ∈ el, u.oneCell' = true) (hn : n ≤ 1000) :
 Calls Tryz.prog 136 #[v, .int .i64 ((n : Nat) : Int), .slice (some ad) 1 c] w (InsPost w v 47 6 (n + 1) (xs ++ el)) := by
 obtain ⟨i0, hi0, hz0, hz1, hz2⟩ := info_parts info_ent
 obtain ⟨va, vc, rfl⟩ := own_slice own
 have HO := Lib.hid own
 have HE := Lib.hid he
 have HL := Lib.hid hl
 clear own he hl
 go_enter Tryz.func136, Tryz.ntmps136
 go_wp2_with (first | (at_builtin; refine wpList_append_mk2 rfl (.tmp 23) (.tmp 24) 142 33 rfl 47 i0 (.agg #[.int .i64 0, .string ⟨#[]⟩, .bool false, .int .i64 0, .int .i64 0, .int .i64 0]) 6 56 Tryz.underlying142 Tryz.underlying33 hi0 hz0 hz1 hz2 rfl (by decide) (.slice va n vc) n xs rfl HO.out ad 1 c el rfl HL.out HE.out h1 (by unfold maxLen; omega) (by omega) ?_; intro v' w1 hown' hgrow hnil hfresh))
 all_goals
  go_wp2
  go_ret
  exact ⟨_, rfl, hown', (Upd.refl _ _).grown hgrow (fun k hk => .inl (by revert hk; cases va <;> exact id)), fun b hb => (hfresh b hb).imp (by cases va <;> exact id) id⟩
theorem insE_full {w : World} {g n i c : Nat} {xs el : List Value} {ad : Addr} {cur : Array Value} (hg : Has w g 47 cur) (hx : cur.toList.take (n * 6) = xs) (hxl : xs.length = n * 6) (hl : el.length = 6) (he : ∀ j u, el[j]? = some u → w.cell? (ad.add j) = some u) (h1 : ∀ u ∈ el, u.oneCell' = true) (hx1 : ∀ u ∈ xs, u.oneCell' = true) (hn : n ≤ 1000) (hi : i < n) :
 Calls Tryz.prog 136 #[.slice (some ⟨g, 0, none⟩) n n, .int .i64 ((i : Nat) : Int), .slice (some ad) 1 c] w (InsPost w (.slice (some ⟨g, 0, none⟩) n n) 47 6 (n + 1) (xs.take (i * 6) ++ el ++ xs.drop (i * 6))) := by
 obtain ⟨i0, hi0, hz0, hz1, hz2⟩ := info_parts info_ent
 have HE := Lib.hid he
 have HL := Lib.hid hl
 have HG := Lib.hid hg
 have HX := Lib.hid hx
 clear hg he hl hx
 have e1 : ((i : Int) == (n : Int)) = false := by rw [beq_eq_false_iff_ne]; omega
 have e2 : ¬ n = i := by omega
 have e3 : ¬ i = n := by omega
 have hcell : ∀ j u, xs[j]? = some u → w.cell? ⟨g, j, none⟩ = some u := by
  intro j u hj
  rw [HG.out.cell j]
  have hlt : j < n * 6 := by rw [← hxl]; exact (List.getElem?_eq_some_iff.1 hj).1
  rw [← HX.out, List.getElem?_take_of_lt hlt] at hj
  simpa using hj
 have holds : ∀ j u, (xs.take (i * 6))[j]? = some u → w.cell? ((⟨g, 0, none⟩ : Addr).add j) = some u := by
  intro j u hj
  have h2 : xs[j]? = some u := by
   have hlt : j < i * 6 := by
    have := (List.getElem?_eq_some_iff.1 hj).1
    simp at this
    omega
   rwa [List.getElem?_take_of_lt hlt] at hj
  have := hcell j u h2
  rwa [show (⟨g, 0, none⟩ : Addr).add j = ⟨g, j, none⟩ from by unfold Addr.add; split <;> simp_all]
 have HCELL := Lib.hid hcell
 have HOLDS := Lib.hid holds
 have em : i + (n + 1 - i) = n + 1 := by omega
 have hgl := HG.out.lt
 clear hcell holds
 have EM := Lib.hid em
 have HSZ : Hid ((Tryz.prog.info? 47).map (·.size) = some 6) := Lib.hid (by rw [hi0]; simp [hz1])
 clear em
 go_enter Tryz.func136, Tryz.ntmps136
 go_wp2_with (first | (at_builtin; refine wpList_append_zeros rfl (.tmp 34) (.tmp 39) 142 3 rfl 47 i0 (.agg #[.int .i64 0, .string ⟨#[]⟩, .bool false, .int .i64 0, .int .i64 0, .int .i64 0]) .i64 6 56 Tryz.underlying142 Tryz.underlying3 hi0 hz0 hz1 hz2 rfl (by decide) ⟨g, 0, none⟩ i n rfl (xs.take (i * 6)) (by simp [hxl]; omega) HOLDS.out (n + 1 - i) (by rw [show ((n + 1 - i : Nat) : Int) = (n : Int) + 1 - (i : Int) from by omega]; rfl) (by omega) (by omega) (by omega) (by omega) ?_; rw [EM.out]; intro C cur1 w1 hC hC2 hcl hct hcg hO; have hcl2 : i * 6 + 6 ≤ cur1.length := (by rw [hcl.out]; omega); refine Hid.out ?_))
 show wpList _ _ _ _ _ _
 go_wp2_with (first | (refine wpList_copy_k rfl (.tmp 43) (.tmp 44) 142 33 rfl 47 6 Tryz.underlying142 HSZ.out w.heap.size (i * 6) (n + 1 - i) (C - i) ad 1 c rfl rfl cur1 47 hcg.out el 1 (Nat.min_eq_left (by omega)) (by rw [HL.out]) (fun j v hv => Old.cellOf' hO.out (HE.out j v hv)) (by rw [HL.out]; exact hcl2) h1 ?_; intro w2 hcg2 hU2; refine Hid.out ?_))
 show wpList _ _ _ _ _ _
 have hsrc : Hid (∀ j u, (xs.drop (i * 6))[j]? = some u → w2.drew.cell? ((⟨g, i * 6, none⟩ : Addr).add j) = some u) := by
  intro j u hj
  rw [List.getElem?_drop] at hj
  have h0 := Old.cellOf' hO.out (HCELL.out _ _ hj)
  have h3 := hU2.out.cellOf h0 (by omega)
  rw [show (⟨g, i * 6, none⟩ : Addr).add j = ⟨g, i * 6 + j, none⟩ from by unfold Addr.add; split <;> simp_all]
  exact h3
 go_wp2_with fail
 have g1 : IntKind.i64.wrap ((i : Int) + 1) = (i : Int) + 1 := IntWalk.i64_in _ (by omega)
 have g2 : (0 : Int) ≤ (i : Int) + 1 := by omega
 have g3 : ((i : Int) + 1).toNat = i + 1 := by omega
 have g4 : (i : Int) + 1 ≤ (n : Int) + 1 := by omega
 have g5 : ¬ C = i + 1 := by omega
 have g6 : ¬ i + 1 = C := by omega
 have g7 : (i : Int) ≤ (n : Int) := by omega
 have g8 : i + 1 ≤ n + 1 := by omega
 have g9 : i ≤ n := by omega
 have g10 : n + 1 ≤ C := hC
 have g11 : ¬ C ≤ i + 1 := by omega
 have g12 : ¬ n ≤ i := by omega
 go_still_tail 8, (by kernel_rfl)
 change wpList _ _ _ _ _ w2.drew
 have hlen : (splice cur1 (i * 6) el).length = C * 6 := by rw [length_splice _ _ _ (by rw [HL.out]; exact hcl2), hcl.out]
 refine wpList_copy_k rfl (.tmp 50) (.tmp 53) 142 142 rfl 47 6 Tryz.underlying142 HSZ.out w.heap.size ((i + 1) * 6) _ _ ⟨g, i * 6, none⟩ (n - i) (n - i) rfl rfl (splice cur1 (i * 6) el) 47 (by exact hcg2.out) (xs.drop (i * 6)) (n - i) (Nat.min_eq_left (by omega)) (by simp [hxl]; omega) hsrc.out (by rw [hlen]; simp [hxl]; omega) (fun v hv => hx1 v (List.mem_of_mem_drop hv)) ?_
 intro w3 hcg3 hU3
 go_wp2
 go_ret
 refine ⟨_, rfl, ⟨?_, .inr ⟨w.heap.size, C, (splice (splice cur1 (i * 6) el) ((i + 1) * 6) (xs.drop (i * 6))).toArray, rfl, Nat.zero_le _, hcg3.out, hC, hC2, ?_, ?_⟩⟩, ?_, ?_⟩
 ·simp [hxl, HL.out]; omega
 ·simp only [List.size_toArray]
  rw [length_splice _ _ _ (by rw [hlen]; simp [hxl]; omega), hlen]
 ·have h1 := splice_insert cur1 (xs.take (i * 6)) el (xs.drop (i * 6)) (i * 6) hct.out (by simp [hxl]; omega)
  have e1 : i * 6 + el.length = (i + 1) * 6 := by rw [HL.out]; omega
  have e2 : (i + 1) * 6 + (xs.drop (i * 6)).length = (n + 1) * 6 := by simp [hxl]; omega
  rw [e1, e2] at h1
  rw [List.append_assoc] at h1
  simpa using h1
 ·exact (((hO.out.mono (fun _ _ h => h.elim)).after hU2.out (fun b hb hf => by omega)).drew).after hU3.out (fun b hb hf => by omega)
 ·intro b hb
  have : w.heap.size = b := by simpa [Value.ownBlock] using hb
  exact .inr (by omega)
theorem insE_room {w : World} {g n i c cap : Nat} {xs el : List Value} {V : Nat} {tV : TypeId} {cV : Array Value} {cur : Array Value} (hg : Has w g 47 cur) (hcs : cur.size = cap * 6) (hx : cur.toList.take (n * 6) = xs) (hxl : xs.length = n * 6) (hl : el.length = 6) (he : ∀ j u, el[j]? = some u → w.cell? ((⟨V, 0, none⟩ : Addr).add j) = some u) (h1 : ∀ u ∈ el, u.oneCell' = true) (hx1 : ∀ u ∈ xs, u.oneCell' = true) (hn : n ≤ 1000) (hi : i < n) (hcap : n + 1 ≤ cap) (hcm : cap ≤ maxLen) (hag : V ≠ g) (hV : Has w V tV cV) :
 Calls Tryz.prog 136 #[.slice (some ⟨g, 0, none⟩) n cap, .int .i64 ((i : Nat) : Int), .slice (some ⟨V, 0, none⟩) 1 c] w (InsPost w (.slice (some ⟨g, 0, none⟩) n cap) 47 6 (n + 1) (xs.take (i * 6) ++ el ++ xs.drop (i * 6))) := by
 obtain ⟨i0, hi0, hz0, hz1, hz2⟩ := info_parts info_ent
 have HE := Lib.hid he
 have HL := Lib.hid hl
 have HG := Lib.hid hg
 have HX := Lib.hid hx
 have HCS := Lib.hid hcs
 clear hg he hl hx hcs
 have HV := Lib.hid hV
 clear hV
 unfold maxLen at hcm
 have hov : (callFunc 216 #[.slice (some ⟨V, 0, none⟩) 1 c, .slice (some ⟨g, (i + 1) * 6, none⟩) (n - i) (cap - (i + 1))]).run Tryz.prog w = .ok (.value (.bool false)) w :=
  callFunc_ext' (fn := Tryz.f216) (by kernel_rfl) (by kernel_rfl) (by kernel_rfl) (by kernel_rfl) (g := Extern.SlicesOverlaps.overlaps #[33, 33] #[4]) (by kernel_rfl) (run_overlaps_no rfl Tryz.underlying33 hi0 HG.out HV.out hag _ _ _ _ _ _)
 have e1 : ((i : Int) == (n : Int)) = false := by rw [beq_eq_false_iff_ne]; omega
 have e2 : ¬ n = i := by omega
 have e3 : ¬ i = n := by omega
 have e4 : ¬ cap < n + 1 := by omega
 have e5 : ¬ (cap : Int) < (n : Int) + 1 := by omega
 have e6 : ¬ cap = i := by omega
 have e7 : ¬ cap = i + 1 := by omega
 go_enter Tryz.func136, Tryz.ntmps136
 have HSZ : Hid ((Tryz.prog.info? 47).map (·.size) = some 6) := Lib.hid (by rw [hi0]; simp [hz1])
 have hcell : ∀ j u, xs[j]? = some u → w.cell? ⟨g, j, none⟩ = some u := by
  intro j u hj
  rw [HG.out.cell j]
  have hlt : j < n * 6 := by rw [← hxl]; exact (List.getElem?_eq_some_iff.1 hj).1
  rw [← HX.out, List.getElem?_take_of_lt hlt] at hj
  simpa using hj
 have hsrc : Hid (∀ j u, (xs.drop (i * 6))[j]? = some u → w.drew.cell? ((⟨g, i * 6, none⟩ : Addr).add j) = some u) := by
  intro j u hj
  rw [List.getElem?_drop] at hj
  have h0 := hcell _ _ hj
  rw [show (⟨g, i * 6, none⟩ : Addr).add j = ⟨g, i * 6 + j, none⟩ from by unfold Addr.add; split <;> simp_all]
  exact h0
 clear hcell
 go_wp2_with fail
 have g1 : IntKind.i64.wrap ((i : Int) + 1) = (i : Int) + 1 := IntWalk.i64_in _ (by omega)
 have g2 : (0 : Int) ≤ (i : Int) + 1 := by omega
 have g3 : ((i : Int) + 1).toNat = i + 1 := by omega
 have g4 : (i : Int) + 1 ≤ (n : Int) + 1 := by omega
 have g5 : ¬ cap = i + 1 := by omega
 have g6 : ¬ i + 1 = cap := by omega
 have g7 : (i : Int) ≤ (n : Int) := by omega
 have g8 : i + 1 ≤ n + 1 := by omega
 have g9 : i ≤ n := by omega
 have g11 : ¬ cap ≤ i + 1 := by omega
 have g12 : ¬ n ≤ i := by omega
 have g13 : (i : Int) ≤ (n : Int) + 1 := by omega
 have g14 : i ≤ n + 1 := by omega
 have g15 : ¬ cap ≤ i := by omega
 clear hov
 go_still_tail 8, (by kernel_rfl)
 change wpList _ _ _ _ _ w.drew
 refine wpList_copy_k rfl (.tmp 73) (.tmp 76) 142 142 rfl 47 6 Tryz.underlying142 HSZ.out g ((i + 1) * 6) _ _ ⟨g, i * 6, none⟩ _ _ rfl rfl cur.toList 47 (by simpa using HG.out.drew) (xs.drop (i * 6)) (n - i) ?x1 (by simp [hxl]; omega) hsrc.out (by simp [hxl, HCS.out]; omega) (fun v hv => hx1 v (List.mem_of_mem_drop hv)) ?_
 case x1 => show min _ _ = _; omega
 intro w2 hcg2 hU2
 have hlen : (splice cur.toList ((i + 1) * 6) (xs.drop (i * 6))).length = cap * 6 := by rw [length_splice _ _ _ (by simp [hxl, HCS.out]; omega)]; simp [HCS.out]
 have hE2 : Hid (∀ j u, el[j]? = some u → w2.cell? ((⟨V, 0, none⟩ : Addr).add j) = some u) := by
  intro j u hj
  have h0 := HE.out j u hj
  have hb : ((⟨V, 0, none⟩ : Addr).add j) = ⟨V, j, none⟩ := by unfold Addr.add; split <;> simp_all
  rw [hb] at h0 ⊢
  exact hU2.out.cellOf (w := w.drew) h0 hag
 have HLEN := Lib.hid hlen
 clear hlen
 go_wp2_with (first | (refine wpList_copy_k rfl (.tmp 80) (.tmp 81) 142 33 rfl 47 6 Tryz.underlying142 HSZ.out g (i * 6) _ _ ⟨V, 0, none⟩ 1 c rfl rfl (splice cur.toList ((i + 1) * 6) (xs.drop (i * 6))) 47 hcg2.out el 1 (Nat.min_eq_left (by omega)) (by rw [HL.out]) hE2.out (by rw [HL.out, HLEN.out]; omega) h1 ?_; intro w3 hcg3 hU3))
 go_ret
 have hUd : Upd (fun b => (Value.slice (some ⟨g, 0, none⟩) n cap).ownBlock = some b) w w3 := (((Upd.refl _ w).drew).after hU2.out (fun b hb hf => by subst hf; rfl)).after hU3.out (fun b hb hf => by subst hf; rfl)
 refine ⟨_, rfl, ⟨?_, .inr ⟨g, cap, (splice (splice cur.toList ((i + 1) * 6) (xs.drop (i * 6))) (i * 6) el).toArray, rfl, Nat.zero_le _, hcg3.out, hcap, hcm, ?_, ?_⟩⟩, hUd, ?_⟩
 ·simp [hxl, HL.out]; omega
 ·simp only [List.size_toArray]
  rw [length_splice _ _ _ (by rw [HLEN.out, HL.out]; omega), HLEN.out]
 ·have hA : cur.toList.take (i * 6) = xs.take (i * 6) := by rw [← HX.out, List.take_take, Nat.min_eq_left (by omega)]
  have h1 := splice_insert2 cur.toList (xs.take (i * 6)) el (xs.drop (i * 6)) (i * 6) hA (by simp [hxl]; omega) (by simp [HL.out, HCS.out]; omega)
  have e1 : i * 6 + el.length = (i + 1) * 6 := by rw [HL.out]; omega
  have e2 : (i + 1) * 6 + (xs.drop (i * 6)).length = (n + 1) * 6 := by simp [hxl]; omega
  rw [e1, e2] at h1
  rw [List.append_assoc] at h1
  simpa using h1
 ·intro b hb
  exact .inl hb
theorem insE {w : World} {v : Value} {n i c V : Nat} {xs el : List Value} {tV : TypeId} {cV : Array Value} (own : w.ownsRow 0 47 6 v n xs) (hl : el.length = 6) (he : ∀ j u, el[j]? = some u → w.cell? ((⟨V, 0, none⟩ : Addr).add j) = some u) (h1 : ∀ u ∈ el, u.oneCell' = true) (hx1 : ∀ u ∈ xs, u.oneCell' = true) (hn : n ≤ 1000) (hi : i ≤ n) (hV : Has w V tV cV) (hag : v.ownBlock ≠ some V) :
 Calls Tryz.prog 136 #[v, .int .i64 ((i : Nat) : Int), .slice (some ⟨V, 0, none⟩) 1 c] w (InsPost w v 47 6 (n + 1) (xs.take (i * 6) ++ el ++ xs.drop (i * 6))) := by
 have hxl := own.1
 by_cases e : i = n
 ·subst e
  have h := insE_end own hl he h1 hn (c := c)
  rw [List.take_of_length_le (by omega), List.drop_eq_nil_of_le (by omega), List.append_nil]
  exact h
 ·rcases own.2 with ⟨_, h2⟩ | ⟨g, cap, cur, rfl, hb, hg, hnc, hcm, hcs, htk⟩
  ·omega
  ·have hag' : V ≠ g := fun h => hag (by subst h; rfl)
   by_cases hc : n = cap
   ·subst hc
    exact insE_full hg htk hxl hl he h1 hx1 hn (by omega)
   ·exact insE_room hg hcs htk hxl hl he h1 hx1 hn (by omega) (by omega) hcm hag' hV
structure Ent where
 seq : Nat
 key : ByteArray
 del : Bool
 slot : Nat
 off : Nat
 size : Nat
def Ent.cells (e : Ent) : List Value := [.int .i64 ((e.seq : Nat) : Int), .string e.key, .bool e.del, .int .i64 ((e.slot : Nat) : Int), .int .i64 ((e.off : Nat) : Int), .int .i64 ((e.size : Nat) : Int)]
def Ent.val (e : Ent) : Value := .agg #[.int .i64 ((e.seq : Nat) : Int), .string e.key, .bool e.del, .int .i64 ((e.slot : Nat) : Int), .int .i64 ((e.off : Nat) : Int), .int .i64 ((e.size : Nat) : Int)]
def cmpI (a b : Int) : Int := if a < b then -1 else if b < a then 1 else 0
theorem ret_i64 {a b : Int} (h : a = b) : Ending.returned (.int .i64 a) = .returned (.int .i64 b) := by rw [h]
theorem cmp_i64 {w : World} {a b : Int} :
 Calls Tryz.prog 219 #[.int .i64 a, .int .i64 b] w fun e w' => e = .returned (.int .i64 (cmpI a b)) ∧ w = w' := by
 go_enter Tryz.func219, Tryz.ntmps219
 go_wp2
 all_goals
  go_ret
  refine ⟨ret_i64 ?_, rfl⟩
  unfold cmpI
  (try split) <;> (try split) <;> omega
theorem cmp_int {w : World} {a b : Int} :
 Calls Tryz.prog 135 #[.int .i64 a, .int .i64 b] w fun e w' => e = .returned (.int .i64 (cmpI a b)) ∧ w = w' := by
 go_enter Tryz.func135, Tryz.ntmps135
 go_wp2
 all_goals
  go_ret
  refine ⟨ret_i64 ?_, rfl⟩
  unfold cmpI
  (try split) <;> (try split) <;> omega
end Go.M
