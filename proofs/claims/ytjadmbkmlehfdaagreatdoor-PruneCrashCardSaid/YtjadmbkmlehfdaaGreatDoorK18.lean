/- Walks 18. -/
import Derived.Test.YtjadmbkmlehfdaaGreatDoorProg
import Derived.Test.YtjadmbkmlehfdaaGreatDoorK15
import Derived.Test.YtjadmbkmlehfdaaGreatDoorK17
set_option linter.unusedVariables false
set_option linter.unusedSimpArgs false
set_option maxRecDepth 100000
namespace Go.M
open Go.Proofs Go.RowKit Go.Shelf
def BV (W : World) (col : Col) (v : Value) (bs : List UInt8) : Prop := BytesAt W v bs ∧ ∀ ad n c, v = .slice (some ad) n c → (col ad.block).1 = 0 ∧ ad.block < W.heap.size
theorem BV.upd {F : Nat → Prop} {W W' : World} {col col' : Col} {v : Value} {bs : List UInt8} (h : BV W col v bs) (U : Upd F W W') (hF : ∀ b, F b → (col b).1 ≠ 0) (hc : Kept W col col') : BV W' col' v bs :=
 ⟨h.1.upd U (fun ad n c e hf => hF _ hf (h.2 ad n c e).1), fun ad n c e => ⟨by rw [hc _ (h.2 ad n c e).2]; exact (h.2 ad n c e).1, Nat.lt_of_lt_of_le (h.2 ad n c e).2 U.size⟩⟩
def RV (W : World) (col : Col) (R kd seq : Nat) (key val : ByteArray) : Prop := Has W R 170 #[.int .i64 ((kd : Nat) : Int), .int .i64 ((seq : Nat) : Int), .string key, .string val] ∧ (col R).1 = 0
theorem RV.upd {F : Nat → Prop} {W W' : World} {col col' : Col} {R kd seq : Nat} {key val : ByteArray} (h : RV W col R kd seq key val) (U : Upd F W W') (hF : ∀ b, F b → (col b).1 ≠ 0) (hc : Kept W col col') : RV W' col' R kd seq key val :=
 ⟨U.has h.1 (fun hf => hF _ hf h.2), by rw [hc _ h.1.lt]; exact h.2⟩
structure RecOk (k : Cf) (next kd : Nat) (key val : ByteArray) (bs : List UInt8) : Prop where
 hk : KeyOk key
 k2 : key.size ≤ 2
 v1 : val.size ≤ k.value
 kd : kd = 1 ∨ (kd = 2 ∧ val = ⟨#[]⟩)
 len : bs.length = 16 + key.size + val.size
 n1 : 1 ≤ next
 n2 : next ≤ 99
theorem RecOk.check {k : Cf} {next kd : Nat} {key val : ByteArray} {bs : List UInt8} (h : RecOk k next kd key val bs) (hv : k.value ≤ 512) (w : World) :
 Calls Tryz.prog 178 #[.agg #[.int .i64 ((kd : Nat) : Int), .int .i64 ((next : Nat) : Int), .string key, .string val]] w fun e w' => e = .returned (.int .i64 0) ∧ Old w w' := by
 have h1 := h.n1
 have h2 := h.n2
 have h3 := h.v1
 rcases h.kd with rfl | ⟨rfl, rfl⟩
 ·exact rcheck_put h.hk (by omega) (by omega) (by omega)
 ·exact rcheck_del h.hk (by omega) (by omega)
structure TailSt (W : World) (col : Col) (PP D B X : Nat) (k : Cf) (next u iu : Nat) (lens : Nat → Nat) (ops : Nat) (v : Value) (bs : List UInt8) (R kd : Nat) (key val : ByteArray) : Prop where
 p : PIn W col PP D B X k next u iu true lens ops
 b : BV W col v bs
 r : RV W col R kd next key val
 ok : RecOk k next kd key val bs
 iu1 : u - 1 ≤ iu
 iu2 : iu ≤ u
 fit : lens (u - 1) + bs.length + 16 ≤ k.size
def DoPost (w : World) (PP D B X : Nat) (k : Cf) (next ops : Nat) (col0 : Col) (e : Ending) (w' : World) : Prop :=
 e = .returned (.bool true) ∧ ∃ col' used' act' lens' next' ops', PIn w' col' PP D B X k next' used' used' act' lens' ops' ∧ next' ≤ next + 1 ∧ ops' ≤ ops + 10 ∧ Kept w col0 col' ∧ Upd (fun b => 1 ≤ (col0 b).1) w w'
def tEnt (next kd slot off : Nat) (key val : ByteArray) : Ent := ⟨next, key, ((kd : Nat) : Int) == 2, slot, off, 16 + key.size + val.size⟩
section
variable {W W3 W4 W5 : World} {col col4 col5 : Col} {PP D B X : Nat} {k : Cf} {next u iu : Nat} {lens : Nat → Nat} {ops : Nat} {v : Value} {bs : List UInt8} {R kd : Nat} {key val : ByteArray}
theorem TailSt.old (h : TailSt W col PP D B X k next u iu lens ops v bs R kd key val) (U : Old W W3) : TailSt W3 col PP D B X k next u iu lens ops v bs R kd key val :=
 ⟨h.p.old U (Kept.refl _ _) h.p.lts.1 h.p.lts.2, h.b.upd U (fun b h => h.elim) (Kept.refl _ _), h.r.upd U (fun b h => h.elim) (Kept.refl _ _), h.ok, h.iu1, h.iu2, h.fit⟩
theorem tail_len (h : TailSt W col PP D B X k next u iu lens ops v bs R kd key val) :
 Calls Tryz.prog 12 #[.pointer (some ⟨D, 0, none⟩), .int .i64 ((u - 1 : Nat) : Int)] W fun e w' => e = .returned (.tuple #[.int .i64 ((lens (u - 1) : Nat) : Int), .int .i64 0]) ∧ Old W w' :=
 h.p.dev.len (by have := (h.p.actv rfl).1; have := h.p.un; omega)
theorem tail_entry (h : TailSt W col PP D B X k next u iu lens ops v bs R kd key val) (w : World) :
 Calls Tryz.prog 106 #[.agg #[.int .i64 ((kd : Nat) : Int), .int .i64 ((next : Nat) : Int), .string key, .string val], .int .i64 ((u - 1 : Nat) : Int), .int .i64 ((lens (u - 1) : Nat) : Int)] w fun e w' => e = .returned (.tuple #[(tEnt next kd (u - 1) (lens (u - 1)) key val).val, .int .i64 0]) ∧ Old w w' := by
 have h1 := h.ok.k2
 have h2 := h.ok.v1
 have h3 := h.p.vv
 have h4 := h.p.un
 have h5 := h.p.n9
 have h6 := h.p.fits (u - 1) (by have := (h.p.actv rfl).1; omega)
 have h7 := h.p.z2
 exact rentry (by omega) (by omega) (by omega) (by omega) (h.ok.check h3)
theorem tail_app (h : TailSt W col PP D B X k next u iu lens ops v bs R kd key val) (ho : ops < 900000) (U : Upd (fun b => b = PP) W W3) :
 Calls Tryz.prog 107 #[.pointer (some ⟨D, 0, none⟩), .int .i64 ((u - 1 : Nat) : Int), v] W3 fun e W4 => e = .returned (.int .i64 0) ∧
  ∃ col4, DevU W4 col4 1 D k.n k.size (fun j => if j = u - 1 then lens (u - 1) + bs.length else lens j) (fun j => j ≠ u - 1) (ops + 1) ∧ Upd (fun b => (col b).1 = 1) W3 W4 ∧ Kept W3 col col4 := by
 have hb := h.b.upd U (fun b hb => by rw [hb, h.p.cP]; decide) (Kept.refl _ _)
 have hu := (h.p.actv rfl).1
 have h1 := h.ok.len
 have h2 := h.fit
 exact ((h.p.dev.other U (fun b hb => by rw [hb, h.p.cP]; decide) (Kept.refl _ _)).append (by have := h.p.un; omega) (by omega) hb.1 (by omega) (by omega) (fun ad n c e => by rw [(hb.2 ad n c e).1]; decide)).mono fun e w' ⟨h1, c, h2, h3⟩ => ⟨h1, c, h2.mono (fun j _ hj => ⟨fun _ => hj, hj⟩), h3⟩
theorem tail_add (h : TailSt W col PP D B X k next u iu lens ops v bs R kd key val) (U : Upd (fun b => b = PP) W W3) (U4 : Upd (fun b => (col b).1 = 1) W3 W4) (k4 : Kept W3 col col4) :
 Calls Tryz.prog 64 #[.pointer (some ⟨X, 0, none⟩), (tEnt next kd (u - 1) (lens (u - 1)) key val).val] W4 fun e W5 => e = .returned (.int .i64 0) ∧
  ∃ col5, IdxAt W5 col5 3 X k.n (next + 1) (max iu (u - 1 + 1)) (fun i => if i = u - 1 then lens (u - 1) + (16 + key.size + val.size) else lens i) (18 + k.value) ∧ Upd (fun b => (col4 b).1 = 3) W4 W5 ∧ Kept W4 col4 col5 := by
 have hu := (h.p.actv rfl).1
 have h1 := h.ok.len
 have h2 := h.fit
 have h3 := h.p.un
 have h4 := h.p.z2
 have i4 := (h.p.idx.other U (fun b hb => by rw [hb, h.p.cP]; decide) (Kept.refl _ _)).other U4 (fun b hb => by rw [hb]; decide) k4
 refine idx_add i4 (show u - 1 < k.n by omega) h.iu1 rfl (Nat.le_refl _) ⟨h.ok.hk, h.ok.n1, by show next ≤ _; have := h.ok.n2; omega, Nat.le_add_right _ _, ?_, by show lens (u - 1) + (16 + key.size + val.size) ≤ 8192; omega⟩ (by show 16 + key.size + val.size ≤ 18 + k.value; have := h.ok.k2; have := h.ok.v1; omega) (by have := h.ok.n2; omega)
 rcases h.ok.kd with rfl | ⟨rfl, rfl⟩
 ·exact .inr rfl
 ·exact .inl rfl
theorem tail_end (h : TailSt W col PP D B X k next u iu lens ops v bs R kd key val) (U : Upd (fun b => b = PP) W W3)
 (hp3 : ∃ t, Has W3 PP t #[.int .i64 ((k.n : Nat) : Int), .int .i64 ((k.size : Nat) : Int), .int .i64 ((k.reserve : Nat) : Int), .int .i64 k.c3, .int .i64 k.c4, .int .i64 ((k.value : Nat) : Int), .int .i64 k.c6, .pointer (some ⟨D, 0, none⟩), .pointer (some ⟨B, 0, none⟩), .pointer (some ⟨X, 0, none⟩), .int .i64 ((next + 1 : Nat) : Int)])
 (d4 : DevU W4 col4 1 D k.n k.size (fun j => if j = u - 1 then lens (u - 1) + bs.length else lens j) (fun j => j ≠ u - 1) (ops + 1)) (U4 : Upd (fun b => (col b).1 = 1) W3 W4) (k4 : Kept W3 col col4)
 (i5 : IdxAt W5 col5 3 X k.n (next + 1) (max iu (u - 1 + 1)) (fun i => if i = u - 1 then lens (u - 1) + (16 + key.size + val.size) else lens i) (18 + k.value)) (U5 : Upd (fun b => (col4 b).1 = 3) W4 W5) (k5 : Kept W4 col4 col5) :
 PIn W5 col5 PP D B X k (next + 1) u u true (fun j => if j = u - 1 then lens (u - 1) + bs.length else lens j) (ops + 1) ∧ Kept W col col5 ∧ Upd (fun b => 1 ≤ (col b).1) W W5 := by
 have hu := (h.p.actv rfl).1
 have h1 := h.ok.len
 have h2 := h.fit
 have h3 := h.p.un
 have s3 := U.size
 have s4 := U4.size
 have kk : ∀ b, b < W.heap.size → col5 b = col b := fun b hb => by rw [k5 b (by omega), k4 b (by omega)]
 have kk4 : ∀ b, b < W.heap.size → col4 b = col b := fun b hb => k4 b (by omega)
 obtain ⟨tp, hp⟩ := h.p.p
 have hPl := hp.lt
 have hP1 : ¬ (col PP).1 = 1 := by rw [h.p.cP]; decide
 have hP3 : ¬ (col4 PP).1 = 3 := by rw [kk4 _ hPl, h.p.cP]; decide
 have mx : max iu (u - 1 + 1) = u := by have := h.iu2; omega
 have q1 := h.p.lts
 refine ⟨⟨?_, by rw [kk _ hPl, h.p.cP], (d4.other U5 (fun b hb => by rw [hb]; decide) k5).mono (fun _ _ hj => hj rfl), ?_, ?_, ?_, ?_, by rw [kk _ q1.1, h.p.cd], by rw [kk _ q1.2, h.p.cs], h.p.n4, h.p.n9, h.p.z1, h.p.z2, h.p.vv, fun i a1 a2 => ?_, fun i hi => ?_, fun _ => ⟨hu, ?_⟩, h3, by omega⟩, kk, ?_⟩
 ·obtain ⟨t3, h3⟩ := hp3
  exact ⟨t3, U5.has (U4.has h3 hP1) hP3⟩
 ·exact ((h.p.tab.other U (fun b hb => by rw [hb, h.p.cP]; decide) (Kept.refl _ _)).other U4 (fun b hb => by rw [hb]; decide) k4).other U5 (fun b hb => by rw [hb]; decide) k5
 ·rw [mx] at i5
  rw [h1]
  exact i5
 ·refine ((h.p.db.upd U (fun e => ?_)).upd U4 (by rw [h.p.cd]; decide)).upd U5 (by rw [kk4 _ q1.1, h.p.cd]; decide)
  have := h.p.cd
  rw [e, h.p.cP] at this
  cases this
 ·refine ((h.p.se.upd U (fun e => ?_)).upd U4 (by rw [h.p.cs]; decide)).upd U5 (by rw [kk4 _ q1.2, h.p.cs]; decide)
  have := h.p.cs
  rw [e, h.p.cP] at this
  cases this
 ·rw [if_neg (by omega)]
  exact h.p.zero i a1 a2
 ·split
  ·omega
  ·exact h.p.fits i hi
 ·rw [if_pos rfl]; exact h2
 ·refine ((Upd.mono U (fun b hb e => ?_)).after U4 (fun b hb e => ?_)).after U5 (fun b hb e => ?_)
  ·rw [e, h.p.cP]; decide
  ·rw [e]; decide
  ·rw [kk4 b hb] at e; rw [e]; decide
end
theorem mkeyS_size : ∀ q, q < 6 → (mkeyS q).size ≤ 2 := by decide +kernel
theorem rec_enc {W : World} {k : Cf} {next kd : Nat} {key val : ByteArray} (hk : KeyOk key) (hv : val.size ≤ 512) (hkd : kd = 1 ∨ (kd = 2 ∧ val = ⟨#[]⟩)) (n1 : 1 ≤ next) (n2 : next ≤ 99) :
 Calls Tryz.prog 103 #[.agg #[.int .i64 ((kd : Nat) : Int), .int .i64 ((next : Nat) : Int), .string key, .string val]] W fun e w' => ∃ v bs, e = .returned (.tuple #[v, .int .i64 0]) ∧ BytesAt w' v bs ∧ bs.length = 16 + key.size + val.size ∧ Old W w' ∧ Fresh W v := by
 have k1 := hk.1
 have k2 := hk.2.1
 rcases hkd with rfl | ⟨rfl, rfl⟩
 ·exact rencode k1 k2 hv (fun w => rcheck_put hk (by omega) (by omega) hv) (fun sum hs w => hencode hs (by omega) (by omega) (by omega) (by omega) (fun w => hcheck_put (by omega) (by omega) (by omega) (by omega) (by omega) (by omega)))
 ·exact rencode k1 k2 hv (fun w => rcheck_del hk (by omega) (by omega)) (fun sum hs w => hencode hs (by omega) (by omega) (by omega) (by omega) (fun w => hcheck_del (by omega) (by omega) (Int.le_refl 0) (Int.le_refl 0) (by omega) (by omega)))
theorem bytes_some {W : World} {v : Value} {bs : List UInt8} (h : BytesAt W v bs) (h0 : 0 < bs.length) : ∃ ad c, v = .slice (some ad) bs.length c ∧ ad.block < W.heap.size := by
 rcases h with ⟨_, h1⟩ | ⟨ad, c, rfl, hb⟩
 ·rw [h1] at h0; simp at h0
 ·refine ⟨ad, c, rfl, ?_⟩
  have := hb 0 (bcell (bs[0]'h0)) (by rw [List.getElem?_map, List.getElem?_eq_getElem h0]; rfl)
  have hl := World.block_lt_of_cell? W _ this
  rwa [show (ad.add 0).block = ad.block from by unfold Addr.add; split <;> rfl] at hl
theorem tail_w3 {W w10 : World} {PP : Nat} (O : Old W w10) (x : Value) (o : Obj) : Upd (fun b => b = PP) W ((w10.setCell ⟨PP, 10, none⟩ x).alloc o) :=
 ((Upd.mono O (G := fun b => b = PP) (fun _ _ x => x.elim)).setCell ⟨PP, 10, none⟩ x (.inl rfl)).alloc o
theorem tail_p3 {W w10 : World} {PP : Nat} {t : TypeId} {a b c d e f g D B X n : Value} (h : Has W PP t #[a, b, c, d, e, f, g, D, B, X, n]) (O : Old W w10) (x : Value) (o : Obj) :
 Has ((w10.setCell ⟨PP, 10, none⟩ x).alloc o) PP t #[a, b, c, d, e, f, g, D, B, X, x] := by
 have := (((Old.has O h).set 10 x).alloc o)
 simpa using this
theorem tail_box (w10 : World) (PP : Nat) (x : Value) (t : TypeId) (c : Array Value) : Has ((w10.setCell ⟨PP, 10, none⟩ x).alloc (.cells c t)) w10.heap.size t c := by
 have := Has.new (w10.setCell ⟨PP, 10, none⟩ x) t c
 simpa using this
theorem tail_s {w w' : World} {F : Nat → Prop} {PP E : Nat} {a b c0 c1 c2 c3 c4 c5 : Value} (h : w.cell? ⟨PP, 7, none⟩ = some a ∧ w.cell? ⟨PP, 9, none⟩ = some b ∧ w.cell? ⟨E, 0, none⟩ = some c0 ∧ w.cell? ⟨E, 1, none⟩ = some c1 ∧ w.cell? ⟨E, 2, none⟩ = some c2 ∧ w.cell? ⟨E, 3, none⟩ = some c3 ∧ w.cell? ⟨E, 4, none⟩ = some c4 ∧ w.cell? ⟨E, 5, none⟩ = some c5)
 (U : Upd F w.drew w') (hP : ¬ F PP) (hE : ¬ F E) : w'.cell? ⟨PP, 7, none⟩ = some a ∧ w'.cell? ⟨PP, 9, none⟩ = some b ∧ w'.cell? ⟨E, 0, none⟩ = some c0 ∧ w'.cell? ⟨E, 1, none⟩ = some c1 ∧ w'.cell? ⟨E, 2, none⟩ = some c2 ∧ w'.cell? ⟨E, 3, none⟩ = some c3 ∧ w'.cell? ⟨E, 4, none⟩ = some c4 ∧ w'.cell? ⟨E, 5, none⟩ = some c5 := by
 obtain ⟨h1, h2, h3, h4, h5, h6, h7, h8⟩ := h
 exact ⟨U.cellOf h1 hP, U.cellOf h2 hP, U.cellOf h3 hE, U.cellOf h4 hE, U.cellOf h5 hE, U.cellOf h6 hE, U.cellOf h7 hE, U.cellOf h8 hE⟩
theorem tail_s' {w w' : World} {F : Nat → Prop} {PP E : Nat} {a b c0 c1 c2 c3 c4 c5 : Value} (h : w.cell? ⟨PP, 7, none⟩ = some a ∧ w.cell? ⟨PP, 9, none⟩ = some b ∧ w.cell? ⟨E, 0, none⟩ = some c0 ∧ w.cell? ⟨E, 1, none⟩ = some c1 ∧ w.cell? ⟨E, 2, none⟩ = some c2 ∧ w.cell? ⟨E, 3, none⟩ = some c3 ∧ w.cell? ⟨E, 4, none⟩ = some c4 ∧ w.cell? ⟨E, 5, none⟩ = some c5)
 (U : Upd F w w') (hP : ¬ F PP) (hE : ¬ F E) : w'.cell? ⟨PP, 7, none⟩ = some a ∧ w'.cell? ⟨PP, 9, none⟩ = some b ∧ w'.cell? ⟨E, 0, none⟩ = some c0 ∧ w'.cell? ⟨E, 1, none⟩ = some c1 ∧ w'.cell? ⟨E, 2, none⟩ = some c2 ∧ w'.cell? ⟨E, 3, none⟩ = some c3 ∧ w'.cell? ⟨E, 4, none⟩ = some c4 ∧ w'.cell? ⟨E, 5, none⟩ = some c5 := by
 obtain ⟨h1, h2, h3, h4, h5, h6, h7, h8⟩ := h
 exact ⟨U.cellOf h1 hP, U.cellOf h2 hP, U.cellOf h3 hE, U.cellOf h4 hE, U.cellOf h5 hE, U.cellOf h6 hE, U.cellOf h7 hE, U.cellOf h8 hE⟩
theorem TabU.free' {w : World} {col : Col} {q B n r used : Nat} {act : Bool} (h : TabU w col q B n r used act) :
 Calls Tryz.prog 27 #[.pointer (some ⟨B, 0, none⟩)] w fun e w' => e = .returned (.int .i64 ((n - used : Nat) : Int)) ∧ w' = w :=
 h.free.mono fun _ _ ⟨h1, h2⟩ => ⟨h1, h2.symm⟩
theorem PIn.take {w w' : World} {col : Col} {PP D B X : Nat} {k : Cf} {next used : Nat} {lens : Nat → Nat} {ops : Nat} (h : PIn w col PP D B X k next used used false lens ops) (hu : used < k.n) (ht : TabU w' col 2 B k.n k.reserve (used + 1) true) (U : Upd (fun b => (col b).1 = 2) w w') : PIn w' col PP D B X k next (used + 1) used true lens ops := by
 obtain ⟨t, p⟩ := h.p
 have hz := h.zero used (Nat.le_refl _) hu
 have hz1 := h.z1
 exact ⟨⟨t, U.has p (by rw [h.cP]; decide)⟩, h.cP, (h.dev.other U (fun b h => by rw [h]; decide) (Kept.refl _ _)).mono (fun _ _ _ hf => by cases hf), ht, h.idx.other U (fun b h => by rw [h]; decide) (Kept.refl _ _), h.db.upd U (by rw [h.cd]; decide), h.se.upd U (by rw [h.cs]; decide), h.cd, h.cs, h.n4, h.n9, h.z1, h.z2, h.vv, fun i a b => h.zero i (by omega) b, h.fits, fun _ => ⟨by omega, by rw [Nat.add_sub_cancel]; omega⟩, hu, h.nx⟩
theorem tail_take {w6 w7 : World} {col6 : Col} {PP D B X : Nat} {k : Cf} {next used : Nat} {lens6 : Nat → Nat} {ops : Nat} {v : Value} {bs : List UInt8} {R kd : Nat} {key val : ByteArray} (h : PIn w6 col6 PP D B X k next used used false lens6 ops) (hu : used < k.n) (ht : TabU w7 col6 2 B k.n k.reserve (used + 1) true) (U : Upd (fun b => (col6 b).1 = 2) w6 w7)
 (hb : BV w6 col6 v bs) (hr : RV w6 col6 R kd next key val) (ok : RecOk k next kd key val bs) : TailSt w7 (trim w7 col6) PP D B X k next (used + 1) used lens6 ops v bs R kd key val := by
 have h7 := h.take hu ht U
 have q := h7.lts
 have hz := h.zero used (Nat.le_refl _) hu
 have hz1 := h.z1
 have l1 := ok.len
 have l2 := ok.k2
 have l3 := ok.v1
 refine ⟨h7.old (Upd.refl _ _) (trim_kept w7 col6) q.1 q.2, (hb.upd U (fun b h => by rw [h]; decide) (Kept.refl _ _)).upd (Upd.refl (fun _ => False) w7) (fun b h => h.elim) (trim_kept w7 col6), (hr.upd U (fun b h => by rw [h]; decide) (Kept.refl _ _)).upd (Upd.refl (fun _ => False) w7) (fun b h => h.elim) (trim_kept w7 col6), ok, by omega, by omega, ?_⟩
 rw [Nat.add_sub_cancel]
 omega
theorem p_cells {w : World} {col : Col} {PP D B X : Nat} {k : Cf} {next used iu : Nat} {act : Bool} {lens : Nat → Nat} {ops : Nat} (h : PIn w col PP D B X k next used iu act lens ops) : w.cell? ⟨PP, 8, none⟩ = some (.pointer (some ⟨B, 0, none⟩)) ∧ w.cell? ⟨PP, 2, none⟩ = some (.int .i64 ((k.reserve : Nat) : Int)) := by
 obtain ⟨t, p⟩ := h.p
 exact ⟨p.cell 8, p.cell 2⟩
end Go.M
namespace Go.M
open Go.Proofs Go.RowKit Go.Shelf
theorem do_close {w : World} {col : Col} {PP D B X : Nat} {k : Cf} {next used : Nat} {lens : Nat → Nat} {ops kind key size : Nat} (h : PIn w col PP D B X k next used used true lens ops) (ho : ops < 800000) (hk : kind < 256) (h6 : ((kind : Int) % 8 == 6) = true) :
 Calls Tryz.prog 40 #[.pointer (some ⟨PP, 0, none⟩), .agg #[.int .u8 ((kind : Nat) : Int), .int .u8 ((key : Nat) : Int), .int .u8 ((size : Nat) : Int)]] w (DoPost w PP D B X k next ops col) := by
 have hq := h.lts
 have HT0 := Lib.hid (fun (W : World) (U : Old w W) => h.old U (trim_kept w col) hq.1 hq.2)
 have HON := Lib.hid (fun (W : World) (U : Old w W) => (HT0.out W U).tab.only (HT0.out W U).db (h.actv rfl).1)
 have HCL := Lib.hid (fun (W : World) (U : Old w W) => pclose (HT0.out W U) (by omega))
 obtain ⟨tP, fP⟩ := h.p
 have p8 : w.cell? ⟨PP, 8, none⟩ = some (.pointer (some ⟨B, 0, none⟩)) := fP.cell 8
 have hPl := fP.lt
 have hnx := h.nx
 clear h fP
 go_enter Tryz.func40, Tryz.ntmps40
 have O1 : Old w (w.alloc (.cells #[.int .u8 ((kind : Nat) : Int), .int .u8 ((key : Nat) : Int), .int .u8 ((size : Nat) : Int)] 92)) := (Upd.refl _ w).alloc _
 have HO1 := HON.out _ O1
 have HC1 := HCL.out _ O1
 have HO := Lib.hid O1
 clear O1
 go_wp2_with (first | (go_at_call 10; refine HO1.mono ?_; rintro e w1 ⟨rfl, rfl⟩) | (go_at_call 101; refine HC1.mono ?_; rintro e w2 ⟨rfl, col', lens', hP, hU, hK⟩; have HP := Lib.hid hP; have HU := Lib.hid hU; have HK := Lib.hid hK; clear hP hU hK))
 go_ret
 have hl := HO.out.size
 have kk : ∀ b, b < w.heap.size → col' b = col b := fun b hb => by rw [HK.out b (by omega), trim_kept w col b hb]
 refine ⟨rfl, col', used, false, lens', next, ops + 2, HP.out, by omega, by omega, kk, (Upd.mono HO.out (fun _ _ x => x.elim)).after HU.out (fun b hb e => ?_)⟩
 rw [trim_kept w col b hb] at e
 exact e.1
theorem do_none {w : World} {col : Col} {PP D B X : Nat} {k : Cf} {next used : Nat} {lens : Nat → Nat} {ops kind key size : Nat} (h : PIn w col PP D B X k next used used false lens ops) (hk : kind < 256) (h6 : ((kind : Int) % 8 == 6) = true) :
 Calls Tryz.prog 40 #[.pointer (some ⟨PP, 0, none⟩), .agg #[.int .u8 ((kind : Nat) : Int), .int .u8 ((key : Nat) : Int), .int .u8 ((size : Nat) : Int)]] w (DoPost w PP D B X k next ops col) := by
 have hq := h.lts
 have HT0 := Lib.hid (fun (W : World) (U : Old w W) => h.old U (trim_kept w col) hq.1 hq.2)
 have HON := Lib.hid (fun (W : World) (U : Old w W) => (HT0.out W U).tab.idle)
 obtain ⟨tP, fP⟩ := h.p
 have p8 : w.cell? ⟨PP, 8, none⟩ = some (.pointer (some ⟨B, 0, none⟩)) := fP.cell 8
 have hPl := fP.lt
 clear h fP
 go_enter Tryz.func40, Tryz.ntmps40
 have O1 : Old w (w.alloc (.cells #[.int .u8 ((kind : Nat) : Int), .int .u8 ((key : Nat) : Int), .int .u8 ((size : Nat) : Int)] 92)) := (Upd.refl _ w).alloc _
 have HO1 := HON.out _ O1
 have HP1 := Lib.hid (HT0.out _ O1)
 have HO := Lib.hid O1
 clear O1
 go_wp2_with (first | (go_at_call 10; refine HO1.mono ?_; rintro e w1 ⟨rfl, rfl⟩))
 go_ret
 exact ⟨rfl, trim w col, used, false, lens, next, ops, HP1.out, by omega, by omega, trim_kept w col, Upd.mono HO.out (fun _ _ x => x.elim)⟩
end Go.M
