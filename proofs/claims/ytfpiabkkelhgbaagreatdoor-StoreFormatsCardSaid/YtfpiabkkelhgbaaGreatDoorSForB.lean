/- StoreFormats returns true for every configuration, at every world whose package variables are as the program's text lays them; no condition beside the row's own. -/
import Derived.Test.YtfpiabkkelhgbaaGreatDoorSForA
import Derived.Test.YtfpiabkkelhgbaaGreatDoorDxTbYZ
import Derived.Test.YtfpiabkkelhgbaaGreatDoorE13
import Derived.Test.YtfpiabkkelhgbaaGreatDoorSForT
import Derived.Test.YtfpiabkkelhgbaaGreatDoorCards
namespace Go.Proofs.YtfpiabkkelhgbaaGreatDoor.storeFormats
open Go.ChangeShapes Go.WideShapes Go.ChangeAt Go.RowKit Go.X
set_option linter.unusedVariables false
set_option maxRecDepth 100000
set_option maxHeartbeats 40000000

noncomputable section
noncomputable def sy (a0 a1 a2 a3 a4 a5 a6 b7 b8 b9 b10 b11 b12 : Int) (c13 c14 : Nat) : Nat → Value
  | 0 => .int .i64 a0 | 1 => .int .i64 a1 | 2 => .int .i64 a2 | 3 => .int .i64 a3 | 4 => .int .i64 a4 | 5 => .int .i64 a5 | 6 => .int .i64 a6
  | 7 => .int .i64 b7 | 8 => .int .i64 b8 | 9 => .int .i64 b9 | 10 => .int .i64 b10 | 11 => .int .i64 b11 | 12 => .int .i64 b12
  | 13 => .int .u32 (Int.ofNat c13) | _ => .int .u32 (Int.ofNat c14)
/-- what the program makes of the numbers -/
structure Made (a2 a4 a5 b7 b8 b9 b10 b11 b12 : Int) : Prop where
  h7 : b7 = fwrap .i64 (iAdd a2 2)
  h8 : b8 = fwrap .i64 (iAdd 16 a4)
  h9 : b9 = fwrap .i64 (iAdd b8 a5)
  h10 : b10 = fwrap .i64 (iAdd 16 b9)
  h11 : b11 = fwrap .i64 (iAdd b9 16)
  h12 : b12 = fwrap .i64 (2 * b11)

theorem wrap_in (x : Int) : (-9223372036854775808) ≤ fwrap .i64 x ∧ fwrap .i64 x ≤ 9223372036854775807 := by
  rw [fwrap_eq, IntKind.wrap_i64]
  omega

theorem wrap_id {x : Int} (h : (-9223372036854775808) ≤ x ∧ x ≤ 9223372036854775807) : fwrap .i64 x = x := by
  rw [fwrap_eq, IntKind.wrap_i64]
  omega

theorem res_is {i : Nat} {b x : Int} {sy : Nat → Value} {e : Env} (he : e.sy = sy) (hs : sy i = .int .i64 b) (hb : b = fwrap .i64 x) : cv e (.res i (.rng .i64 (-9223372036854775808) (9223372036854775807))) = cv e (.int .i64 (fwrap .i64 x)) := by
  have h := wrap_in x
  subst hb
  show (RC.rng .i64 (-9223372036854775808) (9223372036854775807)).val (e.sy i) = some (.int .i64 (fwrap .i64 x))
  rw [he, hs]
  simp only [RC.val, h, and_self, if_true]

theorem cvAgg {e : Env} {l : List AV} {vs : List Value} (h : cvs e l = some vs) : cv e (.agg l) = some (.agg vs.toArray) := by
  simp only [cv, h]

theorem rng_cv {e : Env} {i : Nat} {k : IntKind} {lo hi x : Int} (hs : e.sy i = .int k x) (h : lo ≤ x ∧ x ≤ hi) : cv e (.res i (.rng k lo hi)) = some (.int k x) := by
  show (RC.rng k lo hi).val (e.sy i) = _
  rw [hs]
  simp only [RC.val, h, and_self, if_true]

theorem lss_f {a b : Int} (h : b ≤ a) : binInt .lss .i64 .i64 a b = some (.bool false) := by
  show some (AV.bool (iLt a b)) = _
  rw [iLt_eq, decide_eq_false (by omega)]
theorem lss_t {a b : Int} (h : a < b) : binInt .lss .i64 .i64 a b = some (.bool true) := by
  show some (AV.bool (iLt a b)) = _
  rw [iLt_eq, decide_eq_true (by omega)]
theorem geq_t {a b : Int} (h : b ≤ a) : binInt .geq .i64 .i64 a b = some (.bool true) := by
  show some (AV.bool (iLe b a)) = _
  rw [iLe_eq, decide_eq_true (by omega)]
theorem geq_f {a b : Int} (h : a < b) : binInt .geq .i64 .i64 a b = some (.bool false) := by
  show some (AV.bool (iLe b a)) = _
  rw [iLe_eq, decide_eq_false (by omega)]
theorem gtr_t {a b : Int} (h : b < a) : binInt .gtr .i64 .i64 a b = some (.bool true) := by
  show some (AV.bool (iLt b a)) = _
  rw [iLt_eq, decide_eq_true (by omega)]
theorem gtr_f {a b : Int} (h : a ≤ b) : binInt .gtr .i64 .i64 a b = some (.bool false) := by
  show some (AV.bool (iLt b a)) = _
  rw [iLt_eq, decide_eq_false (by omega)]
theorem leq_t {a b : Int} (h : a ≤ b) : binInt .leq .i64 .i64 a b = some (.bool true) := by
  show some (AV.bool (iLe a b)) = _
  rw [iLe_eq, decide_eq_true (by omega)]
theorem leq_f {a b : Int} (h : b < a) : binInt .leq .i64 .i64 a b = some (.bool false) := by
  show some (AV.bool (iLe a b)) = _
  rw [iLe_eq, decide_eq_false (by omega)]

def Wf (a0 a1 a2 a3 a4 a5 a6 : Int) : Prop := ((-9223372036854775808) ≤ a0 ∧ a0 ≤ 9223372036854775807) ∧ ((-9223372036854775808) ≤ a1 ∧ a1 ≤ 9223372036854775807) ∧ ((-9223372036854775808) ≤ a2 ∧ a2 ≤ 9223372036854775807) ∧ ((-9223372036854775808) ≤ a3 ∧ a3 ≤ 9223372036854775807) ∧ ((-9223372036854775808) ≤ a4 ∧ a4 ≤ 9223372036854775807) ∧ ((-9223372036854775808) ≤ a5 ∧ a5 ≤ 9223372036854775807) ∧ ((-9223372036854775808) ≤ a6 ∧ a6 ≤ 9223372036854775807) 
def cs (e S r : Nat) : List AV := kBytes [68, 82, 85, 77, e, 0, 0, 0, 0, 0, 0, 0, S, 0, 0, 0] ++ ([(.res 2 (.nat .u8 (.byt 0) 33 8192)), (.res 2 (.nat .u8 (.byt 1) 33 8192))] ++ (kBytes [0, 0] ++ ([(.res 4 (.nat .u8 (.byt 0) 2 r))] ++ (kBytes [0, 0, 0] ++ ([(.res 6 (.nat .u8 (.byt 0) 66 65536)), (.res 6 (.nat .u8 (.byt 1) 66 65536)), (.res 6 (.nat .u8 (.byt 2) 66 65536))] ++ (kBytes [0] ++ ([(.res 8 (.nat .u8 (.byt 0) 1 32))] ++ (kBytes [0, 0, 0] ++ ([(.res 10 (.nat .u8 (.byt 0) 0 512)), (.res 10 (.nat .u8 (.byt 1) 0 512))] ++ (kBytes [0, 0] ++ ([(.res 12 (.nat .u8 (.byt 0) 1 2))] ++ (kBytes (List.replicate 23 0)))))))))))))
def bs (e S m1 m2 m3 m4 m5 m6 : Nat) : List Nat := [68, 82, 85, 77, e, 0, 0, 0, 0, 0, 0, 0, S, 0, 0, 0] ++ ([(m1 / 2 ^ (8 * 0) % 256), (m1 / 2 ^ (8 * 1) % 256)] ++ ([0, 0] ++ ([(m2 / 2 ^ (8 * 0) % 256)] ++ ([0, 0, 0] ++ ([(m3 / 2 ^ (8 * 0) % 256), (m3 / 2 ^ (8 * 1) % 256), (m3 / 2 ^ (8 * 2) % 256)] ++ ([0] ++ ([(m4 / 2 ^ (8 * 0) % 256)] ++ ([0, 0, 0] ++ ([(m5 / 2 ^ (8 * 0) % 256), (m5 / 2 ^ (8 * 1) % 256)] ++ ([0, 0] ++ ([(m6 / 2 ^ (8 * 0) % 256)] ++ ((List.replicate 23 0)))))))))))))
theorem cs_cv {W : World} {u S r m1 m2 m3 m4 m5 m6 c13 c14 : Nat} {s b7 b8 b9 b10 b11 b12 : Int} (h1 : 33 ≤ m1 ∧ m1 ≤ 8192) (h2 : 2 ≤ m2 ∧ m2 ≤ r) (h3 : 66 ≤ m3 ∧ m3 ≤ 65536) (h4 : 1 ≤ m4 ∧ m4 ≤ 32) (h5 : m5 ≤ 512) (h6 : 1 ≤ m6 ∧ m6 ≤ 2) : ∀ e : Env, e.sy = (env0 Tryz.prog.globals.size W (sy s (m1 : Int) (m2 : Int) (m3 : Int) (m4 : Int) (m5 : Int) (m6 : Int) b7 b8 b9 b10 b11 b12 c13 c14)).sy → cvs e (cs u S r) = some ((bs u S m1 m2 m3 m4 m5 m6).map fun b => .int .u8 (Int.ofNat b)) := by
  intro e he
  exact (cvs_app_bytes (cvs_bytes e _) (cvs_app_bytes (cvs_mk (byt_cv (n := m1) (k := .i64) ((congrFun he 2).trans rfl) (by constructor <;> omega)) (cvs_mk (byt_cv (n := m1) (k := .i64) ((congrFun he 2).trans rfl) (by constructor <;> omega)) rfl)) (cvs_app_bytes (cvs_bytes e _) (cvs_app_bytes (cvs_mk (byt_cv (n := m2) (k := .i64) ((congrFun he 4).trans rfl) (by constructor <;> omega)) rfl) (cvs_app_bytes (cvs_bytes e _) (cvs_app_bytes (cvs_mk (byt_cv (n := m3) (k := .i64) ((congrFun he 6).trans rfl) (by constructor <;> omega)) (cvs_mk (byt_cv (n := m3) (k := .i64) ((congrFun he 6).trans rfl) (by constructor <;> omega)) (cvs_mk (byt_cv (n := m3) (k := .i64) ((congrFun he 6).trans rfl) (by constructor <;> omega)) rfl))) (cvs_app_bytes (cvs_bytes e _) (cvs_app_bytes (cvs_mk (byt_cv (n := m4) (k := .i64) ((congrFun he 8).trans rfl) (by constructor <;> omega)) rfl) (cvs_app_bytes (cvs_bytes e _) (cvs_app_bytes (cvs_mk (byt_cv (n := m5) (k := .i64) ((congrFun he 10).trans rfl) (by constructor <;> omega)) (cvs_mk (byt_cv (n := m5) (k := .i64) ((congrFun he 10).trans rfl) (by constructor <;> omega)) rfl)) (cvs_app_bytes (cvs_bytes e _) (cvs_app_bytes (cvs_mk (byt_cv (n := m6) (k := .i64) ((congrFun he 12).trans rfl) (by constructor <;> omega)) rfl) (cvs_bytes e _)))))))))))))
theorem bs_lt {e S : Nat} (he : e < 256) (hS : S < 256) (m1 m2 m3 m4 m5 m6 : Nat) : ∀ b ∈ bs e S m1 m2 m3 m4 m5 m6, b < 256 :=
  (List.forall_mem_append.2 ⟨(by intro b hb; simp at hb; omega), (List.forall_mem_append.2 ⟨(List.forall_mem_cons.2 ⟨Nat.mod_lt _ (by decide), (List.forall_mem_cons.2 ⟨Nat.mod_lt _ (by decide), (fun _ h => by cases h)⟩)⟩), (List.forall_mem_append.2 ⟨(by intro b hb; simp at hb; omega), (List.forall_mem_append.2 ⟨(List.forall_mem_cons.2 ⟨Nat.mod_lt _ (by decide), (fun _ h => by cases h)⟩), (List.forall_mem_append.2 ⟨(by intro b hb; simp at hb; omega), (List.forall_mem_append.2 ⟨(List.forall_mem_cons.2 ⟨Nat.mod_lt _ (by decide), (List.forall_mem_cons.2 ⟨Nat.mod_lt _ (by decide), (List.forall_mem_cons.2 ⟨Nat.mod_lt _ (by decide), (fun _ h => by cases h)⟩)⟩)⟩), (List.forall_mem_append.2 ⟨(by intro b hb; simp at hb; omega), (List.forall_mem_append.2 ⟨(List.forall_mem_cons.2 ⟨Nat.mod_lt _ (by decide), (fun _ h => by cases h)⟩), (List.forall_mem_append.2 ⟨(by intro b hb; simp at hb; omega), (List.forall_mem_append.2 ⟨(List.forall_mem_cons.2 ⟨Nat.mod_lt _ (by decide), (List.forall_mem_cons.2 ⟨Nat.mod_lt _ (by decide), (fun _ h => by cases h)⟩)⟩), (List.forall_mem_append.2 ⟨(by intro b hb; simp at hb; omega), (List.forall_mem_append.2 ⟨(List.forall_mem_cons.2 ⟨Nat.mod_lt _ (by decide), (fun _ h => by cases h)⟩), (by intro b hb; simp at hb; omega)⟩)⟩)⟩)⟩)⟩)⟩)⟩)⟩)⟩)⟩)⟩)⟩)
abbrev Concl (W : World) (a0 a1 a2 a3 a4 a5 a6 : Int) : Prop := Calls Tryz.prog 3 #[.agg #[.int .i64 a0, .int .i64 a1, .int .i64 a2, .int .i64 a3, .int .i64 a4, .int .i64 a5, .int .i64 a6]] W fun e w' => e = .returned (.bool true) ∧ (∀ B, B < W.heap.size → w'.heap[B]? = W.heap[B]?) ∧ ∀ may, W.keptBut w' may
theorem base6 {NG : Nat} {W : World} {a0 a1 a2 a3 a4 a5 a6 b7 b8 b9 b10 b11 b12 : Int} {c13 c14 : Nat} (hm : Made a2 a4 a5 b7 b8 b9 b10 b11 b12) {K : List OraE} (hK : OraOk K (env0 NG W (sy a0 a1 a2 a3 a4 a5 a6 b7 b8 b9 b10 b11 b12 c13 c14)).sy) : OraOk (⟨.add, (.res 4 (.rng .i64 (-9223372036854775808) (9223372036854775807))), (.int .i64 (2)), (.res 14 (.rng .i64 (-9223372036854775808) (9223372036854775807))), none⟩ :: ⟨.add, (.int .i64 (16)), (.res 8 (.rng .i64 (-9223372036854775808) (9223372036854775807))), (.res 16 (.rng .i64 (-9223372036854775808) (9223372036854775807))), none⟩ :: ⟨.add, (.res 16 (.rng .i64 (-9223372036854775808) (9223372036854775807))), (.res 10 (.rng .i64 (-9223372036854775808) (9223372036854775807))), (.res 18 (.rng .i64 (-9223372036854775808) (9223372036854775807))), none⟩ :: ⟨.add, (.int .i64 (16)), (.res 18 (.rng .i64 (-9223372036854775808) (9223372036854775807))), (.res 20 (.rng .i64 (-9223372036854775808) (9223372036854775807))), none⟩ :: ⟨.add, (.res 18 (.rng .i64 (-9223372036854775808) (9223372036854775807))), (.int .i64 (16)), (.res 22 (.rng .i64 (-9223372036854775808) (9223372036854775807))), none⟩ :: ⟨.mul, (.int .i64 (2)), (.res 22 (.rng .i64 (-9223372036854775808) (9223372036854775807))), (.res 24 (.rng .i64 (-9223372036854775808) (9223372036854775807))), none⟩ :: K) (env0 NG W (sy a0 a1 a2 a3 a4 a5 a6 b7 b8 b9 b10 b11 b12 c13 c14)).sy := by
  refine ora_cons .i64 a2 .i64 (2) (.int .i64 (fwrap .i64 (iAdd a2 (2)))) rfl rfl rfl (fun e he => res_is (sy := (env0 NG W (sy a0 a1 a2 a3 a4 a5 a6 b7 b8 b9 b10 b11 b12 c13 c14)).sy) (i := 14) he rfl hm.h7) ?_
  refine ora_cons .i64 (16) .i64 a4 (.int .i64 (fwrap .i64 (iAdd (16) a4))) rfl rfl rfl (fun e he => res_is (sy := (env0 NG W (sy a0 a1 a2 a3 a4 a5 a6 b7 b8 b9 b10 b11 b12 c13 c14)).sy) (i := 16) he rfl hm.h8) ?_
  refine ora_cons .i64 b8 .i64 a5 (.int .i64 (fwrap .i64 (iAdd b8 a5))) rfl rfl rfl (fun e he => res_is (sy := (env0 NG W (sy a0 a1 a2 a3 a4 a5 a6 b7 b8 b9 b10 b11 b12 c13 c14)).sy) (i := 18) he rfl hm.h9) ?_
  refine ora_cons .i64 (16) .i64 b9 (.int .i64 (fwrap .i64 (iAdd (16) b9))) rfl rfl rfl (fun e he => res_is (sy := (env0 NG W (sy a0 a1 a2 a3 a4 a5 a6 b7 b8 b9 b10 b11 b12 c13 c14)).sy) (i := 20) he rfl hm.h10) ?_
  refine ora_cons .i64 b9 .i64 (16) (.int .i64 (fwrap .i64 (iAdd b9 (16)))) rfl rfl rfl (fun e he => res_is (sy := (env0 NG W (sy a0 a1 a2 a3 a4 a5 a6 b7 b8 b9 b10 b11 b12 c13 c14)).sy) (i := 22) he rfl hm.h11) ?_
  refine ora_cons .i64 (2) .i64 b11 (.int .i64 (fwrap .i64 ((2) * b11))) rfl rfl rfl (fun e he => res_is (sy := (env0 NG W (sy a0 a1 a2 a3 a4 a5 a6 b7 b8 b9 b10 b11 b12 c13 c14)).sy) (i := 24) he rfl hm.h12) ?_
  exact hK

theorem ora0 {NG : Nat} {W : World} {a0 a1 a2 a3 a4 a5 a6 b7 b8 b9 b10 b11 b12 : Int} (hm : Made a2 a4 a5 b7 b8 b9 b10 b11 b12) (g0 : a2 ≤ 1) : OraOk YO0 (env0 NG W (sy a0 a1 a2 a3 a4 a5 a6 b7 b8 b9 b10 b11 b12 0 0)).sy := by
  unfold YO0
  refine base6 hm ?_
  exact ora_nil _

theorem case0 {W : World} (h : laidMetH Tryz.prog laidL W) {a0 a1 a2 a3 a4 a5 a6 b7 b8 b9 b10 b11 b12 : Int} (hw : Wf a0 a1 a2 a3 a4 a5 a6) (hm : Made a2 a4 a5 b7 b8 b9 b10 b11 b12) (g0 : a2 ≤ 1) : Concl W a0 a1 a2 a3 a4 a5 a6 := by
  obtain ⟨w0, w1, w2, w3, w4, w5, w6⟩ := hw
  refine top_trueg (xp_ok _ _) (xp_fns _ _) mixed (YmT _) (xp_sums _ _) (l := YL0) (by rw [nGlob]; exact YT0) (globs h) (by unfold YL0; exact List.mem_cons_self ..) (vs := [.agg #[.int .i64 a0, .int .i64 a1, .int .i64 a2, .int .i64 a3, .int .i64 a4, .int .i64 a5, .int .i64 a6]]) (sy a0 a1 a2 a3 a4 a5 a6 b7 b8 b9 b10 b11 b12 0 0) (ora0 hm (by omega)) ?_
  exact cvs_mk (cvAgg (cvs_mk (rng_cv rfl (by omega)) (cvs_mk (rng_cv rfl (by omega)) (cvs_mk (rng_cv rfl (by omega)) (cvs_mk (rng_cv rfl (by omega)) (cvs_mk (rng_cv rfl (by omega)) (cvs_mk (rng_cv rfl (by omega)) (cvs_mk (rng_cv rfl (by omega)) rfl)))))))) rfl

theorem ora1 {NG : Nat} {W : World} {a0 a1 a2 a3 a4 a5 a6 b7 b8 b9 b10 b11 b12 : Int} (hm : Made a2 a4 a5 b7 b8 b9 b10 b11 b12) (g0 : (9) ≤ a2) : OraOk YO1 (env0 NG W (sy a0 a1 a2 a3 a4 a5 a6 b7 b8 b9 b10 b11 b12 0 0)).sy := by
  unfold YO1
  refine base6 hm ?_
  exact ora_nil _

theorem case1 {W : World} (h : laidMetH Tryz.prog laidL W) {a0 a1 a2 a3 a4 a5 a6 b7 b8 b9 b10 b11 b12 : Int} (hw : Wf a0 a1 a2 a3 a4 a5 a6) (hm : Made a2 a4 a5 b7 b8 b9 b10 b11 b12) (g0 : (9) ≤ a2) : Concl W a0 a1 a2 a3 a4 a5 a6 := by
  obtain ⟨w0, w1, w2, w3, w4, w5, w6⟩ := hw
  refine top_trueg (xp_ok _ _) (xp_fns _ _) mixed (YmT _) (xp_sums _ _) (l := YL1) (by rw [nGlob]; exact YT1) (globs h) (by unfold YL1; exact List.mem_cons_self ..) (vs := [.agg #[.int .i64 a0, .int .i64 a1, .int .i64 a2, .int .i64 a3, .int .i64 a4, .int .i64 a5, .int .i64 a6]]) (sy a0 a1 a2 a3 a4 a5 a6 b7 b8 b9 b10 b11 b12 0 0) (ora1 hm (by omega)) ?_
  exact cvs_mk (cvAgg (cvs_mk (rng_cv rfl (by omega)) (cvs_mk (rng_cv rfl (by omega)) (cvs_mk (rng_cv rfl (by omega)) (cvs_mk (rng_cv rfl (by omega)) (cvs_mk (rng_cv rfl (by omega)) (cvs_mk (rng_cv rfl (by omega)) (cvs_mk (rng_cv rfl (by omega)) rfl)))))))) rfl

theorem ora2 {NG : Nat} {W : World} {a0 a1 a2 a3 a4 a5 a6 b7 b8 b9 b10 b11 b12 : Int} (hm : Made a2 a4 a5 b7 b8 b9 b10 b11 b12) (g0 : (2) ≤ a2) (g1 : a2 ≤ 8) (g2 : b7 = a2 + 2) (g3 : a0 < b7) : OraOk YO2 (env0 NG W (sy a0 a1 a2 a3 a4 a5 a6 b7 b8 b9 b10 b11 b12 0 0)).sy := by
  unfold YO2
  refine base6 hm ?_
  refine ora_cons .i64 a0 .i64 b7 (.bool true) rfl rfl (lss_t (by omega)) (fun _ _ => rfl) ?_
  refine ora_cons .i64 a0 .i64 b7 (.bool false) rfl rfl (geq_f (by omega)) (fun _ _ => rfl) ?_
  exact ora_nil _

theorem case2 {W : World} (h : laidMetH Tryz.prog laidL W) {a0 a1 a2 a3 a4 a5 a6 b7 b8 b9 b10 b11 b12 : Int} (hw : Wf a0 a1 a2 a3 a4 a5 a6) (hm : Made a2 a4 a5 b7 b8 b9 b10 b11 b12) (g0 : (2) ≤ a2) (g1 : a2 ≤ 8) (g2 : b7 = a2 + 2) (g3 : a0 < b7) : Concl W a0 a1 a2 a3 a4 a5 a6 := by
  obtain ⟨w0, w1, w2, w3, w4, w5, w6⟩ := hw
  refine top_trueg (xp_ok _ _) (xp_fns _ _) mixed (YmT _) (xp_sums _ _) (l := YL2) (by rw [nGlob]; exact YT2) (globs h) (by unfold YL2; exact List.mem_cons_self ..) (vs := [.agg #[.int .i64 a0, .int .i64 a1, .int .i64 a2, .int .i64 a3, .int .i64 a4, .int .i64 a5, .int .i64 a6]]) (sy a0 a1 a2 a3 a4 a5 a6 b7 b8 b9 b10 b11 b12 0 0) (ora2 hm (by omega) (by omega) (by omega) (by omega)) ?_
  exact cvs_mk (cvAgg (cvs_mk (rng_cv rfl (by omega)) (cvs_mk (rng_cv rfl (by omega)) (cvs_mk (rng_cv rfl (by omega)) (cvs_mk (rng_cv rfl (by omega)) (cvs_mk (rng_cv rfl (by omega)) (cvs_mk (rng_cv rfl (by omega)) (cvs_mk (rng_cv rfl (by omega)) rfl)))))))) rfl

theorem ora3 {NG : Nat} {W : World} {a0 a1 a2 a3 a4 a5 a6 b7 b8 b9 b10 b11 b12 : Int} (hm : Made a2 a4 a5 b7 b8 b9 b10 b11 b12) (g0 : (2) ≤ a2) (g1 : a2 ≤ 8) (g2 : b7 = a2 + 2) (g3 : (33) ≤ a0) : OraOk YO3 (env0 NG W (sy a0 a1 a2 a3 a4 a5 a6 b7 b8 b9 b10 b11 b12 0 0)).sy := by
  unfold YO3
  refine base6 hm ?_
  refine ora_cons .i64 a0 .i64 b7 (.bool false) rfl rfl (lss_f (by omega)) (fun _ _ => rfl) ?_
  refine ora_cons .i64 a0 .i64 b7 (.bool true) rfl rfl (geq_t (by omega)) (fun _ _ => rfl) ?_
  exact ora_nil _

theorem case3 {W : World} (h : laidMetH Tryz.prog laidL W) {a0 a1 a2 a3 a4 a5 a6 b7 b8 b9 b10 b11 b12 : Int} (hw : Wf a0 a1 a2 a3 a4 a5 a6) (hm : Made a2 a4 a5 b7 b8 b9 b10 b11 b12) (g0 : (2) ≤ a2) (g1 : a2 ≤ 8) (g2 : b7 = a2 + 2) (g3 : (33) ≤ a0) : Concl W a0 a1 a2 a3 a4 a5 a6 := by
  obtain ⟨w0, w1, w2, w3, w4, w5, w6⟩ := hw
  refine top_trueg (xp_ok _ _) (xp_fns _ _) mixed (YmT _) (xp_sums _ _) (l := YL3) (by rw [nGlob]; exact YT3) (globs h) (by unfold YL3; exact List.mem_cons_self ..) (vs := [.agg #[.int .i64 a0, .int .i64 a1, .int .i64 a2, .int .i64 a3, .int .i64 a4, .int .i64 a5, .int .i64 a6]]) (sy a0 a1 a2 a3 a4 a5 a6 b7 b8 b9 b10 b11 b12 0 0) (ora3 hm (by omega) (by omega) (by omega) (by omega)) ?_
  exact cvs_mk (cvAgg (cvs_mk (rng_cv rfl (by omega)) (cvs_mk (rng_cv rfl (by omega)) (cvs_mk (rng_cv rfl (by omega)) (cvs_mk (rng_cv rfl (by omega)) (cvs_mk (rng_cv rfl (by omega)) (cvs_mk (rng_cv rfl (by omega)) (cvs_mk (rng_cv rfl (by omega)) rfl)))))))) rfl

theorem ora4 {NG : Nat} {W : World} {a0 a1 a2 a3 a4 a5 a6 b7 b8 b9 b10 b11 b12 : Int} (hm : Made a2 a4 a5 b7 b8 b9 b10 b11 b12) (g0 : (2) ≤ a2) (g1 : a2 ≤ 8) (g2 : b7 = a2 + 2) (g3 : b7 ≤ a0) (g4 : a0 ≤ 32) (g5 : a4 ≤ 0) : OraOk YO4 (env0 NG W (sy a0 a1 a2 a3 a4 a5 a6 b7 b8 b9 b10 b11 b12 0 0)).sy := by
  unfold YO4
  refine base6 hm ?_
  refine ora_cons .i64 a0 .i64 b7 (.bool false) rfl rfl (lss_f (by omega)) (fun _ _ => rfl) ?_
  refine ora_cons .i64 a0 .i64 b7 (.bool true) rfl rfl (geq_t (by omega)) (fun _ _ => rfl) ?_
  exact ora_nil _

theorem case4 {W : World} (h : laidMetH Tryz.prog laidL W) {a0 a1 a2 a3 a4 a5 a6 b7 b8 b9 b10 b11 b12 : Int} (hw : Wf a0 a1 a2 a3 a4 a5 a6) (hm : Made a2 a4 a5 b7 b8 b9 b10 b11 b12) (g0 : (2) ≤ a2) (g1 : a2 ≤ 8) (g2 : b7 = a2 + 2) (g3 : b7 ≤ a0) (g4 : a0 ≤ 32) (g5 : a4 ≤ 0) : Concl W a0 a1 a2 a3 a4 a5 a6 := by
  obtain ⟨w0, w1, w2, w3, w4, w5, w6⟩ := hw
  refine top_trueg (xp_ok _ _) (xp_fns _ _) mixed (YmT _) (xp_sums _ _) (l := YL4) (by rw [nGlob]; exact YT4) (globs h) (by unfold YL4; exact List.mem_cons_self ..) (vs := [.agg #[.int .i64 a0, .int .i64 a1, .int .i64 a2, .int .i64 a3, .int .i64 a4, .int .i64 a5, .int .i64 a6]]) (sy a0 a1 a2 a3 a4 a5 a6 b7 b8 b9 b10 b11 b12 0 0) (ora4 hm (by omega) (by omega) (by omega) (by omega) (by omega) (by omega)) ?_
  exact cvs_mk (cvAgg (cvs_mk (rng_cv rfl (by omega)) (cvs_mk (rng_cv rfl (by omega)) (cvs_mk (rng_cv rfl (by omega)) (cvs_mk (rng_cv rfl (by omega)) (cvs_mk (rng_cv rfl (by omega)) (cvs_mk (rng_cv rfl (by omega)) (cvs_mk (rng_cv rfl (by omega)) rfl)))))))) rfl

theorem ora5 {NG : Nat} {W : World} {a0 a1 a2 a3 a4 a5 a6 b7 b8 b9 b10 b11 b12 : Int} (hm : Made a2 a4 a5 b7 b8 b9 b10 b11 b12) (g0 : (2) ≤ a2) (g1 : a2 ≤ 8) (g2 : b7 = a2 + 2) (g3 : b7 ≤ a0) (g4 : a0 ≤ 32) (g5 : (33) ≤ a4) : OraOk YO5 (env0 NG W (sy a0 a1 a2 a3 a4 a5 a6 b7 b8 b9 b10 b11 b12 0 0)).sy := by
  unfold YO5
  refine base6 hm ?_
  refine ora_cons .i64 a0 .i64 b7 (.bool false) rfl rfl (lss_f (by omega)) (fun _ _ => rfl) ?_
  refine ora_cons .i64 a0 .i64 b7 (.bool true) rfl rfl (geq_t (by omega)) (fun _ _ => rfl) ?_
  exact ora_nil _

theorem case5 {W : World} (h : laidMetH Tryz.prog laidL W) {a0 a1 a2 a3 a4 a5 a6 b7 b8 b9 b10 b11 b12 : Int} (hw : Wf a0 a1 a2 a3 a4 a5 a6) (hm : Made a2 a4 a5 b7 b8 b9 b10 b11 b12) (g0 : (2) ≤ a2) (g1 : a2 ≤ 8) (g2 : b7 = a2 + 2) (g3 : b7 ≤ a0) (g4 : a0 ≤ 32) (g5 : (33) ≤ a4) : Concl W a0 a1 a2 a3 a4 a5 a6 := by
  obtain ⟨w0, w1, w2, w3, w4, w5, w6⟩ := hw
  refine top_trueg (xp_ok _ _) (xp_fns _ _) mixed (YmT _) (xp_sums _ _) (l := YL5) (by rw [nGlob]; exact YT5) (globs h) (by unfold YL5; exact List.mem_cons_self ..) (vs := [.agg #[.int .i64 a0, .int .i64 a1, .int .i64 a2, .int .i64 a3, .int .i64 a4, .int .i64 a5, .int .i64 a6]]) (sy a0 a1 a2 a3 a4 a5 a6 b7 b8 b9 b10 b11 b12 0 0) (ora5 hm (by omega) (by omega) (by omega) (by omega) (by omega) (by omega)) ?_
  exact cvs_mk (cvAgg (cvs_mk (rng_cv rfl (by omega)) (cvs_mk (rng_cv rfl (by omega)) (cvs_mk (rng_cv rfl (by omega)) (cvs_mk (rng_cv rfl (by omega)) (cvs_mk (rng_cv rfl (by omega)) (cvs_mk (rng_cv rfl (by omega)) (cvs_mk (rng_cv rfl (by omega)) rfl)))))))) rfl

theorem ora6 {NG : Nat} {W : World} {a0 a1 a2 a3 a4 a5 a6 b7 b8 b9 b10 b11 b12 : Int} (hm : Made a2 a4 a5 b7 b8 b9 b10 b11 b12) (g0 : (2) ≤ a2) (g1 : a2 ≤ 8) (g2 : b7 = a2 + 2) (g3 : b7 ≤ a0) (g4 : a0 ≤ 32) (g5 : (1) ≤ a4) (g6 : a4 ≤ 32) (g7 : a5 ≤ -1) : OraOk YO6 (env0 NG W (sy a0 a1 a2 a3 a4 a5 a6 b7 b8 b9 b10 b11 b12 0 0)).sy := by
  unfold YO6
  refine base6 hm ?_
  refine ora_cons .i64 a0 .i64 b7 (.bool false) rfl rfl (lss_f (by omega)) (fun _ _ => rfl) ?_
  refine ora_cons .i64 a0 .i64 b7 (.bool true) rfl rfl (geq_t (by omega)) (fun _ _ => rfl) ?_
  exact ora_nil _

theorem case6 {W : World} (h : laidMetH Tryz.prog laidL W) {a0 a1 a2 a3 a4 a5 a6 b7 b8 b9 b10 b11 b12 : Int} (hw : Wf a0 a1 a2 a3 a4 a5 a6) (hm : Made a2 a4 a5 b7 b8 b9 b10 b11 b12) (g0 : (2) ≤ a2) (g1 : a2 ≤ 8) (g2 : b7 = a2 + 2) (g3 : b7 ≤ a0) (g4 : a0 ≤ 32) (g5 : (1) ≤ a4) (g6 : a4 ≤ 32) (g7 : a5 ≤ -1) : Concl W a0 a1 a2 a3 a4 a5 a6 := by
  obtain ⟨w0, w1, w2, w3, w4, w5, w6⟩ := hw
  refine top_trueg (xp_ok _ _) (xp_fns _ _) mixed (YmT _) (xp_sums _ _) (l := YL6) (by rw [nGlob]; exact YT6) (globs h) (by unfold YL6; exact List.mem_cons_self ..) (vs := [.agg #[.int .i64 a0, .int .i64 a1, .int .i64 a2, .int .i64 a3, .int .i64 a4, .int .i64 a5, .int .i64 a6]]) (sy a0 a1 a2 a3 a4 a5 a6 b7 b8 b9 b10 b11 b12 0 0) (ora6 hm (by omega) (by omega) (by omega) (by omega) (by omega) (by omega) (by omega) (by omega)) ?_
  exact cvs_mk (cvAgg (cvs_mk (rng_cv rfl (by omega)) (cvs_mk (rng_cv rfl (by omega)) (cvs_mk (rng_cv rfl (by omega)) (cvs_mk (rng_cv rfl (by omega)) (cvs_mk (rng_cv rfl (by omega)) (cvs_mk (rng_cv rfl (by omega)) (cvs_mk (rng_cv rfl (by omega)) rfl)))))))) rfl

theorem ora7 {NG : Nat} {W : World} {a0 a1 a2 a3 a4 a5 a6 b7 b8 b9 b10 b11 b12 : Int} (hm : Made a2 a4 a5 b7 b8 b9 b10 b11 b12) (g0 : (2) ≤ a2) (g1 : a2 ≤ 8) (g2 : b7 = a2 + 2) (g3 : b7 ≤ a0) (g4 : a0 ≤ 32) (g5 : (1) ≤ a4) (g6 : a4 ≤ 32) (g7 : (513) ≤ a5) : OraOk YO7 (env0 NG W (sy a0 a1 a2 a3 a4 a5 a6 b7 b8 b9 b10 b11 b12 0 0)).sy := by
  unfold YO7
  refine base6 hm ?_
  refine ora_cons .i64 a0 .i64 b7 (.bool false) rfl rfl (lss_f (by omega)) (fun _ _ => rfl) ?_
  refine ora_cons .i64 a0 .i64 b7 (.bool true) rfl rfl (geq_t (by omega)) (fun _ _ => rfl) ?_
  exact ora_nil _

theorem case7 {W : World} (h : laidMetH Tryz.prog laidL W) {a0 a1 a2 a3 a4 a5 a6 b7 b8 b9 b10 b11 b12 : Int} (hw : Wf a0 a1 a2 a3 a4 a5 a6) (hm : Made a2 a4 a5 b7 b8 b9 b10 b11 b12) (g0 : (2) ≤ a2) (g1 : a2 ≤ 8) (g2 : b7 = a2 + 2) (g3 : b7 ≤ a0) (g4 : a0 ≤ 32) (g5 : (1) ≤ a4) (g6 : a4 ≤ 32) (g7 : (513) ≤ a5) : Concl W a0 a1 a2 a3 a4 a5 a6 := by
  obtain ⟨w0, w1, w2, w3, w4, w5, w6⟩ := hw
  refine top_trueg (xp_ok _ _) (xp_fns _ _) mixed (YmT _) (xp_sums _ _) (l := YL7) (by rw [nGlob]; exact YT7) (globs h) (by unfold YL7; exact List.mem_cons_self ..) (vs := [.agg #[.int .i64 a0, .int .i64 a1, .int .i64 a2, .int .i64 a3, .int .i64 a4, .int .i64 a5, .int .i64 a6]]) (sy a0 a1 a2 a3 a4 a5 a6 b7 b8 b9 b10 b11 b12 0 0) (ora7 hm (by omega) (by omega) (by omega) (by omega) (by omega) (by omega) (by omega) (by omega)) ?_
  exact cvs_mk (cvAgg (cvs_mk (rng_cv rfl (by omega)) (cvs_mk (rng_cv rfl (by omega)) (cvs_mk (rng_cv rfl (by omega)) (cvs_mk (rng_cv rfl (by omega)) (cvs_mk (rng_cv rfl (by omega)) (cvs_mk (rng_cv rfl (by omega)) (cvs_mk (rng_cv rfl (by omega)) rfl)))))))) rfl

theorem ora8 {NG : Nat} {W : World} {a0 a1 a2 a3 a4 a5 a6 b7 b8 b9 b10 b11 b12 : Int} (hm : Made a2 a4 a5 b7 b8 b9 b10 b11 b12) (g0 : (2) ≤ a2) (g1 : a2 ≤ 8) (g2 : b7 = a2 + 2) (g3 : b7 ≤ a0) (g4 : a0 ≤ 32) (g5 : (1) ≤ a4) (g6 : a4 ≤ 32) (g7 : (0) ≤ a5) (g8 : a5 ≤ 512) (g9 : b10 = a4 + a5 + 32) (g10 : b12 = 2 * a4 + 2 * a5 + 64) (g11 : a1 < b10) : OraOk YO8 (env0 NG W (sy a0 a1 a2 a3 a4 a5 a6 b7 b8 b9 b10 b11 b12 0 0)).sy := by
  unfold YO8
  refine base6 hm ?_
  refine ora_cons .i64 a0 .i64 b7 (.bool false) rfl rfl (lss_f (by omega)) (fun _ _ => rfl) ?_
  refine ora_cons .i64 a0 .i64 b7 (.bool true) rfl rfl (geq_t (by omega)) (fun _ _ => rfl) ?_
  refine ora_cons .i64 a1 .i64 b10 (.bool true) rfl rfl (lss_t (by omega)) (fun _ _ => rfl) ?_
  refine ora_cons .i64 a1 .i64 b10 (.bool false) rfl rfl (geq_f (by omega)) (fun _ _ => rfl) ?_
  exact ora_nil _

theorem case8 {W : World} (h : laidMetH Tryz.prog laidL W) {a0 a1 a2 a3 a4 a5 a6 b7 b8 b9 b10 b11 b12 : Int} (hw : Wf a0 a1 a2 a3 a4 a5 a6) (hm : Made a2 a4 a5 b7 b8 b9 b10 b11 b12) (g0 : (2) ≤ a2) (g1 : a2 ≤ 8) (g2 : b7 = a2 + 2) (g3 : b7 ≤ a0) (g4 : a0 ≤ 32) (g5 : (1) ≤ a4) (g6 : a4 ≤ 32) (g7 : (0) ≤ a5) (g8 : a5 ≤ 512) (g9 : b10 = a4 + a5 + 32) (g10 : b12 = 2 * a4 + 2 * a5 + 64) (g11 : a1 < b10) : Concl W a0 a1 a2 a3 a4 a5 a6 := by
  obtain ⟨w0, w1, w2, w3, w4, w5, w6⟩ := hw
  refine top_trueg (xp_ok _ _) (xp_fns _ _) mixed (YmT _) (xp_sums _ _) (l := YL8) (by rw [nGlob]; exact YT8) (globs h) (by unfold YL8; exact List.mem_cons_self ..) (vs := [.agg #[.int .i64 a0, .int .i64 a1, .int .i64 a2, .int .i64 a3, .int .i64 a4, .int .i64 a5, .int .i64 a6]]) (sy a0 a1 a2 a3 a4 a5 a6 b7 b8 b9 b10 b11 b12 0 0) (ora8 hm (by omega) (by omega) (by omega) (by omega) (by omega) (by omega) (by omega) (by omega) (by omega) (by omega) (by omega) (by omega)) ?_
  exact cvs_mk (cvAgg (cvs_mk (rng_cv rfl (by omega)) (cvs_mk (rng_cv rfl (by omega)) (cvs_mk (rng_cv rfl (by omega)) (cvs_mk (rng_cv rfl (by omega)) (cvs_mk (rng_cv rfl (by omega)) (cvs_mk (rng_cv rfl (by omega)) (cvs_mk (rng_cv rfl (by omega)) rfl)))))))) rfl

theorem ora9 {NG : Nat} {W : World} {a0 a1 a2 a3 a4 a5 a6 b7 b8 b9 b10 b11 b12 : Int} (hm : Made a2 a4 a5 b7 b8 b9 b10 b11 b12) (g0 : (2) ≤ a2) (g1 : a2 ≤ 8) (g2 : b7 = a2 + 2) (g3 : b7 ≤ a0) (g4 : a0 ≤ 32) (g5 : (1) ≤ a4) (g6 : a4 ≤ 32) (g7 : (0) ≤ a5) (g8 : a5 ≤ 512) (g9 : b10 = a4 + a5 + 32) (g10 : b12 = 2 * a4 + 2 * a5 + 64) (g11 : (8193) ≤ a1) : OraOk YO9 (env0 NG W (sy a0 a1 a2 a3 a4 a5 a6 b7 b8 b9 b10 b11 b12 0 0)).sy := by
  unfold YO9
  refine base6 hm ?_
  refine ora_cons .i64 a0 .i64 b7 (.bool false) rfl rfl (lss_f (by omega)) (fun _ _ => rfl) ?_
  refine ora_cons .i64 a0 .i64 b7 (.bool true) rfl rfl (geq_t (by omega)) (fun _ _ => rfl) ?_
  refine ora_cons .i64 a1 .i64 b10 (.bool false) rfl rfl (lss_f (by omega)) (fun _ _ => rfl) ?_
  refine ora_cons .i64 a1 .i64 b10 (.bool true) rfl rfl (geq_t (by omega)) (fun _ _ => rfl) ?_
  exact ora_nil _

theorem case9 {W : World} (h : laidMetH Tryz.prog laidL W) {a0 a1 a2 a3 a4 a5 a6 b7 b8 b9 b10 b11 b12 : Int} (hw : Wf a0 a1 a2 a3 a4 a5 a6) (hm : Made a2 a4 a5 b7 b8 b9 b10 b11 b12) (g0 : (2) ≤ a2) (g1 : a2 ≤ 8) (g2 : b7 = a2 + 2) (g3 : b7 ≤ a0) (g4 : a0 ≤ 32) (g5 : (1) ≤ a4) (g6 : a4 ≤ 32) (g7 : (0) ≤ a5) (g8 : a5 ≤ 512) (g9 : b10 = a4 + a5 + 32) (g10 : b12 = 2 * a4 + 2 * a5 + 64) (g11 : (8193) ≤ a1) : Concl W a0 a1 a2 a3 a4 a5 a6 := by
  obtain ⟨w0, w1, w2, w3, w4, w5, w6⟩ := hw
  refine top_trueg (xp_ok _ _) (xp_fns _ _) mixed (YmT _) (xp_sums _ _) (l := YL9) (by rw [nGlob]; exact YT9) (globs h) (by unfold YL9; exact List.mem_cons_self ..) (vs := [.agg #[.int .i64 a0, .int .i64 a1, .int .i64 a2, .int .i64 a3, .int .i64 a4, .int .i64 a5, .int .i64 a6]]) (sy a0 a1 a2 a3 a4 a5 a6 b7 b8 b9 b10 b11 b12 0 0) (ora9 hm (by omega) (by omega) (by omega) (by omega) (by omega) (by omega) (by omega) (by omega) (by omega) (by omega) (by omega) (by omega)) ?_
  exact cvs_mk (cvAgg (cvs_mk (rng_cv rfl (by omega)) (cvs_mk (rng_cv rfl (by omega)) (cvs_mk (rng_cv rfl (by omega)) (cvs_mk (rng_cv rfl (by omega)) (cvs_mk (rng_cv rfl (by omega)) (cvs_mk (rng_cv rfl (by omega)) (cvs_mk (rng_cv rfl (by omega)) rfl)))))))) rfl

theorem ora10 {NG : Nat} {W : World} {a0 a1 a2 a3 a4 a5 a6 b7 b8 b9 b10 b11 b12 : Int} (hm : Made a2 a4 a5 b7 b8 b9 b10 b11 b12) (g0 : (2) ≤ a2) (g1 : a2 ≤ 8) (g2 : b7 = a2 + 2) (g3 : b7 ≤ a0) (g4 : a0 ≤ 32) (g5 : (1) ≤ a4) (g6 : a4 ≤ 32) (g7 : (0) ≤ a5) (g8 : a5 ≤ 512) (g9 : b10 = a4 + a5 + 32) (g10 : b12 = 2 * a4 + 2 * a5 + 64) (g11 : b10 ≤ a1) (g12 : a1 ≤ 8192) (g13 : a3 < b12) : OraOk YO10 (env0 NG W (sy a0 a1 a2 a3 a4 a5 a6 b7 b8 b9 b10 b11 b12 0 0)).sy := by
  unfold YO10
  refine base6 hm ?_
  refine ora_cons .i64 a0 .i64 b7 (.bool false) rfl rfl (lss_f (by omega)) (fun _ _ => rfl) ?_
  refine ora_cons .i64 a0 .i64 b7 (.bool true) rfl rfl (geq_t (by omega)) (fun _ _ => rfl) ?_
  refine ora_cons .i64 a1 .i64 b10 (.bool false) rfl rfl (lss_f (by omega)) (fun _ _ => rfl) ?_
  refine ora_cons .i64 a1 .i64 b10 (.bool true) rfl rfl (geq_t (by omega)) (fun _ _ => rfl) ?_
  refine ora_cons .i64 a3 .i64 b12 (.bool true) rfl rfl (lss_t (by omega)) (fun _ _ => rfl) ?_
  refine ora_cons .i64 a3 .i64 b12 (.bool false) rfl rfl (geq_f (by omega)) (fun _ _ => rfl) ?_
  exact ora_nil _

theorem case10 {W : World} (h : laidMetH Tryz.prog laidL W) {a0 a1 a2 a3 a4 a5 a6 b7 b8 b9 b10 b11 b12 : Int} (hw : Wf a0 a1 a2 a3 a4 a5 a6) (hm : Made a2 a4 a5 b7 b8 b9 b10 b11 b12) (g0 : (2) ≤ a2) (g1 : a2 ≤ 8) (g2 : b7 = a2 + 2) (g3 : b7 ≤ a0) (g4 : a0 ≤ 32) (g5 : (1) ≤ a4) (g6 : a4 ≤ 32) (g7 : (0) ≤ a5) (g8 : a5 ≤ 512) (g9 : b10 = a4 + a5 + 32) (g10 : b12 = 2 * a4 + 2 * a5 + 64) (g11 : b10 ≤ a1) (g12 : a1 ≤ 8192) (g13 : a3 < b12) : Concl W a0 a1 a2 a3 a4 a5 a6 := by
  obtain ⟨w0, w1, w2, w3, w4, w5, w6⟩ := hw
  refine top_trueg (xp_ok _ _) (xp_fns _ _) mixed (YmT _) (xp_sums _ _) (l := YL10) (by rw [nGlob]; exact YT10) (globs h) (by unfold YL10; exact List.mem_cons_self ..) (vs := [.agg #[.int .i64 a0, .int .i64 a1, .int .i64 a2, .int .i64 a3, .int .i64 a4, .int .i64 a5, .int .i64 a6]]) (sy a0 a1 a2 a3 a4 a5 a6 b7 b8 b9 b10 b11 b12 0 0) (ora10 hm (by omega) (by omega) (by omega) (by omega) (by omega) (by omega) (by omega) (by omega) (by omega) (by omega) (by omega) (by omega) (by omega) (by omega)) ?_
  exact cvs_mk (cvAgg (cvs_mk (rng_cv rfl (by omega)) (cvs_mk (rng_cv rfl (by omega)) (cvs_mk (rng_cv rfl (by omega)) (cvs_mk (rng_cv rfl (by omega)) (cvs_mk (rng_cv rfl (by omega)) (cvs_mk (rng_cv rfl (by omega)) (cvs_mk (rng_cv rfl (by omega)) rfl)))))))) rfl

theorem ora11 {NG : Nat} {W : World} {a0 a1 a2 a3 a4 a5 a6 b7 b8 b9 b10 b11 b12 : Int} (hm : Made a2 a4 a5 b7 b8 b9 b10 b11 b12) (g0 : (2) ≤ a2) (g1 : a2 ≤ 8) (g2 : b7 = a2 + 2) (g3 : b7 ≤ a0) (g4 : a0 ≤ 32) (g5 : (1) ≤ a4) (g6 : a4 ≤ 32) (g7 : (0) ≤ a5) (g8 : a5 ≤ 512) (g9 : b10 = a4 + a5 + 32) (g10 : b12 = 2 * a4 + 2 * a5 + 64) (g11 : b10 ≤ a1) (g12 : a1 ≤ 8192) (g13 : (65537) ≤ a3) : OraOk YO11 (env0 NG W (sy a0 a1 a2 a3 a4 a5 a6 b7 b8 b9 b10 b11 b12 0 0)).sy := by
  unfold YO11
  refine base6 hm ?_
  refine ora_cons .i64 a0 .i64 b7 (.bool false) rfl rfl (lss_f (by omega)) (fun _ _ => rfl) ?_
  refine ora_cons .i64 a0 .i64 b7 (.bool true) rfl rfl (geq_t (by omega)) (fun _ _ => rfl) ?_
  refine ora_cons .i64 a1 .i64 b10 (.bool false) rfl rfl (lss_f (by omega)) (fun _ _ => rfl) ?_
  refine ora_cons .i64 a1 .i64 b10 (.bool true) rfl rfl (geq_t (by omega)) (fun _ _ => rfl) ?_
  refine ora_cons .i64 a3 .i64 b12 (.bool false) rfl rfl (lss_f (by omega)) (fun _ _ => rfl) ?_
  refine ora_cons .i64 a3 .i64 b12 (.bool true) rfl rfl (geq_t (by omega)) (fun _ _ => rfl) ?_
  exact ora_nil _

theorem case11 {W : World} (h : laidMetH Tryz.prog laidL W) {a0 a1 a2 a3 a4 a5 a6 b7 b8 b9 b10 b11 b12 : Int} (hw : Wf a0 a1 a2 a3 a4 a5 a6) (hm : Made a2 a4 a5 b7 b8 b9 b10 b11 b12) (g0 : (2) ≤ a2) (g1 : a2 ≤ 8) (g2 : b7 = a2 + 2) (g3 : b7 ≤ a0) (g4 : a0 ≤ 32) (g5 : (1) ≤ a4) (g6 : a4 ≤ 32) (g7 : (0) ≤ a5) (g8 : a5 ≤ 512) (g9 : b10 = a4 + a5 + 32) (g10 : b12 = 2 * a4 + 2 * a5 + 64) (g11 : b10 ≤ a1) (g12 : a1 ≤ 8192) (g13 : (65537) ≤ a3) : Concl W a0 a1 a2 a3 a4 a5 a6 := by
  obtain ⟨w0, w1, w2, w3, w4, w5, w6⟩ := hw
  refine top_trueg (xp_ok _ _) (xp_fns _ _) mixed (YmT _) (xp_sums _ _) (l := YL11) (by rw [nGlob]; exact YT11) (globs h) (by unfold YL11; exact List.mem_cons_self ..) (vs := [.agg #[.int .i64 a0, .int .i64 a1, .int .i64 a2, .int .i64 a3, .int .i64 a4, .int .i64 a5, .int .i64 a6]]) (sy a0 a1 a2 a3 a4 a5 a6 b7 b8 b9 b10 b11 b12 0 0) (ora11 hm (by omega) (by omega) (by omega) (by omega) (by omega) (by omega) (by omega) (by omega) (by omega) (by omega) (by omega) (by omega) (by omega) (by omega)) ?_
  exact cvs_mk (cvAgg (cvs_mk (rng_cv rfl (by omega)) (cvs_mk (rng_cv rfl (by omega)) (cvs_mk (rng_cv rfl (by omega)) (cvs_mk (rng_cv rfl (by omega)) (cvs_mk (rng_cv rfl (by omega)) (cvs_mk (rng_cv rfl (by omega)) (cvs_mk (rng_cv rfl (by omega)) rfl)))))))) rfl

theorem ora12 {NG : Nat} {W : World} {a0 a1 a2 a3 a4 a5 a6 b7 b8 b9 b10 b11 b12 : Int} (hm : Made a2 a4 a5 b7 b8 b9 b10 b11 b12) (g0 : (2) ≤ a2) (g1 : a2 ≤ 8) (g2 : b7 = a2 + 2) (g3 : b7 ≤ a0) (g4 : a0 ≤ 32) (g5 : (1) ≤ a4) (g6 : a4 ≤ 32) (g7 : (0) ≤ a5) (g8 : a5 ≤ 512) (g9 : b10 = a4 + a5 + 32) (g10 : b12 = 2 * a4 + 2 * a5 + 64) (g11 : b10 ≤ a1) (g12 : a1 ≤ 8192) (g13 : b12 ≤ a3) (g14 : a3 ≤ 65536) (g15 : a6 ≤ 0) : OraOk YO12 (env0 NG W (sy a0 a1 a2 a3 a4 a5 a6 b7 b8 b9 b10 b11 b12 0 0)).sy := by
  unfold YO12
  refine base6 hm ?_
  refine ora_cons .i64 a0 .i64 b7 (.bool false) rfl rfl (lss_f (by omega)) (fun _ _ => rfl) ?_
  refine ora_cons .i64 a0 .i64 b7 (.bool true) rfl rfl (geq_t (by omega)) (fun _ _ => rfl) ?_
  refine ora_cons .i64 a1 .i64 b10 (.bool false) rfl rfl (lss_f (by omega)) (fun _ _ => rfl) ?_
  refine ora_cons .i64 a1 .i64 b10 (.bool true) rfl rfl (geq_t (by omega)) (fun _ _ => rfl) ?_
  refine ora_cons .i64 a3 .i64 b12 (.bool false) rfl rfl (lss_f (by omega)) (fun _ _ => rfl) ?_
  refine ora_cons .i64 a3 .i64 b12 (.bool true) rfl rfl (geq_t (by omega)) (fun _ _ => rfl) ?_
  exact ora_nil _

theorem case12 {W : World} (h : laidMetH Tryz.prog laidL W) {a0 a1 a2 a3 a4 a5 a6 b7 b8 b9 b10 b11 b12 : Int} (hw : Wf a0 a1 a2 a3 a4 a5 a6) (hm : Made a2 a4 a5 b7 b8 b9 b10 b11 b12) (g0 : (2) ≤ a2) (g1 : a2 ≤ 8) (g2 : b7 = a2 + 2) (g3 : b7 ≤ a0) (g4 : a0 ≤ 32) (g5 : (1) ≤ a4) (g6 : a4 ≤ 32) (g7 : (0) ≤ a5) (g8 : a5 ≤ 512) (g9 : b10 = a4 + a5 + 32) (g10 : b12 = 2 * a4 + 2 * a5 + 64) (g11 : b10 ≤ a1) (g12 : a1 ≤ 8192) (g13 : b12 ≤ a3) (g14 : a3 ≤ 65536) (g15 : a6 ≤ 0) : Concl W a0 a1 a2 a3 a4 a5 a6 := by
  obtain ⟨w0, w1, w2, w3, w4, w5, w6⟩ := hw
  refine top_trueg (xp_ok _ _) (xp_fns _ _) mixed (YmT _) (xp_sums _ _) (l := YL12) (by rw [nGlob]; exact YT12) (globs h) (by unfold YL12; exact List.mem_cons_self ..) (vs := [.agg #[.int .i64 a0, .int .i64 a1, .int .i64 a2, .int .i64 a3, .int .i64 a4, .int .i64 a5, .int .i64 a6]]) (sy a0 a1 a2 a3 a4 a5 a6 b7 b8 b9 b10 b11 b12 0 0) (ora12 hm (by omega) (by omega) (by omega) (by omega) (by omega) (by omega) (by omega) (by omega) (by omega) (by omega) (by omega) (by omega) (by omega) (by omega) (by omega) (by omega)) ?_
  exact cvs_mk (cvAgg (cvs_mk (rng_cv rfl (by omega)) (cvs_mk (rng_cv rfl (by omega)) (cvs_mk (rng_cv rfl (by omega)) (cvs_mk (rng_cv rfl (by omega)) (cvs_mk (rng_cv rfl (by omega)) (cvs_mk (rng_cv rfl (by omega)) (cvs_mk (rng_cv rfl (by omega)) rfl)))))))) rfl

theorem ora13 {NG : Nat} {W : World} {a0 a1 a2 a3 a4 a5 a6 b7 b8 b9 b10 b11 b12 : Int} (hm : Made a2 a4 a5 b7 b8 b9 b10 b11 b12) (g0 : (2) ≤ a2) (g1 : a2 ≤ 8) (g2 : b7 = a2 + 2) (g3 : b7 ≤ a0) (g4 : a0 ≤ 32) (g5 : (1) ≤ a4) (g6 : a4 ≤ 32) (g7 : (0) ≤ a5) (g8 : a5 ≤ 512) (g9 : b10 = a4 + a5 + 32) (g10 : b12 = 2 * a4 + 2 * a5 + 64) (g11 : b10 ≤ a1) (g12 : a1 ≤ 8192) (g13 : b12 ≤ a3) (g14 : a3 ≤ 65536) (g15 : (3) ≤ a6) : OraOk YO13 (env0 NG W (sy a0 a1 a2 a3 a4 a5 a6 b7 b8 b9 b10 b11 b12 0 0)).sy := by
  unfold YO13
  refine base6 hm ?_
  refine ora_cons .i64 a0 .i64 b7 (.bool false) rfl rfl (lss_f (by omega)) (fun _ _ => rfl) ?_
  refine ora_cons .i64 a0 .i64 b7 (.bool true) rfl rfl (geq_t (by omega)) (fun _ _ => rfl) ?_
  refine ora_cons .i64 a1 .i64 b10 (.bool false) rfl rfl (lss_f (by omega)) (fun _ _ => rfl) ?_
  refine ora_cons .i64 a1 .i64 b10 (.bool true) rfl rfl (geq_t (by omega)) (fun _ _ => rfl) ?_
  refine ora_cons .i64 a3 .i64 b12 (.bool false) rfl rfl (lss_f (by omega)) (fun _ _ => rfl) ?_
  refine ora_cons .i64 a3 .i64 b12 (.bool true) rfl rfl (geq_t (by omega)) (fun _ _ => rfl) ?_
  exact ora_nil _

theorem case13 {W : World} (h : laidMetH Tryz.prog laidL W) {a0 a1 a2 a3 a4 a5 a6 b7 b8 b9 b10 b11 b12 : Int} (hw : Wf a0 a1 a2 a3 a4 a5 a6) (hm : Made a2 a4 a5 b7 b8 b9 b10 b11 b12) (g0 : (2) ≤ a2) (g1 : a2 ≤ 8) (g2 : b7 = a2 + 2) (g3 : b7 ≤ a0) (g4 : a0 ≤ 32) (g5 : (1) ≤ a4) (g6 : a4 ≤ 32) (g7 : (0) ≤ a5) (g8 : a5 ≤ 512) (g9 : b10 = a4 + a5 + 32) (g10 : b12 = 2 * a4 + 2 * a5 + 64) (g11 : b10 ≤ a1) (g12 : a1 ≤ 8192) (g13 : b12 ≤ a3) (g14 : a3 ≤ 65536) (g15 : (3) ≤ a6) : Concl W a0 a1 a2 a3 a4 a5 a6 := by
  obtain ⟨w0, w1, w2, w3, w4, w5, w6⟩ := hw
  refine top_trueg (xp_ok _ _) (xp_fns _ _) mixed (YmT _) (xp_sums _ _) (l := YL13) (by rw [nGlob]; exact YT13) (globs h) (by unfold YL13; exact List.mem_cons_self ..) (vs := [.agg #[.int .i64 a0, .int .i64 a1, .int .i64 a2, .int .i64 a3, .int .i64 a4, .int .i64 a5, .int .i64 a6]]) (sy a0 a1 a2 a3 a4 a5 a6 b7 b8 b9 b10 b11 b12 0 0) (ora13 hm (by omega) (by omega) (by omega) (by omega) (by omega) (by omega) (by omega) (by omega) (by omega) (by omega) (by omega) (by omega) (by omega) (by omega) (by omega) (by omega)) ?_
  exact cvs_mk (cvAgg (cvs_mk (rng_cv rfl (by omega)) (cvs_mk (rng_cv rfl (by omega)) (cvs_mk (rng_cv rfl (by omega)) (cvs_mk (rng_cv rfl (by omega)) (cvs_mk (rng_cv rfl (by omega)) (cvs_mk (rng_cv rfl (by omega)) (cvs_mk (rng_cv rfl (by omega)) rfl)))))))) rfl

theorem ora14 {W : World} {m1 m2 m3 m4 m5 m6 : Nat} {b7 b8 b9 b10 b11 b12 : Int} (hm : Made (m2 : Int) (m4 : Int) (m5 : Int) b7 b8 b9 b10 b11 b12) (h1 : 33 ≤ m1 ∧ m1 ≤ 8192) (h2 : 2 ≤ m2 ∧ m2 ≤ 2) (h3 : 66 ≤ m3 ∧ m3 ≤ 65536) (h4 : 1 ≤ m4 ∧ m4 ≤ 32) (h5 : m5 ≤ 512) (h6 : 1 ≤ m6 ∧ m6 ≤ 2) (r7 : b7 = (m2 : Int) + 2) (r10 : b10 = (m4 : Int) + (m5 : Int) + 32) (r12 : b12 = 2 * (m4 : Int) + 2 * (m5 : Int) + 64) (k1 : b10 ≤ (m1 : Int)) (k3 : b12 ≤ (m3 : Int)) : OraOk YO14 (env0 Tryz.prog.globals.size W (sy 4 (m1 : Int) (m2 : Int) (m3 : Int) (m4 : Int) (m5 : Int) (m6 : Int) b7 b8 b9 b10 b11 b12 (crcG (bs 1 4 m1 m2 m3 m4 m5 m6)) (crcG (bs 2 4 m1 m2 m3 m4 m5 m6)))).sy := by
  unfold YO14
  refine base6 hm ?_
  refine ora_cons .i64 (4) .i64 b7 (.bool false) rfl rfl (lss_f (by omega)) (fun _ _ => rfl) ?_
  refine ora_cons .i64 (4) .i64 b7 (.bool true) rfl rfl (geq_t (by omega)) (fun _ _ => rfl) ?_
  refine ora_cons .i64 m1 .i64 b10 (.bool false) rfl rfl (lss_f (by omega)) (fun _ _ => rfl) ?_
  refine ora_cons .i64 m1 .i64 b10 (.bool true) rfl rfl (geq_t (by omega)) (fun _ _ => rfl) ?_
  refine ora_cons .i64 m3 .i64 b12 (.bool false) rfl rfl (lss_f (by omega)) (fun _ _ => rfl) ?_
  refine ora_cons .i64 m3 .i64 b12 (.bool true) rfl rfl (geq_t (by omega)) (fun _ _ => rfl) ?_
  refine ora_cons .i64 (4) .i64 b7 (.bool false) rfl rfl (lss_f (by omega)) (fun _ _ => rfl) ?_
  refine ora_sum (bs 1 4 m1 m2 m3 m4 m5 m6) (cs_cv (r := 2) h1 h2 h3 h4 h5 h6) rfl (bs_lt (by decide) (by decide) m1 m2 m3 m4 m5 m6) (crcG_lt _ (bs_lt (by decide) (by decide) m1 m2 m3 m4 m5 m6)) ?_
  refine ora_sum (bs 2 4 m1 m2 m3 m4 m5 m6) (cs_cv (r := 2) h1 h2 h3 h4 h5 h6) rfl (bs_lt (by decide) (by decide) m1 m2 m3 m4 m5 m6) (crcG_lt _ (bs_lt (by decide) (by decide) m1 m2 m3 m4 m5 m6)) ?_
  refine ora_cons .i64 (4) .i64 b7 (.bool true) rfl rfl (geq_t (by omega)) (fun _ _ => rfl) ?_
  exact ora_nil _

theorem case14 {W : World} (h : laidMetH Tryz.prog laidL W) {m1 m2 m3 m4 m5 m6 : Nat} {b7 b8 b9 b10 b11 b12 : Int} (hm : Made (m2 : Int) (m4 : Int) (m5 : Int) b7 b8 b9 b10 b11 b12) (h1 : 33 ≤ m1 ∧ m1 ≤ 8192) (h2 : 2 ≤ m2 ∧ m2 ≤ 2) (h3 : 66 ≤ m3 ∧ m3 ≤ 65536) (h4 : 1 ≤ m4 ∧ m4 ≤ 32) (h5 : m5 ≤ 512) (h6 : 1 ≤ m6 ∧ m6 ≤ 2) (r7 : b7 = (m2 : Int) + 2) (r10 : b10 = (m4 : Int) + (m5 : Int) + 32) (r12 : b12 = 2 * (m4 : Int) + 2 * (m5 : Int) + 64) (k1 : b10 ≤ (m1 : Int)) (k3 : b12 ≤ (m3 : Int)) : Concl W 4 (m1 : Int) (m2 : Int) (m3 : Int) (m4 : Int) (m5 : Int) (m6 : Int) := by
  refine top_trueg (xp_ok _ _) (xp_fns _ _) mixed (YmT _) (xp_sums _ _) (l := YL14) (by rw [nGlob]; exact YT14) (globs h) (by unfold YL14; exact List.mem_cons_self ..) (vs := [.agg #[.int .i64 4, .int .i64 (m1 : Int), .int .i64 (m2 : Int), .int .i64 (m3 : Int), .int .i64 (m4 : Int), .int .i64 (m5 : Int), .int .i64 (m6 : Int)]]) (sy 4 (m1 : Int) (m2 : Int) (m3 : Int) (m4 : Int) (m5 : Int) (m6 : Int) b7 b8 b9 b10 b11 b12 (crcG (bs 1 4 m1 m2 m3 m4 m5 m6)) (crcG (bs 2 4 m1 m2 m3 m4 m5 m6))) (ora14 hm h1 h2 h3 h4 h5 h6 r7 r10 r12 k1 k3) ?_
  exact cvs_mk (cvAgg (cvs_mk rfl (cvs_mk (rng_cv rfl (by omega)) (cvs_mk (rng_cv rfl (by omega)) (cvs_mk (rng_cv rfl (by omega)) (cvs_mk (rng_cv rfl (by omega)) (cvs_mk (rng_cv rfl (by omega)) (cvs_mk (rng_cv rfl (by omega)) rfl)))))))) rfl

theorem ora15 {W : World} {m1 m2 m3 m4 m5 m6 : Nat} {b7 b8 b9 b10 b11 b12 : Int} (hm : Made (m2 : Int) (m4 : Int) (m5 : Int) b7 b8 b9 b10 b11 b12) (h1 : 33 ≤ m1 ∧ m1 ≤ 8192) (h2 : 2 ≤ m2 ∧ m2 ≤ 3) (h3 : 66 ≤ m3 ∧ m3 ≤ 65536) (h4 : 1 ≤ m4 ∧ m4 ≤ 32) (h5 : m5 ≤ 512) (h6 : 1 ≤ m6 ∧ m6 ≤ 2) (r7 : b7 = (m2 : Int) + 2) (r10 : b10 = (m4 : Int) + (m5 : Int) + 32) (r12 : b12 = 2 * (m4 : Int) + 2 * (m5 : Int) + 64) (k1 : b10 ≤ (m1 : Int)) (k3 : b12 ≤ (m3 : Int)) : OraOk YO15 (env0 Tryz.prog.globals.size W (sy 5 (m1 : Int) (m2 : Int) (m3 : Int) (m4 : Int) (m5 : Int) (m6 : Int) b7 b8 b9 b10 b11 b12 (crcG (bs 1 5 m1 m2 m3 m4 m5 m6)) (crcG (bs 2 5 m1 m2 m3 m4 m5 m6)))).sy := by
  unfold YO15
  refine base6 hm ?_
  refine ora_cons .i64 (5) .i64 b7 (.bool false) rfl rfl (lss_f (by omega)) (fun _ _ => rfl) ?_
  refine ora_cons .i64 (5) .i64 b7 (.bool true) rfl rfl (geq_t (by omega)) (fun _ _ => rfl) ?_
  refine ora_cons .i64 m1 .i64 b10 (.bool false) rfl rfl (lss_f (by omega)) (fun _ _ => rfl) ?_
  refine ora_cons .i64 m1 .i64 b10 (.bool true) rfl rfl (geq_t (by omega)) (fun _ _ => rfl) ?_
  refine ora_cons .i64 m3 .i64 b12 (.bool false) rfl rfl (lss_f (by omega)) (fun _ _ => rfl) ?_
  refine ora_cons .i64 m3 .i64 b12 (.bool true) rfl rfl (geq_t (by omega)) (fun _ _ => rfl) ?_
  refine ora_cons .i64 (5) .i64 b7 (.bool false) rfl rfl (lss_f (by omega)) (fun _ _ => rfl) ?_
  refine ora_sum (bs 1 5 m1 m2 m3 m4 m5 m6) (cs_cv (r := 3) h1 h2 h3 h4 h5 h6) rfl (bs_lt (by decide) (by decide) m1 m2 m3 m4 m5 m6) (crcG_lt _ (bs_lt (by decide) (by decide) m1 m2 m3 m4 m5 m6)) ?_
  refine ora_sum (bs 2 5 m1 m2 m3 m4 m5 m6) (cs_cv (r := 3) h1 h2 h3 h4 h5 h6) rfl (bs_lt (by decide) (by decide) m1 m2 m3 m4 m5 m6) (crcG_lt _ (bs_lt (by decide) (by decide) m1 m2 m3 m4 m5 m6)) ?_
  refine ora_cons .i64 (5) .i64 b7 (.bool true) rfl rfl (geq_t (by omega)) (fun _ _ => rfl) ?_
  exact ora_nil _

theorem case15 {W : World} (h : laidMetH Tryz.prog laidL W) {m1 m2 m3 m4 m5 m6 : Nat} {b7 b8 b9 b10 b11 b12 : Int} (hm : Made (m2 : Int) (m4 : Int) (m5 : Int) b7 b8 b9 b10 b11 b12) (h1 : 33 ≤ m1 ∧ m1 ≤ 8192) (h2 : 2 ≤ m2 ∧ m2 ≤ 3) (h3 : 66 ≤ m3 ∧ m3 ≤ 65536) (h4 : 1 ≤ m4 ∧ m4 ≤ 32) (h5 : m5 ≤ 512) (h6 : 1 ≤ m6 ∧ m6 ≤ 2) (r7 : b7 = (m2 : Int) + 2) (r10 : b10 = (m4 : Int) + (m5 : Int) + 32) (r12 : b12 = 2 * (m4 : Int) + 2 * (m5 : Int) + 64) (k1 : b10 ≤ (m1 : Int)) (k3 : b12 ≤ (m3 : Int)) : Concl W 5 (m1 : Int) (m2 : Int) (m3 : Int) (m4 : Int) (m5 : Int) (m6 : Int) := by
  refine top_trueg (xp_ok _ _) (xp_fns _ _) mixed (YmT _) (xp_sums _ _) (l := YL15) (by rw [nGlob]; exact YT15) (globs h) (by unfold YL15; exact List.mem_cons_self ..) (vs := [.agg #[.int .i64 5, .int .i64 (m1 : Int), .int .i64 (m2 : Int), .int .i64 (m3 : Int), .int .i64 (m4 : Int), .int .i64 (m5 : Int), .int .i64 (m6 : Int)]]) (sy 5 (m1 : Int) (m2 : Int) (m3 : Int) (m4 : Int) (m5 : Int) (m6 : Int) b7 b8 b9 b10 b11 b12 (crcG (bs 1 5 m1 m2 m3 m4 m5 m6)) (crcG (bs 2 5 m1 m2 m3 m4 m5 m6))) (ora15 hm h1 h2 h3 h4 h5 h6 r7 r10 r12 k1 k3) ?_
  exact cvs_mk (cvAgg (cvs_mk rfl (cvs_mk (rng_cv rfl (by omega)) (cvs_mk (rng_cv rfl (by omega)) (cvs_mk (rng_cv rfl (by omega)) (cvs_mk (rng_cv rfl (by omega)) (cvs_mk (rng_cv rfl (by omega)) (cvs_mk (rng_cv rfl (by omega)) rfl)))))))) rfl

theorem ora16 {W : World} {m1 m2 m3 m4 m5 m6 : Nat} {b7 b8 b9 b10 b11 b12 : Int} (hm : Made (m2 : Int) (m4 : Int) (m5 : Int) b7 b8 b9 b10 b11 b12) (h1 : 33 ≤ m1 ∧ m1 ≤ 8192) (h2 : 2 ≤ m2 ∧ m2 ≤ 4) (h3 : 66 ≤ m3 ∧ m3 ≤ 65536) (h4 : 1 ≤ m4 ∧ m4 ≤ 32) (h5 : m5 ≤ 512) (h6 : 1 ≤ m6 ∧ m6 ≤ 2) (r7 : b7 = (m2 : Int) + 2) (r10 : b10 = (m4 : Int) + (m5 : Int) + 32) (r12 : b12 = 2 * (m4 : Int) + 2 * (m5 : Int) + 64) (k1 : b10 ≤ (m1 : Int)) (k3 : b12 ≤ (m3 : Int)) : OraOk YO16 (env0 Tryz.prog.globals.size W (sy 6 (m1 : Int) (m2 : Int) (m3 : Int) (m4 : Int) (m5 : Int) (m6 : Int) b7 b8 b9 b10 b11 b12 (crcG (bs 1 6 m1 m2 m3 m4 m5 m6)) (crcG (bs 2 6 m1 m2 m3 m4 m5 m6)))).sy := by
  unfold YO16
  refine base6 hm ?_
  refine ora_cons .i64 (6) .i64 b7 (.bool false) rfl rfl (lss_f (by omega)) (fun _ _ => rfl) ?_
  refine ora_cons .i64 (6) .i64 b7 (.bool true) rfl rfl (geq_t (by omega)) (fun _ _ => rfl) ?_
  refine ora_cons .i64 m1 .i64 b10 (.bool false) rfl rfl (lss_f (by omega)) (fun _ _ => rfl) ?_
  refine ora_cons .i64 m1 .i64 b10 (.bool true) rfl rfl (geq_t (by omega)) (fun _ _ => rfl) ?_
  refine ora_cons .i64 m3 .i64 b12 (.bool false) rfl rfl (lss_f (by omega)) (fun _ _ => rfl) ?_
  refine ora_cons .i64 m3 .i64 b12 (.bool true) rfl rfl (geq_t (by omega)) (fun _ _ => rfl) ?_
  refine ora_cons .i64 (6) .i64 b7 (.bool false) rfl rfl (lss_f (by omega)) (fun _ _ => rfl) ?_
  refine ora_sum (bs 1 6 m1 m2 m3 m4 m5 m6) (cs_cv (r := 4) h1 h2 h3 h4 h5 h6) rfl (bs_lt (by decide) (by decide) m1 m2 m3 m4 m5 m6) (crcG_lt _ (bs_lt (by decide) (by decide) m1 m2 m3 m4 m5 m6)) ?_
  refine ora_sum (bs 2 6 m1 m2 m3 m4 m5 m6) (cs_cv (r := 4) h1 h2 h3 h4 h5 h6) rfl (bs_lt (by decide) (by decide) m1 m2 m3 m4 m5 m6) (crcG_lt _ (bs_lt (by decide) (by decide) m1 m2 m3 m4 m5 m6)) ?_
  refine ora_cons .i64 (6) .i64 b7 (.bool true) rfl rfl (geq_t (by omega)) (fun _ _ => rfl) ?_
  exact ora_nil _

theorem case16 {W : World} (h : laidMetH Tryz.prog laidL W) {m1 m2 m3 m4 m5 m6 : Nat} {b7 b8 b9 b10 b11 b12 : Int} (hm : Made (m2 : Int) (m4 : Int) (m5 : Int) b7 b8 b9 b10 b11 b12) (h1 : 33 ≤ m1 ∧ m1 ≤ 8192) (h2 : 2 ≤ m2 ∧ m2 ≤ 4) (h3 : 66 ≤ m3 ∧ m3 ≤ 65536) (h4 : 1 ≤ m4 ∧ m4 ≤ 32) (h5 : m5 ≤ 512) (h6 : 1 ≤ m6 ∧ m6 ≤ 2) (r7 : b7 = (m2 : Int) + 2) (r10 : b10 = (m4 : Int) + (m5 : Int) + 32) (r12 : b12 = 2 * (m4 : Int) + 2 * (m5 : Int) + 64) (k1 : b10 ≤ (m1 : Int)) (k3 : b12 ≤ (m3 : Int)) : Concl W 6 (m1 : Int) (m2 : Int) (m3 : Int) (m4 : Int) (m5 : Int) (m6 : Int) := by
  refine top_trueg (xp_ok _ _) (xp_fns _ _) mixed (YmT _) (xp_sums _ _) (l := YL16) (by rw [nGlob]; exact YT16) (globs h) (by unfold YL16; exact List.mem_cons_self ..) (vs := [.agg #[.int .i64 6, .int .i64 (m1 : Int), .int .i64 (m2 : Int), .int .i64 (m3 : Int), .int .i64 (m4 : Int), .int .i64 (m5 : Int), .int .i64 (m6 : Int)]]) (sy 6 (m1 : Int) (m2 : Int) (m3 : Int) (m4 : Int) (m5 : Int) (m6 : Int) b7 b8 b9 b10 b11 b12 (crcG (bs 1 6 m1 m2 m3 m4 m5 m6)) (crcG (bs 2 6 m1 m2 m3 m4 m5 m6))) (ora16 hm h1 h2 h3 h4 h5 h6 r7 r10 r12 k1 k3) ?_
  exact cvs_mk (cvAgg (cvs_mk rfl (cvs_mk (rng_cv rfl (by omega)) (cvs_mk (rng_cv rfl (by omega)) (cvs_mk (rng_cv rfl (by omega)) (cvs_mk (rng_cv rfl (by omega)) (cvs_mk (rng_cv rfl (by omega)) (cvs_mk (rng_cv rfl (by omega)) rfl)))))))) rfl

theorem ora17 {W : World} {m1 m2 m3 m4 m5 m6 : Nat} {b7 b8 b9 b10 b11 b12 : Int} (hm : Made (m2 : Int) (m4 : Int) (m5 : Int) b7 b8 b9 b10 b11 b12) (h1 : 33 ≤ m1 ∧ m1 ≤ 8192) (h2 : 2 ≤ m2 ∧ m2 ≤ 5) (h3 : 66 ≤ m3 ∧ m3 ≤ 65536) (h4 : 1 ≤ m4 ∧ m4 ≤ 32) (h5 : m5 ≤ 512) (h6 : 1 ≤ m6 ∧ m6 ≤ 2) (r7 : b7 = (m2 : Int) + 2) (r10 : b10 = (m4 : Int) + (m5 : Int) + 32) (r12 : b12 = 2 * (m4 : Int) + 2 * (m5 : Int) + 64) (k1 : b10 ≤ (m1 : Int)) (k3 : b12 ≤ (m3 : Int)) : OraOk YO17 (env0 Tryz.prog.globals.size W (sy 7 (m1 : Int) (m2 : Int) (m3 : Int) (m4 : Int) (m5 : Int) (m6 : Int) b7 b8 b9 b10 b11 b12 (crcG (bs 1 7 m1 m2 m3 m4 m5 m6)) (crcG (bs 2 7 m1 m2 m3 m4 m5 m6)))).sy := by
  unfold YO17
  refine base6 hm ?_
  refine ora_cons .i64 (7) .i64 b7 (.bool false) rfl rfl (lss_f (by omega)) (fun _ _ => rfl) ?_
  refine ora_cons .i64 (7) .i64 b7 (.bool true) rfl rfl (geq_t (by omega)) (fun _ _ => rfl) ?_
  refine ora_cons .i64 m1 .i64 b10 (.bool false) rfl rfl (lss_f (by omega)) (fun _ _ => rfl) ?_
  refine ora_cons .i64 m1 .i64 b10 (.bool true) rfl rfl (geq_t (by omega)) (fun _ _ => rfl) ?_
  refine ora_cons .i64 m3 .i64 b12 (.bool false) rfl rfl (lss_f (by omega)) (fun _ _ => rfl) ?_
  refine ora_cons .i64 m3 .i64 b12 (.bool true) rfl rfl (geq_t (by omega)) (fun _ _ => rfl) ?_
  refine ora_cons .i64 (7) .i64 b7 (.bool false) rfl rfl (lss_f (by omega)) (fun _ _ => rfl) ?_
  refine ora_sum (bs 1 7 m1 m2 m3 m4 m5 m6) (cs_cv (r := 5) h1 h2 h3 h4 h5 h6) rfl (bs_lt (by decide) (by decide) m1 m2 m3 m4 m5 m6) (crcG_lt _ (bs_lt (by decide) (by decide) m1 m2 m3 m4 m5 m6)) ?_
  refine ora_sum (bs 2 7 m1 m2 m3 m4 m5 m6) (cs_cv (r := 5) h1 h2 h3 h4 h5 h6) rfl (bs_lt (by decide) (by decide) m1 m2 m3 m4 m5 m6) (crcG_lt _ (bs_lt (by decide) (by decide) m1 m2 m3 m4 m5 m6)) ?_
  refine ora_cons .i64 (7) .i64 b7 (.bool true) rfl rfl (geq_t (by omega)) (fun _ _ => rfl) ?_
  exact ora_nil _

theorem case17 {W : World} (h : laidMetH Tryz.prog laidL W) {m1 m2 m3 m4 m5 m6 : Nat} {b7 b8 b9 b10 b11 b12 : Int} (hm : Made (m2 : Int) (m4 : Int) (m5 : Int) b7 b8 b9 b10 b11 b12) (h1 : 33 ≤ m1 ∧ m1 ≤ 8192) (h2 : 2 ≤ m2 ∧ m2 ≤ 5) (h3 : 66 ≤ m3 ∧ m3 ≤ 65536) (h4 : 1 ≤ m4 ∧ m4 ≤ 32) (h5 : m5 ≤ 512) (h6 : 1 ≤ m6 ∧ m6 ≤ 2) (r7 : b7 = (m2 : Int) + 2) (r10 : b10 = (m4 : Int) + (m5 : Int) + 32) (r12 : b12 = 2 * (m4 : Int) + 2 * (m5 : Int) + 64) (k1 : b10 ≤ (m1 : Int)) (k3 : b12 ≤ (m3 : Int)) : Concl W 7 (m1 : Int) (m2 : Int) (m3 : Int) (m4 : Int) (m5 : Int) (m6 : Int) := by
  refine top_trueg (xp_ok _ _) (xp_fns _ _) mixed (YmT _) (xp_sums _ _) (l := YL17) (by rw [nGlob]; exact YT17) (globs h) (by unfold YL17; exact List.mem_cons_self ..) (vs := [.agg #[.int .i64 7, .int .i64 (m1 : Int), .int .i64 (m2 : Int), .int .i64 (m3 : Int), .int .i64 (m4 : Int), .int .i64 (m5 : Int), .int .i64 (m6 : Int)]]) (sy 7 (m1 : Int) (m2 : Int) (m3 : Int) (m4 : Int) (m5 : Int) (m6 : Int) b7 b8 b9 b10 b11 b12 (crcG (bs 1 7 m1 m2 m3 m4 m5 m6)) (crcG (bs 2 7 m1 m2 m3 m4 m5 m6))) (ora17 hm h1 h2 h3 h4 h5 h6 r7 r10 r12 k1 k3) ?_
  exact cvs_mk (cvAgg (cvs_mk rfl (cvs_mk (rng_cv rfl (by omega)) (cvs_mk (rng_cv rfl (by omega)) (cvs_mk (rng_cv rfl (by omega)) (cvs_mk (rng_cv rfl (by omega)) (cvs_mk (rng_cv rfl (by omega)) (cvs_mk (rng_cv rfl (by omega)) rfl)))))))) rfl

theorem ora18 {W : World} {m1 m2 m3 m4 m5 m6 : Nat} {b7 b8 b9 b10 b11 b12 : Int} (hm : Made (m2 : Int) (m4 : Int) (m5 : Int) b7 b8 b9 b10 b11 b12) (h1 : 33 ≤ m1 ∧ m1 ≤ 8192) (h2 : 2 ≤ m2 ∧ m2 ≤ 6) (h3 : 66 ≤ m3 ∧ m3 ≤ 65536) (h4 : 1 ≤ m4 ∧ m4 ≤ 32) (h5 : m5 ≤ 512) (h6 : 1 ≤ m6 ∧ m6 ≤ 2) (r7 : b7 = (m2 : Int) + 2) (r10 : b10 = (m4 : Int) + (m5 : Int) + 32) (r12 : b12 = 2 * (m4 : Int) + 2 * (m5 : Int) + 64) (k1 : b10 ≤ (m1 : Int)) (k3 : b12 ≤ (m3 : Int)) : OraOk YO18 (env0 Tryz.prog.globals.size W (sy 8 (m1 : Int) (m2 : Int) (m3 : Int) (m4 : Int) (m5 : Int) (m6 : Int) b7 b8 b9 b10 b11 b12 (crcG (bs 1 8 m1 m2 m3 m4 m5 m6)) (crcG (bs 2 8 m1 m2 m3 m4 m5 m6)))).sy := by
  unfold YO18
  refine base6 hm ?_
  refine ora_cons .i64 (8) .i64 b7 (.bool false) rfl rfl (lss_f (by omega)) (fun _ _ => rfl) ?_
  refine ora_cons .i64 (8) .i64 b7 (.bool true) rfl rfl (geq_t (by omega)) (fun _ _ => rfl) ?_
  refine ora_cons .i64 m1 .i64 b10 (.bool false) rfl rfl (lss_f (by omega)) (fun _ _ => rfl) ?_
  refine ora_cons .i64 m1 .i64 b10 (.bool true) rfl rfl (geq_t (by omega)) (fun _ _ => rfl) ?_
  refine ora_cons .i64 m3 .i64 b12 (.bool false) rfl rfl (lss_f (by omega)) (fun _ _ => rfl) ?_
  refine ora_cons .i64 m3 .i64 b12 (.bool true) rfl rfl (geq_t (by omega)) (fun _ _ => rfl) ?_
  refine ora_cons .i64 (8) .i64 b7 (.bool false) rfl rfl (lss_f (by omega)) (fun _ _ => rfl) ?_
  refine ora_sum (bs 1 8 m1 m2 m3 m4 m5 m6) (cs_cv (r := 6) h1 h2 h3 h4 h5 h6) rfl (bs_lt (by decide) (by decide) m1 m2 m3 m4 m5 m6) (crcG_lt _ (bs_lt (by decide) (by decide) m1 m2 m3 m4 m5 m6)) ?_
  refine ora_sum (bs 2 8 m1 m2 m3 m4 m5 m6) (cs_cv (r := 6) h1 h2 h3 h4 h5 h6) rfl (bs_lt (by decide) (by decide) m1 m2 m3 m4 m5 m6) (crcG_lt _ (bs_lt (by decide) (by decide) m1 m2 m3 m4 m5 m6)) ?_
  refine ora_cons .i64 (8) .i64 b7 (.bool true) rfl rfl (geq_t (by omega)) (fun _ _ => rfl) ?_
  exact ora_nil _

theorem case18 {W : World} (h : laidMetH Tryz.prog laidL W) {m1 m2 m3 m4 m5 m6 : Nat} {b7 b8 b9 b10 b11 b12 : Int} (hm : Made (m2 : Int) (m4 : Int) (m5 : Int) b7 b8 b9 b10 b11 b12) (h1 : 33 ≤ m1 ∧ m1 ≤ 8192) (h2 : 2 ≤ m2 ∧ m2 ≤ 6) (h3 : 66 ≤ m3 ∧ m3 ≤ 65536) (h4 : 1 ≤ m4 ∧ m4 ≤ 32) (h5 : m5 ≤ 512) (h6 : 1 ≤ m6 ∧ m6 ≤ 2) (r7 : b7 = (m2 : Int) + 2) (r10 : b10 = (m4 : Int) + (m5 : Int) + 32) (r12 : b12 = 2 * (m4 : Int) + 2 * (m5 : Int) + 64) (k1 : b10 ≤ (m1 : Int)) (k3 : b12 ≤ (m3 : Int)) : Concl W 8 (m1 : Int) (m2 : Int) (m3 : Int) (m4 : Int) (m5 : Int) (m6 : Int) := by
  refine top_trueg (xp_ok _ _) (xp_fns _ _) mixed (YmT _) (xp_sums _ _) (l := YL18) (by rw [nGlob]; exact YT18) (globs h) (by unfold YL18; exact List.mem_cons_self ..) (vs := [.agg #[.int .i64 8, .int .i64 (m1 : Int), .int .i64 (m2 : Int), .int .i64 (m3 : Int), .int .i64 (m4 : Int), .int .i64 (m5 : Int), .int .i64 (m6 : Int)]]) (sy 8 (m1 : Int) (m2 : Int) (m3 : Int) (m4 : Int) (m5 : Int) (m6 : Int) b7 b8 b9 b10 b11 b12 (crcG (bs 1 8 m1 m2 m3 m4 m5 m6)) (crcG (bs 2 8 m1 m2 m3 m4 m5 m6))) (ora18 hm h1 h2 h3 h4 h5 h6 r7 r10 r12 k1 k3) ?_
  exact cvs_mk (cvAgg (cvs_mk rfl (cvs_mk (rng_cv rfl (by omega)) (cvs_mk (rng_cv rfl (by omega)) (cvs_mk (rng_cv rfl (by omega)) (cvs_mk (rng_cv rfl (by omega)) (cvs_mk (rng_cv rfl (by omega)) (cvs_mk (rng_cv rfl (by omega)) rfl)))))))) rfl

theorem ora19 {W : World} {m1 m2 m3 m4 m5 m6 : Nat} {b7 b8 b9 b10 b11 b12 : Int} (hm : Made (m2 : Int) (m4 : Int) (m5 : Int) b7 b8 b9 b10 b11 b12) (h1 : 33 ≤ m1 ∧ m1 ≤ 8192) (h2 : 2 ≤ m2 ∧ m2 ≤ 7) (h3 : 66 ≤ m3 ∧ m3 ≤ 65536) (h4 : 1 ≤ m4 ∧ m4 ≤ 32) (h5 : m5 ≤ 512) (h6 : 1 ≤ m6 ∧ m6 ≤ 2) (r7 : b7 = (m2 : Int) + 2) (r10 : b10 = (m4 : Int) + (m5 : Int) + 32) (r12 : b12 = 2 * (m4 : Int) + 2 * (m5 : Int) + 64) (k1 : b10 ≤ (m1 : Int)) (k3 : b12 ≤ (m3 : Int)) : OraOk YO19 (env0 Tryz.prog.globals.size W (sy 9 (m1 : Int) (m2 : Int) (m3 : Int) (m4 : Int) (m5 : Int) (m6 : Int) b7 b8 b9 b10 b11 b12 (crcG (bs 1 9 m1 m2 m3 m4 m5 m6)) (crcG (bs 2 9 m1 m2 m3 m4 m5 m6)))).sy := by
  unfold YO19
  refine base6 hm ?_
  refine ora_cons .i64 (9) .i64 b7 (.bool false) rfl rfl (lss_f (by omega)) (fun _ _ => rfl) ?_
  refine ora_cons .i64 (9) .i64 b7 (.bool true) rfl rfl (geq_t (by omega)) (fun _ _ => rfl) ?_
  refine ora_cons .i64 m1 .i64 b10 (.bool false) rfl rfl (lss_f (by omega)) (fun _ _ => rfl) ?_
  refine ora_cons .i64 m1 .i64 b10 (.bool true) rfl rfl (geq_t (by omega)) (fun _ _ => rfl) ?_
  refine ora_cons .i64 m3 .i64 b12 (.bool false) rfl rfl (lss_f (by omega)) (fun _ _ => rfl) ?_
  refine ora_cons .i64 m3 .i64 b12 (.bool true) rfl rfl (geq_t (by omega)) (fun _ _ => rfl) ?_
  refine ora_cons .i64 (9) .i64 b7 (.bool false) rfl rfl (lss_f (by omega)) (fun _ _ => rfl) ?_
  refine ora_sum (bs 1 9 m1 m2 m3 m4 m5 m6) (cs_cv (r := 7) h1 h2 h3 h4 h5 h6) rfl (bs_lt (by decide) (by decide) m1 m2 m3 m4 m5 m6) (crcG_lt _ (bs_lt (by decide) (by decide) m1 m2 m3 m4 m5 m6)) ?_
  refine ora_sum (bs 2 9 m1 m2 m3 m4 m5 m6) (cs_cv (r := 7) h1 h2 h3 h4 h5 h6) rfl (bs_lt (by decide) (by decide) m1 m2 m3 m4 m5 m6) (crcG_lt _ (bs_lt (by decide) (by decide) m1 m2 m3 m4 m5 m6)) ?_
  refine ora_cons .i64 (9) .i64 b7 (.bool true) rfl rfl (geq_t (by omega)) (fun _ _ => rfl) ?_
  exact ora_nil _

theorem case19 {W : World} (h : laidMetH Tryz.prog laidL W) {m1 m2 m3 m4 m5 m6 : Nat} {b7 b8 b9 b10 b11 b12 : Int} (hm : Made (m2 : Int) (m4 : Int) (m5 : Int) b7 b8 b9 b10 b11 b12) (h1 : 33 ≤ m1 ∧ m1 ≤ 8192) (h2 : 2 ≤ m2 ∧ m2 ≤ 7) (h3 : 66 ≤ m3 ∧ m3 ≤ 65536) (h4 : 1 ≤ m4 ∧ m4 ≤ 32) (h5 : m5 ≤ 512) (h6 : 1 ≤ m6 ∧ m6 ≤ 2) (r7 : b7 = (m2 : Int) + 2) (r10 : b10 = (m4 : Int) + (m5 : Int) + 32) (r12 : b12 = 2 * (m4 : Int) + 2 * (m5 : Int) + 64) (k1 : b10 ≤ (m1 : Int)) (k3 : b12 ≤ (m3 : Int)) : Concl W 9 (m1 : Int) (m2 : Int) (m3 : Int) (m4 : Int) (m5 : Int) (m6 : Int) := by
  refine top_trueg (xp_ok _ _) (xp_fns _ _) mixed (YmT _) (xp_sums _ _) (l := YL19) (by rw [nGlob]; exact YT19) (globs h) (by unfold YL19; exact List.mem_cons_self ..) (vs := [.agg #[.int .i64 9, .int .i64 (m1 : Int), .int .i64 (m2 : Int), .int .i64 (m3 : Int), .int .i64 (m4 : Int), .int .i64 (m5 : Int), .int .i64 (m6 : Int)]]) (sy 9 (m1 : Int) (m2 : Int) (m3 : Int) (m4 : Int) (m5 : Int) (m6 : Int) b7 b8 b9 b10 b11 b12 (crcG (bs 1 9 m1 m2 m3 m4 m5 m6)) (crcG (bs 2 9 m1 m2 m3 m4 m5 m6))) (ora19 hm h1 h2 h3 h4 h5 h6 r7 r10 r12 k1 k3) ?_
  exact cvs_mk (cvAgg (cvs_mk rfl (cvs_mk (rng_cv rfl (by omega)) (cvs_mk (rng_cv rfl (by omega)) (cvs_mk (rng_cv rfl (by omega)) (cvs_mk (rng_cv rfl (by omega)) (cvs_mk (rng_cv rfl (by omega)) (cvs_mk (rng_cv rfl (by omega)) rfl)))))))) rfl

theorem ora20 {W : World} {m1 m2 m3 m4 m5 m6 : Nat} {b7 b8 b9 b10 b11 b12 : Int} (hm : Made (m2 : Int) (m4 : Int) (m5 : Int) b7 b8 b9 b10 b11 b12) (h1 : 33 ≤ m1 ∧ m1 ≤ 8192) (h2 : 2 ≤ m2 ∧ m2 ≤ 8) (h3 : 66 ≤ m3 ∧ m3 ≤ 65536) (h4 : 1 ≤ m4 ∧ m4 ≤ 32) (h5 : m5 ≤ 512) (h6 : 1 ≤ m6 ∧ m6 ≤ 2) (r7 : b7 = (m2 : Int) + 2) (r10 : b10 = (m4 : Int) + (m5 : Int) + 32) (r12 : b12 = 2 * (m4 : Int) + 2 * (m5 : Int) + 64) (k1 : b10 ≤ (m1 : Int)) (k3 : b12 ≤ (m3 : Int)) : OraOk YO20 (env0 Tryz.prog.globals.size W (sy 10 (m1 : Int) (m2 : Int) (m3 : Int) (m4 : Int) (m5 : Int) (m6 : Int) b7 b8 b9 b10 b11 b12 (crcG (bs 1 10 m1 m2 m3 m4 m5 m6)) (crcG (bs 2 10 m1 m2 m3 m4 m5 m6)))).sy := by
  unfold YO20
  refine base6 hm ?_
  refine ora_cons .i64 (10) .i64 b7 (.bool false) rfl rfl (lss_f (by omega)) (fun _ _ => rfl) ?_
  refine ora_cons .i64 (10) .i64 b7 (.bool true) rfl rfl (geq_t (by omega)) (fun _ _ => rfl) ?_
  refine ora_cons .i64 m1 .i64 b10 (.bool false) rfl rfl (lss_f (by omega)) (fun _ _ => rfl) ?_
  refine ora_cons .i64 m1 .i64 b10 (.bool true) rfl rfl (geq_t (by omega)) (fun _ _ => rfl) ?_
  refine ora_cons .i64 m3 .i64 b12 (.bool false) rfl rfl (lss_f (by omega)) (fun _ _ => rfl) ?_
  refine ora_cons .i64 m3 .i64 b12 (.bool true) rfl rfl (geq_t (by omega)) (fun _ _ => rfl) ?_
  refine ora_cons .i64 (10) .i64 b7 (.bool false) rfl rfl (lss_f (by omega)) (fun _ _ => rfl) ?_
  refine ora_sum (bs 1 10 m1 m2 m3 m4 m5 m6) (cs_cv (r := 8) h1 h2 h3 h4 h5 h6) rfl (bs_lt (by decide) (by decide) m1 m2 m3 m4 m5 m6) (crcG_lt _ (bs_lt (by decide) (by decide) m1 m2 m3 m4 m5 m6)) ?_
  refine ora_sum (bs 2 10 m1 m2 m3 m4 m5 m6) (cs_cv (r := 8) h1 h2 h3 h4 h5 h6) rfl (bs_lt (by decide) (by decide) m1 m2 m3 m4 m5 m6) (crcG_lt _ (bs_lt (by decide) (by decide) m1 m2 m3 m4 m5 m6)) ?_
  refine ora_cons .i64 (10) .i64 b7 (.bool true) rfl rfl (geq_t (by omega)) (fun _ _ => rfl) ?_
  exact ora_nil _

theorem case20 {W : World} (h : laidMetH Tryz.prog laidL W) {m1 m2 m3 m4 m5 m6 : Nat} {b7 b8 b9 b10 b11 b12 : Int} (hm : Made (m2 : Int) (m4 : Int) (m5 : Int) b7 b8 b9 b10 b11 b12) (h1 : 33 ≤ m1 ∧ m1 ≤ 8192) (h2 : 2 ≤ m2 ∧ m2 ≤ 8) (h3 : 66 ≤ m3 ∧ m3 ≤ 65536) (h4 : 1 ≤ m4 ∧ m4 ≤ 32) (h5 : m5 ≤ 512) (h6 : 1 ≤ m6 ∧ m6 ≤ 2) (r7 : b7 = (m2 : Int) + 2) (r10 : b10 = (m4 : Int) + (m5 : Int) + 32) (r12 : b12 = 2 * (m4 : Int) + 2 * (m5 : Int) + 64) (k1 : b10 ≤ (m1 : Int)) (k3 : b12 ≤ (m3 : Int)) : Concl W 10 (m1 : Int) (m2 : Int) (m3 : Int) (m4 : Int) (m5 : Int) (m6 : Int) := by
  refine top_trueg (xp_ok _ _) (xp_fns _ _) mixed (YmT _) (xp_sums _ _) (l := YL20) (by rw [nGlob]; exact YT20) (globs h) (by unfold YL20; exact List.mem_cons_self ..) (vs := [.agg #[.int .i64 10, .int .i64 (m1 : Int), .int .i64 (m2 : Int), .int .i64 (m3 : Int), .int .i64 (m4 : Int), .int .i64 (m5 : Int), .int .i64 (m6 : Int)]]) (sy 10 (m1 : Int) (m2 : Int) (m3 : Int) (m4 : Int) (m5 : Int) (m6 : Int) b7 b8 b9 b10 b11 b12 (crcG (bs 1 10 m1 m2 m3 m4 m5 m6)) (crcG (bs 2 10 m1 m2 m3 m4 m5 m6))) (ora20 hm h1 h2 h3 h4 h5 h6 r7 r10 r12 k1 k3) ?_
  exact cvs_mk (cvAgg (cvs_mk rfl (cvs_mk (rng_cv rfl (by omega)) (cvs_mk (rng_cv rfl (by omega)) (cvs_mk (rng_cv rfl (by omega)) (cvs_mk (rng_cv rfl (by omega)) (cvs_mk (rng_cv rfl (by omega)) (cvs_mk (rng_cv rfl (by omega)) rfl)))))))) rfl

theorem ora21 {W : World} {m1 m2 m3 m4 m5 m6 : Nat} {b7 b8 b9 b10 b11 b12 : Int} (hm : Made (m2 : Int) (m4 : Int) (m5 : Int) b7 b8 b9 b10 b11 b12) (h1 : 33 ≤ m1 ∧ m1 ≤ 8192) (h2 : 2 ≤ m2 ∧ m2 ≤ 8) (h3 : 66 ≤ m3 ∧ m3 ≤ 65536) (h4 : 1 ≤ m4 ∧ m4 ≤ 32) (h5 : m5 ≤ 512) (h6 : 1 ≤ m6 ∧ m6 ≤ 2) (r7 : b7 = (m2 : Int) + 2) (r10 : b10 = (m4 : Int) + (m5 : Int) + 32) (r12 : b12 = 2 * (m4 : Int) + 2 * (m5 : Int) + 64) (k1 : b10 ≤ (m1 : Int)) (k3 : b12 ≤ (m3 : Int)) : OraOk YO21 (env0 Tryz.prog.globals.size W (sy 11 (m1 : Int) (m2 : Int) (m3 : Int) (m4 : Int) (m5 : Int) (m6 : Int) b7 b8 b9 b10 b11 b12 (crcG (bs 1 11 m1 m2 m3 m4 m5 m6)) (crcG (bs 2 11 m1 m2 m3 m4 m5 m6)))).sy := by
  unfold YO21
  refine base6 hm ?_
  refine ora_cons .i64 (11) .i64 b7 (.bool false) rfl rfl (lss_f (by omega)) (fun _ _ => rfl) ?_
  refine ora_cons .i64 (11) .i64 b7 (.bool true) rfl rfl (geq_t (by omega)) (fun _ _ => rfl) ?_
  refine ora_cons .i64 m1 .i64 b10 (.bool false) rfl rfl (lss_f (by omega)) (fun _ _ => rfl) ?_
  refine ora_cons .i64 m1 .i64 b10 (.bool true) rfl rfl (geq_t (by omega)) (fun _ _ => rfl) ?_
  refine ora_cons .i64 m3 .i64 b12 (.bool false) rfl rfl (lss_f (by omega)) (fun _ _ => rfl) ?_
  refine ora_cons .i64 m3 .i64 b12 (.bool true) rfl rfl (geq_t (by omega)) (fun _ _ => rfl) ?_
  refine ora_cons .i64 (11) .i64 b7 (.bool false) rfl rfl (lss_f (by omega)) (fun _ _ => rfl) ?_
  refine ora_sum (bs 1 11 m1 m2 m3 m4 m5 m6) (cs_cv (r := 8) h1 h2 h3 h4 h5 h6) rfl (bs_lt (by decide) (by decide) m1 m2 m3 m4 m5 m6) (crcG_lt _ (bs_lt (by decide) (by decide) m1 m2 m3 m4 m5 m6)) ?_
  refine ora_sum (bs 2 11 m1 m2 m3 m4 m5 m6) (cs_cv (r := 8) h1 h2 h3 h4 h5 h6) rfl (bs_lt (by decide) (by decide) m1 m2 m3 m4 m5 m6) (crcG_lt _ (bs_lt (by decide) (by decide) m1 m2 m3 m4 m5 m6)) ?_
  refine ora_cons .i64 (11) .i64 b7 (.bool true) rfl rfl (geq_t (by omega)) (fun _ _ => rfl) ?_
  exact ora_nil _

theorem case21 {W : World} (h : laidMetH Tryz.prog laidL W) {m1 m2 m3 m4 m5 m6 : Nat} {b7 b8 b9 b10 b11 b12 : Int} (hm : Made (m2 : Int) (m4 : Int) (m5 : Int) b7 b8 b9 b10 b11 b12) (h1 : 33 ≤ m1 ∧ m1 ≤ 8192) (h2 : 2 ≤ m2 ∧ m2 ≤ 8) (h3 : 66 ≤ m3 ∧ m3 ≤ 65536) (h4 : 1 ≤ m4 ∧ m4 ≤ 32) (h5 : m5 ≤ 512) (h6 : 1 ≤ m6 ∧ m6 ≤ 2) (r7 : b7 = (m2 : Int) + 2) (r10 : b10 = (m4 : Int) + (m5 : Int) + 32) (r12 : b12 = 2 * (m4 : Int) + 2 * (m5 : Int) + 64) (k1 : b10 ≤ (m1 : Int)) (k3 : b12 ≤ (m3 : Int)) : Concl W 11 (m1 : Int) (m2 : Int) (m3 : Int) (m4 : Int) (m5 : Int) (m6 : Int) := by
  refine top_trueg (xp_ok _ _) (xp_fns _ _) mixed (YmT _) (xp_sums _ _) (l := YL21) (by rw [nGlob]; exact YT21) (globs h) (by unfold YL21; exact List.mem_cons_self ..) (vs := [.agg #[.int .i64 11, .int .i64 (m1 : Int), .int .i64 (m2 : Int), .int .i64 (m3 : Int), .int .i64 (m4 : Int), .int .i64 (m5 : Int), .int .i64 (m6 : Int)]]) (sy 11 (m1 : Int) (m2 : Int) (m3 : Int) (m4 : Int) (m5 : Int) (m6 : Int) b7 b8 b9 b10 b11 b12 (crcG (bs 1 11 m1 m2 m3 m4 m5 m6)) (crcG (bs 2 11 m1 m2 m3 m4 m5 m6))) (ora21 hm h1 h2 h3 h4 h5 h6 r7 r10 r12 k1 k3) ?_
  exact cvs_mk (cvAgg (cvs_mk rfl (cvs_mk (rng_cv rfl (by omega)) (cvs_mk (rng_cv rfl (by omega)) (cvs_mk (rng_cv rfl (by omega)) (cvs_mk (rng_cv rfl (by omega)) (cvs_mk (rng_cv rfl (by omega)) (cvs_mk (rng_cv rfl (by omega)) rfl)))))))) rfl

theorem ora22 {W : World} {m1 m2 m3 m4 m5 m6 : Nat} {b7 b8 b9 b10 b11 b12 : Int} (hm : Made (m2 : Int) (m4 : Int) (m5 : Int) b7 b8 b9 b10 b11 b12) (h1 : 33 ≤ m1 ∧ m1 ≤ 8192) (h2 : 2 ≤ m2 ∧ m2 ≤ 8) (h3 : 66 ≤ m3 ∧ m3 ≤ 65536) (h4 : 1 ≤ m4 ∧ m4 ≤ 32) (h5 : m5 ≤ 512) (h6 : 1 ≤ m6 ∧ m6 ≤ 2) (r7 : b7 = (m2 : Int) + 2) (r10 : b10 = (m4 : Int) + (m5 : Int) + 32) (r12 : b12 = 2 * (m4 : Int) + 2 * (m5 : Int) + 64) (k1 : b10 ≤ (m1 : Int)) (k3 : b12 ≤ (m3 : Int)) : OraOk YO22 (env0 Tryz.prog.globals.size W (sy 12 (m1 : Int) (m2 : Int) (m3 : Int) (m4 : Int) (m5 : Int) (m6 : Int) b7 b8 b9 b10 b11 b12 (crcG (bs 1 12 m1 m2 m3 m4 m5 m6)) (crcG (bs 2 12 m1 m2 m3 m4 m5 m6)))).sy := by
  unfold YO22
  refine base6 hm ?_
  refine ora_cons .i64 (12) .i64 b7 (.bool false) rfl rfl (lss_f (by omega)) (fun _ _ => rfl) ?_
  refine ora_cons .i64 (12) .i64 b7 (.bool true) rfl rfl (geq_t (by omega)) (fun _ _ => rfl) ?_
  refine ora_cons .i64 m1 .i64 b10 (.bool false) rfl rfl (lss_f (by omega)) (fun _ _ => rfl) ?_
  refine ora_cons .i64 m1 .i64 b10 (.bool true) rfl rfl (geq_t (by omega)) (fun _ _ => rfl) ?_
  refine ora_cons .i64 m3 .i64 b12 (.bool false) rfl rfl (lss_f (by omega)) (fun _ _ => rfl) ?_
  refine ora_cons .i64 m3 .i64 b12 (.bool true) rfl rfl (geq_t (by omega)) (fun _ _ => rfl) ?_
  refine ora_cons .i64 (12) .i64 b7 (.bool false) rfl rfl (lss_f (by omega)) (fun _ _ => rfl) ?_
  refine ora_sum (bs 1 12 m1 m2 m3 m4 m5 m6) (cs_cv (r := 8) h1 h2 h3 h4 h5 h6) rfl (bs_lt (by decide) (by decide) m1 m2 m3 m4 m5 m6) (crcG_lt _ (bs_lt (by decide) (by decide) m1 m2 m3 m4 m5 m6)) ?_
  refine ora_sum (bs 2 12 m1 m2 m3 m4 m5 m6) (cs_cv (r := 8) h1 h2 h3 h4 h5 h6) rfl (bs_lt (by decide) (by decide) m1 m2 m3 m4 m5 m6) (crcG_lt _ (bs_lt (by decide) (by decide) m1 m2 m3 m4 m5 m6)) ?_
  refine ora_cons .i64 (12) .i64 b7 (.bool true) rfl rfl (geq_t (by omega)) (fun _ _ => rfl) ?_
  exact ora_nil _

theorem case22 {W : World} (h : laidMetH Tryz.prog laidL W) {m1 m2 m3 m4 m5 m6 : Nat} {b7 b8 b9 b10 b11 b12 : Int} (hm : Made (m2 : Int) (m4 : Int) (m5 : Int) b7 b8 b9 b10 b11 b12) (h1 : 33 ≤ m1 ∧ m1 ≤ 8192) (h2 : 2 ≤ m2 ∧ m2 ≤ 8) (h3 : 66 ≤ m3 ∧ m3 ≤ 65536) (h4 : 1 ≤ m4 ∧ m4 ≤ 32) (h5 : m5 ≤ 512) (h6 : 1 ≤ m6 ∧ m6 ≤ 2) (r7 : b7 = (m2 : Int) + 2) (r10 : b10 = (m4 : Int) + (m5 : Int) + 32) (r12 : b12 = 2 * (m4 : Int) + 2 * (m5 : Int) + 64) (k1 : b10 ≤ (m1 : Int)) (k3 : b12 ≤ (m3 : Int)) : Concl W 12 (m1 : Int) (m2 : Int) (m3 : Int) (m4 : Int) (m5 : Int) (m6 : Int) := by
  refine top_trueg (xp_ok _ _) (xp_fns _ _) mixed (YmT _) (xp_sums _ _) (l := YL22) (by rw [nGlob]; exact YT22) (globs h) (by unfold YL22; exact List.mem_cons_self ..) (vs := [.agg #[.int .i64 12, .int .i64 (m1 : Int), .int .i64 (m2 : Int), .int .i64 (m3 : Int), .int .i64 (m4 : Int), .int .i64 (m5 : Int), .int .i64 (m6 : Int)]]) (sy 12 (m1 : Int) (m2 : Int) (m3 : Int) (m4 : Int) (m5 : Int) (m6 : Int) b7 b8 b9 b10 b11 b12 (crcG (bs 1 12 m1 m2 m3 m4 m5 m6)) (crcG (bs 2 12 m1 m2 m3 m4 m5 m6))) (ora22 hm h1 h2 h3 h4 h5 h6 r7 r10 r12 k1 k3) ?_
  exact cvs_mk (cvAgg (cvs_mk rfl (cvs_mk (rng_cv rfl (by omega)) (cvs_mk (rng_cv rfl (by omega)) (cvs_mk (rng_cv rfl (by omega)) (cvs_mk (rng_cv rfl (by omega)) (cvs_mk (rng_cv rfl (by omega)) (cvs_mk (rng_cv rfl (by omega)) rfl)))))))) rfl

theorem ora23 {W : World} {m1 m2 m3 m4 m5 m6 : Nat} {b7 b8 b9 b10 b11 b12 : Int} (hm : Made (m2 : Int) (m4 : Int) (m5 : Int) b7 b8 b9 b10 b11 b12) (h1 : 33 ≤ m1 ∧ m1 ≤ 8192) (h2 : 2 ≤ m2 ∧ m2 ≤ 8) (h3 : 66 ≤ m3 ∧ m3 ≤ 65536) (h4 : 1 ≤ m4 ∧ m4 ≤ 32) (h5 : m5 ≤ 512) (h6 : 1 ≤ m6 ∧ m6 ≤ 2) (r7 : b7 = (m2 : Int) + 2) (r10 : b10 = (m4 : Int) + (m5 : Int) + 32) (r12 : b12 = 2 * (m4 : Int) + 2 * (m5 : Int) + 64) (k1 : b10 ≤ (m1 : Int)) (k3 : b12 ≤ (m3 : Int)) : OraOk YO23 (env0 Tryz.prog.globals.size W (sy 13 (m1 : Int) (m2 : Int) (m3 : Int) (m4 : Int) (m5 : Int) (m6 : Int) b7 b8 b9 b10 b11 b12 (crcG (bs 1 13 m1 m2 m3 m4 m5 m6)) (crcG (bs 2 13 m1 m2 m3 m4 m5 m6)))).sy := by
  unfold YO23
  refine base6 hm ?_
  refine ora_cons .i64 (13) .i64 b7 (.bool false) rfl rfl (lss_f (by omega)) (fun _ _ => rfl) ?_
  refine ora_cons .i64 (13) .i64 b7 (.bool true) rfl rfl (geq_t (by omega)) (fun _ _ => rfl) ?_
  refine ora_cons .i64 m1 .i64 b10 (.bool false) rfl rfl (lss_f (by omega)) (fun _ _ => rfl) ?_
  refine ora_cons .i64 m1 .i64 b10 (.bool true) rfl rfl (geq_t (by omega)) (fun _ _ => rfl) ?_
  refine ora_cons .i64 m3 .i64 b12 (.bool false) rfl rfl (lss_f (by omega)) (fun _ _ => rfl) ?_
  refine ora_cons .i64 m3 .i64 b12 (.bool true) rfl rfl (geq_t (by omega)) (fun _ _ => rfl) ?_
  refine ora_cons .i64 (13) .i64 b7 (.bool false) rfl rfl (lss_f (by omega)) (fun _ _ => rfl) ?_
  refine ora_sum (bs 1 13 m1 m2 m3 m4 m5 m6) (cs_cv (r := 8) h1 h2 h3 h4 h5 h6) rfl (bs_lt (by decide) (by decide) m1 m2 m3 m4 m5 m6) (crcG_lt _ (bs_lt (by decide) (by decide) m1 m2 m3 m4 m5 m6)) ?_
  refine ora_sum (bs 2 13 m1 m2 m3 m4 m5 m6) (cs_cv (r := 8) h1 h2 h3 h4 h5 h6) rfl (bs_lt (by decide) (by decide) m1 m2 m3 m4 m5 m6) (crcG_lt _ (bs_lt (by decide) (by decide) m1 m2 m3 m4 m5 m6)) ?_
  refine ora_cons .i64 (13) .i64 b7 (.bool true) rfl rfl (geq_t (by omega)) (fun _ _ => rfl) ?_
  exact ora_nil _

theorem case23 {W : World} (h : laidMetH Tryz.prog laidL W) {m1 m2 m3 m4 m5 m6 : Nat} {b7 b8 b9 b10 b11 b12 : Int} (hm : Made (m2 : Int) (m4 : Int) (m5 : Int) b7 b8 b9 b10 b11 b12) (h1 : 33 ≤ m1 ∧ m1 ≤ 8192) (h2 : 2 ≤ m2 ∧ m2 ≤ 8) (h3 : 66 ≤ m3 ∧ m3 ≤ 65536) (h4 : 1 ≤ m4 ∧ m4 ≤ 32) (h5 : m5 ≤ 512) (h6 : 1 ≤ m6 ∧ m6 ≤ 2) (r7 : b7 = (m2 : Int) + 2) (r10 : b10 = (m4 : Int) + (m5 : Int) + 32) (r12 : b12 = 2 * (m4 : Int) + 2 * (m5 : Int) + 64) (k1 : b10 ≤ (m1 : Int)) (k3 : b12 ≤ (m3 : Int)) : Concl W 13 (m1 : Int) (m2 : Int) (m3 : Int) (m4 : Int) (m5 : Int) (m6 : Int) := by
  refine top_trueg (xp_ok _ _) (xp_fns _ _) mixed (YmT _) (xp_sums _ _) (l := YL23) (by rw [nGlob]; exact YT23) (globs h) (by unfold YL23; exact List.mem_cons_self ..) (vs := [.agg #[.int .i64 13, .int .i64 (m1 : Int), .int .i64 (m2 : Int), .int .i64 (m3 : Int), .int .i64 (m4 : Int), .int .i64 (m5 : Int), .int .i64 (m6 : Int)]]) (sy 13 (m1 : Int) (m2 : Int) (m3 : Int) (m4 : Int) (m5 : Int) (m6 : Int) b7 b8 b9 b10 b11 b12 (crcG (bs 1 13 m1 m2 m3 m4 m5 m6)) (crcG (bs 2 13 m1 m2 m3 m4 m5 m6))) (ora23 hm h1 h2 h3 h4 h5 h6 r7 r10 r12 k1 k3) ?_
  exact cvs_mk (cvAgg (cvs_mk rfl (cvs_mk (rng_cv rfl (by omega)) (cvs_mk (rng_cv rfl (by omega)) (cvs_mk (rng_cv rfl (by omega)) (cvs_mk (rng_cv rfl (by omega)) (cvs_mk (rng_cv rfl (by omega)) (cvs_mk (rng_cv rfl (by omega)) rfl)))))))) rfl

theorem ora24 {W : World} {m1 m2 m3 m4 m5 m6 : Nat} {b7 b8 b9 b10 b11 b12 : Int} (hm : Made (m2 : Int) (m4 : Int) (m5 : Int) b7 b8 b9 b10 b11 b12) (h1 : 33 ≤ m1 ∧ m1 ≤ 8192) (h2 : 2 ≤ m2 ∧ m2 ≤ 8) (h3 : 66 ≤ m3 ∧ m3 ≤ 65536) (h4 : 1 ≤ m4 ∧ m4 ≤ 32) (h5 : m5 ≤ 512) (h6 : 1 ≤ m6 ∧ m6 ≤ 2) (r7 : b7 = (m2 : Int) + 2) (r10 : b10 = (m4 : Int) + (m5 : Int) + 32) (r12 : b12 = 2 * (m4 : Int) + 2 * (m5 : Int) + 64) (k1 : b10 ≤ (m1 : Int)) (k3 : b12 ≤ (m3 : Int)) : OraOk YO24 (env0 Tryz.prog.globals.size W (sy 14 (m1 : Int) (m2 : Int) (m3 : Int) (m4 : Int) (m5 : Int) (m6 : Int) b7 b8 b9 b10 b11 b12 (crcG (bs 1 14 m1 m2 m3 m4 m5 m6)) (crcG (bs 2 14 m1 m2 m3 m4 m5 m6)))).sy := by
  unfold YO24
  refine base6 hm ?_
  refine ora_cons .i64 (14) .i64 b7 (.bool false) rfl rfl (lss_f (by omega)) (fun _ _ => rfl) ?_
  refine ora_cons .i64 (14) .i64 b7 (.bool true) rfl rfl (geq_t (by omega)) (fun _ _ => rfl) ?_
  refine ora_cons .i64 m1 .i64 b10 (.bool false) rfl rfl (lss_f (by omega)) (fun _ _ => rfl) ?_
  refine ora_cons .i64 m1 .i64 b10 (.bool true) rfl rfl (geq_t (by omega)) (fun _ _ => rfl) ?_
  refine ora_cons .i64 m3 .i64 b12 (.bool false) rfl rfl (lss_f (by omega)) (fun _ _ => rfl) ?_
  refine ora_cons .i64 m3 .i64 b12 (.bool true) rfl rfl (geq_t (by omega)) (fun _ _ => rfl) ?_
  refine ora_cons .i64 (14) .i64 b7 (.bool false) rfl rfl (lss_f (by omega)) (fun _ _ => rfl) ?_
  refine ora_sum (bs 1 14 m1 m2 m3 m4 m5 m6) (cs_cv (r := 8) h1 h2 h3 h4 h5 h6) rfl (bs_lt (by decide) (by decide) m1 m2 m3 m4 m5 m6) (crcG_lt _ (bs_lt (by decide) (by decide) m1 m2 m3 m4 m5 m6)) ?_
  refine ora_sum (bs 2 14 m1 m2 m3 m4 m5 m6) (cs_cv (r := 8) h1 h2 h3 h4 h5 h6) rfl (bs_lt (by decide) (by decide) m1 m2 m3 m4 m5 m6) (crcG_lt _ (bs_lt (by decide) (by decide) m1 m2 m3 m4 m5 m6)) ?_
  refine ora_cons .i64 (14) .i64 b7 (.bool true) rfl rfl (geq_t (by omega)) (fun _ _ => rfl) ?_
  exact ora_nil _

theorem case24 {W : World} (h : laidMetH Tryz.prog laidL W) {m1 m2 m3 m4 m5 m6 : Nat} {b7 b8 b9 b10 b11 b12 : Int} (hm : Made (m2 : Int) (m4 : Int) (m5 : Int) b7 b8 b9 b10 b11 b12) (h1 : 33 ≤ m1 ∧ m1 ≤ 8192) (h2 : 2 ≤ m2 ∧ m2 ≤ 8) (h3 : 66 ≤ m3 ∧ m3 ≤ 65536) (h4 : 1 ≤ m4 ∧ m4 ≤ 32) (h5 : m5 ≤ 512) (h6 : 1 ≤ m6 ∧ m6 ≤ 2) (r7 : b7 = (m2 : Int) + 2) (r10 : b10 = (m4 : Int) + (m5 : Int) + 32) (r12 : b12 = 2 * (m4 : Int) + 2 * (m5 : Int) + 64) (k1 : b10 ≤ (m1 : Int)) (k3 : b12 ≤ (m3 : Int)) : Concl W 14 (m1 : Int) (m2 : Int) (m3 : Int) (m4 : Int) (m5 : Int) (m6 : Int) := by
  refine top_trueg (xp_ok _ _) (xp_fns _ _) mixed (YmT _) (xp_sums _ _) (l := YL24) (by rw [nGlob]; exact YT24) (globs h) (by unfold YL24; exact List.mem_cons_self ..) (vs := [.agg #[.int .i64 14, .int .i64 (m1 : Int), .int .i64 (m2 : Int), .int .i64 (m3 : Int), .int .i64 (m4 : Int), .int .i64 (m5 : Int), .int .i64 (m6 : Int)]]) (sy 14 (m1 : Int) (m2 : Int) (m3 : Int) (m4 : Int) (m5 : Int) (m6 : Int) b7 b8 b9 b10 b11 b12 (crcG (bs 1 14 m1 m2 m3 m4 m5 m6)) (crcG (bs 2 14 m1 m2 m3 m4 m5 m6))) (ora24 hm h1 h2 h3 h4 h5 h6 r7 r10 r12 k1 k3) ?_
  exact cvs_mk (cvAgg (cvs_mk rfl (cvs_mk (rng_cv rfl (by omega)) (cvs_mk (rng_cv rfl (by omega)) (cvs_mk (rng_cv rfl (by omega)) (cvs_mk (rng_cv rfl (by omega)) (cvs_mk (rng_cv rfl (by omega)) (cvs_mk (rng_cv rfl (by omega)) rfl)))))))) rfl

theorem ora25 {W : World} {m1 m2 m3 m4 m5 m6 : Nat} {b7 b8 b9 b10 b11 b12 : Int} (hm : Made (m2 : Int) (m4 : Int) (m5 : Int) b7 b8 b9 b10 b11 b12) (h1 : 33 ≤ m1 ∧ m1 ≤ 8192) (h2 : 2 ≤ m2 ∧ m2 ≤ 8) (h3 : 66 ≤ m3 ∧ m3 ≤ 65536) (h4 : 1 ≤ m4 ∧ m4 ≤ 32) (h5 : m5 ≤ 512) (h6 : 1 ≤ m6 ∧ m6 ≤ 2) (r7 : b7 = (m2 : Int) + 2) (r10 : b10 = (m4 : Int) + (m5 : Int) + 32) (r12 : b12 = 2 * (m4 : Int) + 2 * (m5 : Int) + 64) (k1 : b10 ≤ (m1 : Int)) (k3 : b12 ≤ (m3 : Int)) : OraOk YO25 (env0 Tryz.prog.globals.size W (sy 15 (m1 : Int) (m2 : Int) (m3 : Int) (m4 : Int) (m5 : Int) (m6 : Int) b7 b8 b9 b10 b11 b12 (crcG (bs 1 15 m1 m2 m3 m4 m5 m6)) (crcG (bs 2 15 m1 m2 m3 m4 m5 m6)))).sy := by
  unfold YO25
  refine base6 hm ?_
  refine ora_cons .i64 (15) .i64 b7 (.bool false) rfl rfl (lss_f (by omega)) (fun _ _ => rfl) ?_
  refine ora_cons .i64 (15) .i64 b7 (.bool true) rfl rfl (geq_t (by omega)) (fun _ _ => rfl) ?_
  refine ora_cons .i64 m1 .i64 b10 (.bool false) rfl rfl (lss_f (by omega)) (fun _ _ => rfl) ?_
  refine ora_cons .i64 m1 .i64 b10 (.bool true) rfl rfl (geq_t (by omega)) (fun _ _ => rfl) ?_
  refine ora_cons .i64 m3 .i64 b12 (.bool false) rfl rfl (lss_f (by omega)) (fun _ _ => rfl) ?_
  refine ora_cons .i64 m3 .i64 b12 (.bool true) rfl rfl (geq_t (by omega)) (fun _ _ => rfl) ?_
  refine ora_cons .i64 (15) .i64 b7 (.bool false) rfl rfl (lss_f (by omega)) (fun _ _ => rfl) ?_
  refine ora_sum (bs 1 15 m1 m2 m3 m4 m5 m6) (cs_cv (r := 8) h1 h2 h3 h4 h5 h6) rfl (bs_lt (by decide) (by decide) m1 m2 m3 m4 m5 m6) (crcG_lt _ (bs_lt (by decide) (by decide) m1 m2 m3 m4 m5 m6)) ?_
  refine ora_sum (bs 2 15 m1 m2 m3 m4 m5 m6) (cs_cv (r := 8) h1 h2 h3 h4 h5 h6) rfl (bs_lt (by decide) (by decide) m1 m2 m3 m4 m5 m6) (crcG_lt _ (bs_lt (by decide) (by decide) m1 m2 m3 m4 m5 m6)) ?_
  refine ora_cons .i64 (15) .i64 b7 (.bool true) rfl rfl (geq_t (by omega)) (fun _ _ => rfl) ?_
  exact ora_nil _

theorem case25 {W : World} (h : laidMetH Tryz.prog laidL W) {m1 m2 m3 m4 m5 m6 : Nat} {b7 b8 b9 b10 b11 b12 : Int} (hm : Made (m2 : Int) (m4 : Int) (m5 : Int) b7 b8 b9 b10 b11 b12) (h1 : 33 ≤ m1 ∧ m1 ≤ 8192) (h2 : 2 ≤ m2 ∧ m2 ≤ 8) (h3 : 66 ≤ m3 ∧ m3 ≤ 65536) (h4 : 1 ≤ m4 ∧ m4 ≤ 32) (h5 : m5 ≤ 512) (h6 : 1 ≤ m6 ∧ m6 ≤ 2) (r7 : b7 = (m2 : Int) + 2) (r10 : b10 = (m4 : Int) + (m5 : Int) + 32) (r12 : b12 = 2 * (m4 : Int) + 2 * (m5 : Int) + 64) (k1 : b10 ≤ (m1 : Int)) (k3 : b12 ≤ (m3 : Int)) : Concl W 15 (m1 : Int) (m2 : Int) (m3 : Int) (m4 : Int) (m5 : Int) (m6 : Int) := by
  refine top_trueg (xp_ok _ _) (xp_fns _ _) mixed (YmT _) (xp_sums _ _) (l := YL25) (by rw [nGlob]; exact YT25) (globs h) (by unfold YL25; exact List.mem_cons_self ..) (vs := [.agg #[.int .i64 15, .int .i64 (m1 : Int), .int .i64 (m2 : Int), .int .i64 (m3 : Int), .int .i64 (m4 : Int), .int .i64 (m5 : Int), .int .i64 (m6 : Int)]]) (sy 15 (m1 : Int) (m2 : Int) (m3 : Int) (m4 : Int) (m5 : Int) (m6 : Int) b7 b8 b9 b10 b11 b12 (crcG (bs 1 15 m1 m2 m3 m4 m5 m6)) (crcG (bs 2 15 m1 m2 m3 m4 m5 m6))) (ora25 hm h1 h2 h3 h4 h5 h6 r7 r10 r12 k1 k3) ?_
  exact cvs_mk (cvAgg (cvs_mk rfl (cvs_mk (rng_cv rfl (by omega)) (cvs_mk (rng_cv rfl (by omega)) (cvs_mk (rng_cv rfl (by omega)) (cvs_mk (rng_cv rfl (by omega)) (cvs_mk (rng_cv rfl (by omega)) (cvs_mk (rng_cv rfl (by omega)) rfl)))))))) rfl

theorem ora26 {W : World} {m1 m2 m3 m4 m5 m6 : Nat} {b7 b8 b9 b10 b11 b12 : Int} (hm : Made (m2 : Int) (m4 : Int) (m5 : Int) b7 b8 b9 b10 b11 b12) (h1 : 33 ≤ m1 ∧ m1 ≤ 8192) (h2 : 2 ≤ m2 ∧ m2 ≤ 8) (h3 : 66 ≤ m3 ∧ m3 ≤ 65536) (h4 : 1 ≤ m4 ∧ m4 ≤ 32) (h5 : m5 ≤ 512) (h6 : 1 ≤ m6 ∧ m6 ≤ 2) (r7 : b7 = (m2 : Int) + 2) (r10 : b10 = (m4 : Int) + (m5 : Int) + 32) (r12 : b12 = 2 * (m4 : Int) + 2 * (m5 : Int) + 64) (k1 : b10 ≤ (m1 : Int)) (k3 : b12 ≤ (m3 : Int)) : OraOk YO26 (env0 Tryz.prog.globals.size W (sy 16 (m1 : Int) (m2 : Int) (m3 : Int) (m4 : Int) (m5 : Int) (m6 : Int) b7 b8 b9 b10 b11 b12 (crcG (bs 1 16 m1 m2 m3 m4 m5 m6)) (crcG (bs 2 16 m1 m2 m3 m4 m5 m6)))).sy := by
  unfold YO26
  refine base6 hm ?_
  refine ora_cons .i64 (16) .i64 b7 (.bool false) rfl rfl (lss_f (by omega)) (fun _ _ => rfl) ?_
  refine ora_cons .i64 (16) .i64 b7 (.bool true) rfl rfl (geq_t (by omega)) (fun _ _ => rfl) ?_
  refine ora_cons .i64 m1 .i64 b10 (.bool false) rfl rfl (lss_f (by omega)) (fun _ _ => rfl) ?_
  refine ora_cons .i64 m1 .i64 b10 (.bool true) rfl rfl (geq_t (by omega)) (fun _ _ => rfl) ?_
  refine ora_cons .i64 m3 .i64 b12 (.bool false) rfl rfl (lss_f (by omega)) (fun _ _ => rfl) ?_
  refine ora_cons .i64 m3 .i64 b12 (.bool true) rfl rfl (geq_t (by omega)) (fun _ _ => rfl) ?_
  refine ora_cons .i64 (16) .i64 b7 (.bool false) rfl rfl (lss_f (by omega)) (fun _ _ => rfl) ?_
  refine ora_sum (bs 1 16 m1 m2 m3 m4 m5 m6) (cs_cv (r := 8) h1 h2 h3 h4 h5 h6) rfl (bs_lt (by decide) (by decide) m1 m2 m3 m4 m5 m6) (crcG_lt _ (bs_lt (by decide) (by decide) m1 m2 m3 m4 m5 m6)) ?_
  refine ora_sum (bs 2 16 m1 m2 m3 m4 m5 m6) (cs_cv (r := 8) h1 h2 h3 h4 h5 h6) rfl (bs_lt (by decide) (by decide) m1 m2 m3 m4 m5 m6) (crcG_lt _ (bs_lt (by decide) (by decide) m1 m2 m3 m4 m5 m6)) ?_
  refine ora_cons .i64 (16) .i64 b7 (.bool true) rfl rfl (geq_t (by omega)) (fun _ _ => rfl) ?_
  exact ora_nil _

theorem case26 {W : World} (h : laidMetH Tryz.prog laidL W) {m1 m2 m3 m4 m5 m6 : Nat} {b7 b8 b9 b10 b11 b12 : Int} (hm : Made (m2 : Int) (m4 : Int) (m5 : Int) b7 b8 b9 b10 b11 b12) (h1 : 33 ≤ m1 ∧ m1 ≤ 8192) (h2 : 2 ≤ m2 ∧ m2 ≤ 8) (h3 : 66 ≤ m3 ∧ m3 ≤ 65536) (h4 : 1 ≤ m4 ∧ m4 ≤ 32) (h5 : m5 ≤ 512) (h6 : 1 ≤ m6 ∧ m6 ≤ 2) (r7 : b7 = (m2 : Int) + 2) (r10 : b10 = (m4 : Int) + (m5 : Int) + 32) (r12 : b12 = 2 * (m4 : Int) + 2 * (m5 : Int) + 64) (k1 : b10 ≤ (m1 : Int)) (k3 : b12 ≤ (m3 : Int)) : Concl W 16 (m1 : Int) (m2 : Int) (m3 : Int) (m4 : Int) (m5 : Int) (m6 : Int) := by
  refine top_trueg (xp_ok _ _) (xp_fns _ _) mixed (YmT _) (xp_sums _ _) (l := YL26) (by rw [nGlob]; exact YT26) (globs h) (by unfold YL26; exact List.mem_cons_self ..) (vs := [.agg #[.int .i64 16, .int .i64 (m1 : Int), .int .i64 (m2 : Int), .int .i64 (m3 : Int), .int .i64 (m4 : Int), .int .i64 (m5 : Int), .int .i64 (m6 : Int)]]) (sy 16 (m1 : Int) (m2 : Int) (m3 : Int) (m4 : Int) (m5 : Int) (m6 : Int) b7 b8 b9 b10 b11 b12 (crcG (bs 1 16 m1 m2 m3 m4 m5 m6)) (crcG (bs 2 16 m1 m2 m3 m4 m5 m6))) (ora26 hm h1 h2 h3 h4 h5 h6 r7 r10 r12 k1 k3) ?_
  exact cvs_mk (cvAgg (cvs_mk rfl (cvs_mk (rng_cv rfl (by omega)) (cvs_mk (rng_cv rfl (by omega)) (cvs_mk (rng_cv rfl (by omega)) (cvs_mk (rng_cv rfl (by omega)) (cvs_mk (rng_cv rfl (by omega)) (cvs_mk (rng_cv rfl (by omega)) rfl)))))))) rfl

theorem ora27 {W : World} {m1 m2 m3 m4 m5 m6 : Nat} {b7 b8 b9 b10 b11 b12 : Int} (hm : Made (m2 : Int) (m4 : Int) (m5 : Int) b7 b8 b9 b10 b11 b12) (h1 : 33 ≤ m1 ∧ m1 ≤ 8192) (h2 : 2 ≤ m2 ∧ m2 ≤ 8) (h3 : 66 ≤ m3 ∧ m3 ≤ 65536) (h4 : 1 ≤ m4 ∧ m4 ≤ 32) (h5 : m5 ≤ 512) (h6 : 1 ≤ m6 ∧ m6 ≤ 2) (r7 : b7 = (m2 : Int) + 2) (r10 : b10 = (m4 : Int) + (m5 : Int) + 32) (r12 : b12 = 2 * (m4 : Int) + 2 * (m5 : Int) + 64) (k1 : b10 ≤ (m1 : Int)) (k3 : b12 ≤ (m3 : Int)) : OraOk YO27 (env0 Tryz.prog.globals.size W (sy 17 (m1 : Int) (m2 : Int) (m3 : Int) (m4 : Int) (m5 : Int) (m6 : Int) b7 b8 b9 b10 b11 b12 (crcG (bs 1 17 m1 m2 m3 m4 m5 m6)) (crcG (bs 2 17 m1 m2 m3 m4 m5 m6)))).sy := by
  unfold YO27
  refine base6 hm ?_
  refine ora_cons .i64 (17) .i64 b7 (.bool false) rfl rfl (lss_f (by omega)) (fun _ _ => rfl) ?_
  refine ora_cons .i64 (17) .i64 b7 (.bool true) rfl rfl (geq_t (by omega)) (fun _ _ => rfl) ?_
  refine ora_cons .i64 m1 .i64 b10 (.bool false) rfl rfl (lss_f (by omega)) (fun _ _ => rfl) ?_
  refine ora_cons .i64 m1 .i64 b10 (.bool true) rfl rfl (geq_t (by omega)) (fun _ _ => rfl) ?_
  refine ora_cons .i64 m3 .i64 b12 (.bool false) rfl rfl (lss_f (by omega)) (fun _ _ => rfl) ?_
  refine ora_cons .i64 m3 .i64 b12 (.bool true) rfl rfl (geq_t (by omega)) (fun _ _ => rfl) ?_
  refine ora_cons .i64 (17) .i64 b7 (.bool false) rfl rfl (lss_f (by omega)) (fun _ _ => rfl) ?_
  refine ora_sum (bs 1 17 m1 m2 m3 m4 m5 m6) (cs_cv (r := 8) h1 h2 h3 h4 h5 h6) rfl (bs_lt (by decide) (by decide) m1 m2 m3 m4 m5 m6) (crcG_lt _ (bs_lt (by decide) (by decide) m1 m2 m3 m4 m5 m6)) ?_
  refine ora_sum (bs 2 17 m1 m2 m3 m4 m5 m6) (cs_cv (r := 8) h1 h2 h3 h4 h5 h6) rfl (bs_lt (by decide) (by decide) m1 m2 m3 m4 m5 m6) (crcG_lt _ (bs_lt (by decide) (by decide) m1 m2 m3 m4 m5 m6)) ?_
  refine ora_cons .i64 (17) .i64 b7 (.bool true) rfl rfl (geq_t (by omega)) (fun _ _ => rfl) ?_
  exact ora_nil _

theorem case27 {W : World} (h : laidMetH Tryz.prog laidL W) {m1 m2 m3 m4 m5 m6 : Nat} {b7 b8 b9 b10 b11 b12 : Int} (hm : Made (m2 : Int) (m4 : Int) (m5 : Int) b7 b8 b9 b10 b11 b12) (h1 : 33 ≤ m1 ∧ m1 ≤ 8192) (h2 : 2 ≤ m2 ∧ m2 ≤ 8) (h3 : 66 ≤ m3 ∧ m3 ≤ 65536) (h4 : 1 ≤ m4 ∧ m4 ≤ 32) (h5 : m5 ≤ 512) (h6 : 1 ≤ m6 ∧ m6 ≤ 2) (r7 : b7 = (m2 : Int) + 2) (r10 : b10 = (m4 : Int) + (m5 : Int) + 32) (r12 : b12 = 2 * (m4 : Int) + 2 * (m5 : Int) + 64) (k1 : b10 ≤ (m1 : Int)) (k3 : b12 ≤ (m3 : Int)) : Concl W 17 (m1 : Int) (m2 : Int) (m3 : Int) (m4 : Int) (m5 : Int) (m6 : Int) := by
  refine top_trueg (xp_ok _ _) (xp_fns _ _) mixed (YmT _) (xp_sums _ _) (l := YL27) (by rw [nGlob]; exact YT27) (globs h) (by unfold YL27; exact List.mem_cons_self ..) (vs := [.agg #[.int .i64 17, .int .i64 (m1 : Int), .int .i64 (m2 : Int), .int .i64 (m3 : Int), .int .i64 (m4 : Int), .int .i64 (m5 : Int), .int .i64 (m6 : Int)]]) (sy 17 (m1 : Int) (m2 : Int) (m3 : Int) (m4 : Int) (m5 : Int) (m6 : Int) b7 b8 b9 b10 b11 b12 (crcG (bs 1 17 m1 m2 m3 m4 m5 m6)) (crcG (bs 2 17 m1 m2 m3 m4 m5 m6))) (ora27 hm h1 h2 h3 h4 h5 h6 r7 r10 r12 k1 k3) ?_
  exact cvs_mk (cvAgg (cvs_mk rfl (cvs_mk (rng_cv rfl (by omega)) (cvs_mk (rng_cv rfl (by omega)) (cvs_mk (rng_cv rfl (by omega)) (cvs_mk (rng_cv rfl (by omega)) (cvs_mk (rng_cv rfl (by omega)) (cvs_mk (rng_cv rfl (by omega)) rfl)))))))) rfl

theorem ora28 {W : World} {m1 m2 m3 m4 m5 m6 : Nat} {b7 b8 b9 b10 b11 b12 : Int} (hm : Made (m2 : Int) (m4 : Int) (m5 : Int) b7 b8 b9 b10 b11 b12) (h1 : 33 ≤ m1 ∧ m1 ≤ 8192) (h2 : 2 ≤ m2 ∧ m2 ≤ 8) (h3 : 66 ≤ m3 ∧ m3 ≤ 65536) (h4 : 1 ≤ m4 ∧ m4 ≤ 32) (h5 : m5 ≤ 512) (h6 : 1 ≤ m6 ∧ m6 ≤ 2) (r7 : b7 = (m2 : Int) + 2) (r10 : b10 = (m4 : Int) + (m5 : Int) + 32) (r12 : b12 = 2 * (m4 : Int) + 2 * (m5 : Int) + 64) (k1 : b10 ≤ (m1 : Int)) (k3 : b12 ≤ (m3 : Int)) : OraOk YO28 (env0 Tryz.prog.globals.size W (sy 18 (m1 : Int) (m2 : Int) (m3 : Int) (m4 : Int) (m5 : Int) (m6 : Int) b7 b8 b9 b10 b11 b12 (crcG (bs 1 18 m1 m2 m3 m4 m5 m6)) (crcG (bs 2 18 m1 m2 m3 m4 m5 m6)))).sy := by
  unfold YO28
  refine base6 hm ?_
  refine ora_cons .i64 (18) .i64 b7 (.bool false) rfl rfl (lss_f (by omega)) (fun _ _ => rfl) ?_
  refine ora_cons .i64 (18) .i64 b7 (.bool true) rfl rfl (geq_t (by omega)) (fun _ _ => rfl) ?_
  refine ora_cons .i64 m1 .i64 b10 (.bool false) rfl rfl (lss_f (by omega)) (fun _ _ => rfl) ?_
  refine ora_cons .i64 m1 .i64 b10 (.bool true) rfl rfl (geq_t (by omega)) (fun _ _ => rfl) ?_
  refine ora_cons .i64 m3 .i64 b12 (.bool false) rfl rfl (lss_f (by omega)) (fun _ _ => rfl) ?_
  refine ora_cons .i64 m3 .i64 b12 (.bool true) rfl rfl (geq_t (by omega)) (fun _ _ => rfl) ?_
  refine ora_cons .i64 (18) .i64 b7 (.bool false) rfl rfl (lss_f (by omega)) (fun _ _ => rfl) ?_
  refine ora_sum (bs 1 18 m1 m2 m3 m4 m5 m6) (cs_cv (r := 8) h1 h2 h3 h4 h5 h6) rfl (bs_lt (by decide) (by decide) m1 m2 m3 m4 m5 m6) (crcG_lt _ (bs_lt (by decide) (by decide) m1 m2 m3 m4 m5 m6)) ?_
  refine ora_sum (bs 2 18 m1 m2 m3 m4 m5 m6) (cs_cv (r := 8) h1 h2 h3 h4 h5 h6) rfl (bs_lt (by decide) (by decide) m1 m2 m3 m4 m5 m6) (crcG_lt _ (bs_lt (by decide) (by decide) m1 m2 m3 m4 m5 m6)) ?_
  refine ora_cons .i64 (18) .i64 b7 (.bool true) rfl rfl (geq_t (by omega)) (fun _ _ => rfl) ?_
  exact ora_nil _

theorem case28 {W : World} (h : laidMetH Tryz.prog laidL W) {m1 m2 m3 m4 m5 m6 : Nat} {b7 b8 b9 b10 b11 b12 : Int} (hm : Made (m2 : Int) (m4 : Int) (m5 : Int) b7 b8 b9 b10 b11 b12) (h1 : 33 ≤ m1 ∧ m1 ≤ 8192) (h2 : 2 ≤ m2 ∧ m2 ≤ 8) (h3 : 66 ≤ m3 ∧ m3 ≤ 65536) (h4 : 1 ≤ m4 ∧ m4 ≤ 32) (h5 : m5 ≤ 512) (h6 : 1 ≤ m6 ∧ m6 ≤ 2) (r7 : b7 = (m2 : Int) + 2) (r10 : b10 = (m4 : Int) + (m5 : Int) + 32) (r12 : b12 = 2 * (m4 : Int) + 2 * (m5 : Int) + 64) (k1 : b10 ≤ (m1 : Int)) (k3 : b12 ≤ (m3 : Int)) : Concl W 18 (m1 : Int) (m2 : Int) (m3 : Int) (m4 : Int) (m5 : Int) (m6 : Int) := by
  refine top_trueg (xp_ok _ _) (xp_fns _ _) mixed (YmT _) (xp_sums _ _) (l := YL28) (by rw [nGlob]; exact YT28) (globs h) (by unfold YL28; exact List.mem_cons_self ..) (vs := [.agg #[.int .i64 18, .int .i64 (m1 : Int), .int .i64 (m2 : Int), .int .i64 (m3 : Int), .int .i64 (m4 : Int), .int .i64 (m5 : Int), .int .i64 (m6 : Int)]]) (sy 18 (m1 : Int) (m2 : Int) (m3 : Int) (m4 : Int) (m5 : Int) (m6 : Int) b7 b8 b9 b10 b11 b12 (crcG (bs 1 18 m1 m2 m3 m4 m5 m6)) (crcG (bs 2 18 m1 m2 m3 m4 m5 m6))) (ora28 hm h1 h2 h3 h4 h5 h6 r7 r10 r12 k1 k3) ?_
  exact cvs_mk (cvAgg (cvs_mk rfl (cvs_mk (rng_cv rfl (by omega)) (cvs_mk (rng_cv rfl (by omega)) (cvs_mk (rng_cv rfl (by omega)) (cvs_mk (rng_cv rfl (by omega)) (cvs_mk (rng_cv rfl (by omega)) (cvs_mk (rng_cv rfl (by omega)) rfl)))))))) rfl

theorem ora29 {W : World} {m1 m2 m3 m4 m5 m6 : Nat} {b7 b8 b9 b10 b11 b12 : Int} (hm : Made (m2 : Int) (m4 : Int) (m5 : Int) b7 b8 b9 b10 b11 b12) (h1 : 33 ≤ m1 ∧ m1 ≤ 8192) (h2 : 2 ≤ m2 ∧ m2 ≤ 8) (h3 : 66 ≤ m3 ∧ m3 ≤ 65536) (h4 : 1 ≤ m4 ∧ m4 ≤ 32) (h5 : m5 ≤ 512) (h6 : 1 ≤ m6 ∧ m6 ≤ 2) (r7 : b7 = (m2 : Int) + 2) (r10 : b10 = (m4 : Int) + (m5 : Int) + 32) (r12 : b12 = 2 * (m4 : Int) + 2 * (m5 : Int) + 64) (k1 : b10 ≤ (m1 : Int)) (k3 : b12 ≤ (m3 : Int)) : OraOk YO29 (env0 Tryz.prog.globals.size W (sy 19 (m1 : Int) (m2 : Int) (m3 : Int) (m4 : Int) (m5 : Int) (m6 : Int) b7 b8 b9 b10 b11 b12 (crcG (bs 1 19 m1 m2 m3 m4 m5 m6)) (crcG (bs 2 19 m1 m2 m3 m4 m5 m6)))).sy := by
  unfold YO29
  refine base6 hm ?_
  refine ora_cons .i64 (19) .i64 b7 (.bool false) rfl rfl (lss_f (by omega)) (fun _ _ => rfl) ?_
  refine ora_cons .i64 (19) .i64 b7 (.bool true) rfl rfl (geq_t (by omega)) (fun _ _ => rfl) ?_
  refine ora_cons .i64 m1 .i64 b10 (.bool false) rfl rfl (lss_f (by omega)) (fun _ _ => rfl) ?_
  refine ora_cons .i64 m1 .i64 b10 (.bool true) rfl rfl (geq_t (by omega)) (fun _ _ => rfl) ?_
  refine ora_cons .i64 m3 .i64 b12 (.bool false) rfl rfl (lss_f (by omega)) (fun _ _ => rfl) ?_
  refine ora_cons .i64 m3 .i64 b12 (.bool true) rfl rfl (geq_t (by omega)) (fun _ _ => rfl) ?_
  refine ora_cons .i64 (19) .i64 b7 (.bool false) rfl rfl (lss_f (by omega)) (fun _ _ => rfl) ?_
  refine ora_sum (bs 1 19 m1 m2 m3 m4 m5 m6) (cs_cv (r := 8) h1 h2 h3 h4 h5 h6) rfl (bs_lt (by decide) (by decide) m1 m2 m3 m4 m5 m6) (crcG_lt _ (bs_lt (by decide) (by decide) m1 m2 m3 m4 m5 m6)) ?_
  refine ora_sum (bs 2 19 m1 m2 m3 m4 m5 m6) (cs_cv (r := 8) h1 h2 h3 h4 h5 h6) rfl (bs_lt (by decide) (by decide) m1 m2 m3 m4 m5 m6) (crcG_lt _ (bs_lt (by decide) (by decide) m1 m2 m3 m4 m5 m6)) ?_
  refine ora_cons .i64 (19) .i64 b7 (.bool true) rfl rfl (geq_t (by omega)) (fun _ _ => rfl) ?_
  exact ora_nil _

theorem case29 {W : World} (h : laidMetH Tryz.prog laidL W) {m1 m2 m3 m4 m5 m6 : Nat} {b7 b8 b9 b10 b11 b12 : Int} (hm : Made (m2 : Int) (m4 : Int) (m5 : Int) b7 b8 b9 b10 b11 b12) (h1 : 33 ≤ m1 ∧ m1 ≤ 8192) (h2 : 2 ≤ m2 ∧ m2 ≤ 8) (h3 : 66 ≤ m3 ∧ m3 ≤ 65536) (h4 : 1 ≤ m4 ∧ m4 ≤ 32) (h5 : m5 ≤ 512) (h6 : 1 ≤ m6 ∧ m6 ≤ 2) (r7 : b7 = (m2 : Int) + 2) (r10 : b10 = (m4 : Int) + (m5 : Int) + 32) (r12 : b12 = 2 * (m4 : Int) + 2 * (m5 : Int) + 64) (k1 : b10 ≤ (m1 : Int)) (k3 : b12 ≤ (m3 : Int)) : Concl W 19 (m1 : Int) (m2 : Int) (m3 : Int) (m4 : Int) (m5 : Int) (m6 : Int) := by
  refine top_trueg (xp_ok _ _) (xp_fns _ _) mixed (YmT _) (xp_sums _ _) (l := YL29) (by rw [nGlob]; exact YT29) (globs h) (by unfold YL29; exact List.mem_cons_self ..) (vs := [.agg #[.int .i64 19, .int .i64 (m1 : Int), .int .i64 (m2 : Int), .int .i64 (m3 : Int), .int .i64 (m4 : Int), .int .i64 (m5 : Int), .int .i64 (m6 : Int)]]) (sy 19 (m1 : Int) (m2 : Int) (m3 : Int) (m4 : Int) (m5 : Int) (m6 : Int) b7 b8 b9 b10 b11 b12 (crcG (bs 1 19 m1 m2 m3 m4 m5 m6)) (crcG (bs 2 19 m1 m2 m3 m4 m5 m6))) (ora29 hm h1 h2 h3 h4 h5 h6 r7 r10 r12 k1 k3) ?_
  exact cvs_mk (cvAgg (cvs_mk rfl (cvs_mk (rng_cv rfl (by omega)) (cvs_mk (rng_cv rfl (by omega)) (cvs_mk (rng_cv rfl (by omega)) (cvs_mk (rng_cv rfl (by omega)) (cvs_mk (rng_cv rfl (by omega)) (cvs_mk (rng_cv rfl (by omega)) rfl)))))))) rfl

theorem ora30 {W : World} {m1 m2 m3 m4 m5 m6 : Nat} {b7 b8 b9 b10 b11 b12 : Int} (hm : Made (m2 : Int) (m4 : Int) (m5 : Int) b7 b8 b9 b10 b11 b12) (h1 : 33 ≤ m1 ∧ m1 ≤ 8192) (h2 : 2 ≤ m2 ∧ m2 ≤ 8) (h3 : 66 ≤ m3 ∧ m3 ≤ 65536) (h4 : 1 ≤ m4 ∧ m4 ≤ 32) (h5 : m5 ≤ 512) (h6 : 1 ≤ m6 ∧ m6 ≤ 2) (r7 : b7 = (m2 : Int) + 2) (r10 : b10 = (m4 : Int) + (m5 : Int) + 32) (r12 : b12 = 2 * (m4 : Int) + 2 * (m5 : Int) + 64) (k1 : b10 ≤ (m1 : Int)) (k3 : b12 ≤ (m3 : Int)) : OraOk YO30 (env0 Tryz.prog.globals.size W (sy 20 (m1 : Int) (m2 : Int) (m3 : Int) (m4 : Int) (m5 : Int) (m6 : Int) b7 b8 b9 b10 b11 b12 (crcG (bs 1 20 m1 m2 m3 m4 m5 m6)) (crcG (bs 2 20 m1 m2 m3 m4 m5 m6)))).sy := by
  unfold YO30
  refine base6 hm ?_
  refine ora_cons .i64 (20) .i64 b7 (.bool false) rfl rfl (lss_f (by omega)) (fun _ _ => rfl) ?_
  refine ora_cons .i64 (20) .i64 b7 (.bool true) rfl rfl (geq_t (by omega)) (fun _ _ => rfl) ?_
  refine ora_cons .i64 m1 .i64 b10 (.bool false) rfl rfl (lss_f (by omega)) (fun _ _ => rfl) ?_
  refine ora_cons .i64 m1 .i64 b10 (.bool true) rfl rfl (geq_t (by omega)) (fun _ _ => rfl) ?_
  refine ora_cons .i64 m3 .i64 b12 (.bool false) rfl rfl (lss_f (by omega)) (fun _ _ => rfl) ?_
  refine ora_cons .i64 m3 .i64 b12 (.bool true) rfl rfl (geq_t (by omega)) (fun _ _ => rfl) ?_
  refine ora_cons .i64 (20) .i64 b7 (.bool false) rfl rfl (lss_f (by omega)) (fun _ _ => rfl) ?_
  refine ora_sum (bs 1 20 m1 m2 m3 m4 m5 m6) (cs_cv (r := 8) h1 h2 h3 h4 h5 h6) rfl (bs_lt (by decide) (by decide) m1 m2 m3 m4 m5 m6) (crcG_lt _ (bs_lt (by decide) (by decide) m1 m2 m3 m4 m5 m6)) ?_
  refine ora_sum (bs 2 20 m1 m2 m3 m4 m5 m6) (cs_cv (r := 8) h1 h2 h3 h4 h5 h6) rfl (bs_lt (by decide) (by decide) m1 m2 m3 m4 m5 m6) (crcG_lt _ (bs_lt (by decide) (by decide) m1 m2 m3 m4 m5 m6)) ?_
  refine ora_cons .i64 (20) .i64 b7 (.bool true) rfl rfl (geq_t (by omega)) (fun _ _ => rfl) ?_
  exact ora_nil _

theorem case30 {W : World} (h : laidMetH Tryz.prog laidL W) {m1 m2 m3 m4 m5 m6 : Nat} {b7 b8 b9 b10 b11 b12 : Int} (hm : Made (m2 : Int) (m4 : Int) (m5 : Int) b7 b8 b9 b10 b11 b12) (h1 : 33 ≤ m1 ∧ m1 ≤ 8192) (h2 : 2 ≤ m2 ∧ m2 ≤ 8) (h3 : 66 ≤ m3 ∧ m3 ≤ 65536) (h4 : 1 ≤ m4 ∧ m4 ≤ 32) (h5 : m5 ≤ 512) (h6 : 1 ≤ m6 ∧ m6 ≤ 2) (r7 : b7 = (m2 : Int) + 2) (r10 : b10 = (m4 : Int) + (m5 : Int) + 32) (r12 : b12 = 2 * (m4 : Int) + 2 * (m5 : Int) + 64) (k1 : b10 ≤ (m1 : Int)) (k3 : b12 ≤ (m3 : Int)) : Concl W 20 (m1 : Int) (m2 : Int) (m3 : Int) (m4 : Int) (m5 : Int) (m6 : Int) := by
  refine top_trueg (xp_ok _ _) (xp_fns _ _) mixed (YmT _) (xp_sums _ _) (l := YL30) (by rw [nGlob]; exact YT30) (globs h) (by unfold YL30; exact List.mem_cons_self ..) (vs := [.agg #[.int .i64 20, .int .i64 (m1 : Int), .int .i64 (m2 : Int), .int .i64 (m3 : Int), .int .i64 (m4 : Int), .int .i64 (m5 : Int), .int .i64 (m6 : Int)]]) (sy 20 (m1 : Int) (m2 : Int) (m3 : Int) (m4 : Int) (m5 : Int) (m6 : Int) b7 b8 b9 b10 b11 b12 (crcG (bs 1 20 m1 m2 m3 m4 m5 m6)) (crcG (bs 2 20 m1 m2 m3 m4 m5 m6))) (ora30 hm h1 h2 h3 h4 h5 h6 r7 r10 r12 k1 k3) ?_
  exact cvs_mk (cvAgg (cvs_mk rfl (cvs_mk (rng_cv rfl (by omega)) (cvs_mk (rng_cv rfl (by omega)) (cvs_mk (rng_cv rfl (by omega)) (cvs_mk (rng_cv rfl (by omega)) (cvs_mk (rng_cv rfl (by omega)) (cvs_mk (rng_cv rfl (by omega)) rfl)))))))) rfl

theorem ora31 {W : World} {m1 m2 m3 m4 m5 m6 : Nat} {b7 b8 b9 b10 b11 b12 : Int} (hm : Made (m2 : Int) (m4 : Int) (m5 : Int) b7 b8 b9 b10 b11 b12) (h1 : 33 ≤ m1 ∧ m1 ≤ 8192) (h2 : 2 ≤ m2 ∧ m2 ≤ 8) (h3 : 66 ≤ m3 ∧ m3 ≤ 65536) (h4 : 1 ≤ m4 ∧ m4 ≤ 32) (h5 : m5 ≤ 512) (h6 : 1 ≤ m6 ∧ m6 ≤ 2) (r7 : b7 = (m2 : Int) + 2) (r10 : b10 = (m4 : Int) + (m5 : Int) + 32) (r12 : b12 = 2 * (m4 : Int) + 2 * (m5 : Int) + 64) (k1 : b10 ≤ (m1 : Int)) (k3 : b12 ≤ (m3 : Int)) : OraOk YO31 (env0 Tryz.prog.globals.size W (sy 21 (m1 : Int) (m2 : Int) (m3 : Int) (m4 : Int) (m5 : Int) (m6 : Int) b7 b8 b9 b10 b11 b12 (crcG (bs 1 21 m1 m2 m3 m4 m5 m6)) (crcG (bs 2 21 m1 m2 m3 m4 m5 m6)))).sy := by
  unfold YO31
  refine base6 hm ?_
  refine ora_cons .i64 (21) .i64 b7 (.bool false) rfl rfl (lss_f (by omega)) (fun _ _ => rfl) ?_
  refine ora_cons .i64 (21) .i64 b7 (.bool true) rfl rfl (geq_t (by omega)) (fun _ _ => rfl) ?_
  refine ora_cons .i64 m1 .i64 b10 (.bool false) rfl rfl (lss_f (by omega)) (fun _ _ => rfl) ?_
  refine ora_cons .i64 m1 .i64 b10 (.bool true) rfl rfl (geq_t (by omega)) (fun _ _ => rfl) ?_
  refine ora_cons .i64 m3 .i64 b12 (.bool false) rfl rfl (lss_f (by omega)) (fun _ _ => rfl) ?_
  refine ora_cons .i64 m3 .i64 b12 (.bool true) rfl rfl (geq_t (by omega)) (fun _ _ => rfl) ?_
  refine ora_cons .i64 (21) .i64 b7 (.bool false) rfl rfl (lss_f (by omega)) (fun _ _ => rfl) ?_
  refine ora_sum (bs 1 21 m1 m2 m3 m4 m5 m6) (cs_cv (r := 8) h1 h2 h3 h4 h5 h6) rfl (bs_lt (by decide) (by decide) m1 m2 m3 m4 m5 m6) (crcG_lt _ (bs_lt (by decide) (by decide) m1 m2 m3 m4 m5 m6)) ?_
  refine ora_sum (bs 2 21 m1 m2 m3 m4 m5 m6) (cs_cv (r := 8) h1 h2 h3 h4 h5 h6) rfl (bs_lt (by decide) (by decide) m1 m2 m3 m4 m5 m6) (crcG_lt _ (bs_lt (by decide) (by decide) m1 m2 m3 m4 m5 m6)) ?_
  refine ora_cons .i64 (21) .i64 b7 (.bool true) rfl rfl (geq_t (by omega)) (fun _ _ => rfl) ?_
  exact ora_nil _

theorem case31 {W : World} (h : laidMetH Tryz.prog laidL W) {m1 m2 m3 m4 m5 m6 : Nat} {b7 b8 b9 b10 b11 b12 : Int} (hm : Made (m2 : Int) (m4 : Int) (m5 : Int) b7 b8 b9 b10 b11 b12) (h1 : 33 ≤ m1 ∧ m1 ≤ 8192) (h2 : 2 ≤ m2 ∧ m2 ≤ 8) (h3 : 66 ≤ m3 ∧ m3 ≤ 65536) (h4 : 1 ≤ m4 ∧ m4 ≤ 32) (h5 : m5 ≤ 512) (h6 : 1 ≤ m6 ∧ m6 ≤ 2) (r7 : b7 = (m2 : Int) + 2) (r10 : b10 = (m4 : Int) + (m5 : Int) + 32) (r12 : b12 = 2 * (m4 : Int) + 2 * (m5 : Int) + 64) (k1 : b10 ≤ (m1 : Int)) (k3 : b12 ≤ (m3 : Int)) : Concl W 21 (m1 : Int) (m2 : Int) (m3 : Int) (m4 : Int) (m5 : Int) (m6 : Int) := by
  refine top_trueg (xp_ok _ _) (xp_fns _ _) mixed (YmT _) (xp_sums _ _) (l := YL31) (by rw [nGlob]; exact YT31) (globs h) (by unfold YL31; exact List.mem_cons_self ..) (vs := [.agg #[.int .i64 21, .int .i64 (m1 : Int), .int .i64 (m2 : Int), .int .i64 (m3 : Int), .int .i64 (m4 : Int), .int .i64 (m5 : Int), .int .i64 (m6 : Int)]]) (sy 21 (m1 : Int) (m2 : Int) (m3 : Int) (m4 : Int) (m5 : Int) (m6 : Int) b7 b8 b9 b10 b11 b12 (crcG (bs 1 21 m1 m2 m3 m4 m5 m6)) (crcG (bs 2 21 m1 m2 m3 m4 m5 m6))) (ora31 hm h1 h2 h3 h4 h5 h6 r7 r10 r12 k1 k3) ?_
  exact cvs_mk (cvAgg (cvs_mk rfl (cvs_mk (rng_cv rfl (by omega)) (cvs_mk (rng_cv rfl (by omega)) (cvs_mk (rng_cv rfl (by omega)) (cvs_mk (rng_cv rfl (by omega)) (cvs_mk (rng_cv rfl (by omega)) (cvs_mk (rng_cv rfl (by omega)) rfl)))))))) rfl

theorem ora32 {W : World} {m1 m2 m3 m4 m5 m6 : Nat} {b7 b8 b9 b10 b11 b12 : Int} (hm : Made (m2 : Int) (m4 : Int) (m5 : Int) b7 b8 b9 b10 b11 b12) (h1 : 33 ≤ m1 ∧ m1 ≤ 8192) (h2 : 2 ≤ m2 ∧ m2 ≤ 8) (h3 : 66 ≤ m3 ∧ m3 ≤ 65536) (h4 : 1 ≤ m4 ∧ m4 ≤ 32) (h5 : m5 ≤ 512) (h6 : 1 ≤ m6 ∧ m6 ≤ 2) (r7 : b7 = (m2 : Int) + 2) (r10 : b10 = (m4 : Int) + (m5 : Int) + 32) (r12 : b12 = 2 * (m4 : Int) + 2 * (m5 : Int) + 64) (k1 : b10 ≤ (m1 : Int)) (k3 : b12 ≤ (m3 : Int)) : OraOk YO32 (env0 Tryz.prog.globals.size W (sy 22 (m1 : Int) (m2 : Int) (m3 : Int) (m4 : Int) (m5 : Int) (m6 : Int) b7 b8 b9 b10 b11 b12 (crcG (bs 1 22 m1 m2 m3 m4 m5 m6)) (crcG (bs 2 22 m1 m2 m3 m4 m5 m6)))).sy := by
  unfold YO32
  refine base6 hm ?_
  refine ora_cons .i64 (22) .i64 b7 (.bool false) rfl rfl (lss_f (by omega)) (fun _ _ => rfl) ?_
  refine ora_cons .i64 (22) .i64 b7 (.bool true) rfl rfl (geq_t (by omega)) (fun _ _ => rfl) ?_
  refine ora_cons .i64 m1 .i64 b10 (.bool false) rfl rfl (lss_f (by omega)) (fun _ _ => rfl) ?_
  refine ora_cons .i64 m1 .i64 b10 (.bool true) rfl rfl (geq_t (by omega)) (fun _ _ => rfl) ?_
  refine ora_cons .i64 m3 .i64 b12 (.bool false) rfl rfl (lss_f (by omega)) (fun _ _ => rfl) ?_
  refine ora_cons .i64 m3 .i64 b12 (.bool true) rfl rfl (geq_t (by omega)) (fun _ _ => rfl) ?_
  refine ora_cons .i64 (22) .i64 b7 (.bool false) rfl rfl (lss_f (by omega)) (fun _ _ => rfl) ?_
  refine ora_sum (bs 1 22 m1 m2 m3 m4 m5 m6) (cs_cv (r := 8) h1 h2 h3 h4 h5 h6) rfl (bs_lt (by decide) (by decide) m1 m2 m3 m4 m5 m6) (crcG_lt _ (bs_lt (by decide) (by decide) m1 m2 m3 m4 m5 m6)) ?_
  refine ora_sum (bs 2 22 m1 m2 m3 m4 m5 m6) (cs_cv (r := 8) h1 h2 h3 h4 h5 h6) rfl (bs_lt (by decide) (by decide) m1 m2 m3 m4 m5 m6) (crcG_lt _ (bs_lt (by decide) (by decide) m1 m2 m3 m4 m5 m6)) ?_
  refine ora_cons .i64 (22) .i64 b7 (.bool true) rfl rfl (geq_t (by omega)) (fun _ _ => rfl) ?_
  exact ora_nil _

theorem case32 {W : World} (h : laidMetH Tryz.prog laidL W) {m1 m2 m3 m4 m5 m6 : Nat} {b7 b8 b9 b10 b11 b12 : Int} (hm : Made (m2 : Int) (m4 : Int) (m5 : Int) b7 b8 b9 b10 b11 b12) (h1 : 33 ≤ m1 ∧ m1 ≤ 8192) (h2 : 2 ≤ m2 ∧ m2 ≤ 8) (h3 : 66 ≤ m3 ∧ m3 ≤ 65536) (h4 : 1 ≤ m4 ∧ m4 ≤ 32) (h5 : m5 ≤ 512) (h6 : 1 ≤ m6 ∧ m6 ≤ 2) (r7 : b7 = (m2 : Int) + 2) (r10 : b10 = (m4 : Int) + (m5 : Int) + 32) (r12 : b12 = 2 * (m4 : Int) + 2 * (m5 : Int) + 64) (k1 : b10 ≤ (m1 : Int)) (k3 : b12 ≤ (m3 : Int)) : Concl W 22 (m1 : Int) (m2 : Int) (m3 : Int) (m4 : Int) (m5 : Int) (m6 : Int) := by
  refine top_trueg (xp_ok _ _) (xp_fns _ _) mixed (YmT _) (xp_sums _ _) (l := YL32) (by rw [nGlob]; exact YT32) (globs h) (by unfold YL32; exact List.mem_cons_self ..) (vs := [.agg #[.int .i64 22, .int .i64 (m1 : Int), .int .i64 (m2 : Int), .int .i64 (m3 : Int), .int .i64 (m4 : Int), .int .i64 (m5 : Int), .int .i64 (m6 : Int)]]) (sy 22 (m1 : Int) (m2 : Int) (m3 : Int) (m4 : Int) (m5 : Int) (m6 : Int) b7 b8 b9 b10 b11 b12 (crcG (bs 1 22 m1 m2 m3 m4 m5 m6)) (crcG (bs 2 22 m1 m2 m3 m4 m5 m6))) (ora32 hm h1 h2 h3 h4 h5 h6 r7 r10 r12 k1 k3) ?_
  exact cvs_mk (cvAgg (cvs_mk rfl (cvs_mk (rng_cv rfl (by omega)) (cvs_mk (rng_cv rfl (by omega)) (cvs_mk (rng_cv rfl (by omega)) (cvs_mk (rng_cv rfl (by omega)) (cvs_mk (rng_cv rfl (by omega)) (cvs_mk (rng_cv rfl (by omega)) rfl)))))))) rfl

theorem ora33 {W : World} {m1 m2 m3 m4 m5 m6 : Nat} {b7 b8 b9 b10 b11 b12 : Int} (hm : Made (m2 : Int) (m4 : Int) (m5 : Int) b7 b8 b9 b10 b11 b12) (h1 : 33 ≤ m1 ∧ m1 ≤ 8192) (h2 : 2 ≤ m2 ∧ m2 ≤ 8) (h3 : 66 ≤ m3 ∧ m3 ≤ 65536) (h4 : 1 ≤ m4 ∧ m4 ≤ 32) (h5 : m5 ≤ 512) (h6 : 1 ≤ m6 ∧ m6 ≤ 2) (r7 : b7 = (m2 : Int) + 2) (r10 : b10 = (m4 : Int) + (m5 : Int) + 32) (r12 : b12 = 2 * (m4 : Int) + 2 * (m5 : Int) + 64) (k1 : b10 ≤ (m1 : Int)) (k3 : b12 ≤ (m3 : Int)) : OraOk YO33 (env0 Tryz.prog.globals.size W (sy 23 (m1 : Int) (m2 : Int) (m3 : Int) (m4 : Int) (m5 : Int) (m6 : Int) b7 b8 b9 b10 b11 b12 (crcG (bs 1 23 m1 m2 m3 m4 m5 m6)) (crcG (bs 2 23 m1 m2 m3 m4 m5 m6)))).sy := by
  unfold YO33
  refine base6 hm ?_
  refine ora_cons .i64 (23) .i64 b7 (.bool false) rfl rfl (lss_f (by omega)) (fun _ _ => rfl) ?_
  refine ora_cons .i64 (23) .i64 b7 (.bool true) rfl rfl (geq_t (by omega)) (fun _ _ => rfl) ?_
  refine ora_cons .i64 m1 .i64 b10 (.bool false) rfl rfl (lss_f (by omega)) (fun _ _ => rfl) ?_
  refine ora_cons .i64 m1 .i64 b10 (.bool true) rfl rfl (geq_t (by omega)) (fun _ _ => rfl) ?_
  refine ora_cons .i64 m3 .i64 b12 (.bool false) rfl rfl (lss_f (by omega)) (fun _ _ => rfl) ?_
  refine ora_cons .i64 m3 .i64 b12 (.bool true) rfl rfl (geq_t (by omega)) (fun _ _ => rfl) ?_
  refine ora_cons .i64 (23) .i64 b7 (.bool false) rfl rfl (lss_f (by omega)) (fun _ _ => rfl) ?_
  refine ora_sum (bs 1 23 m1 m2 m3 m4 m5 m6) (cs_cv (r := 8) h1 h2 h3 h4 h5 h6) rfl (bs_lt (by decide) (by decide) m1 m2 m3 m4 m5 m6) (crcG_lt _ (bs_lt (by decide) (by decide) m1 m2 m3 m4 m5 m6)) ?_
  refine ora_sum (bs 2 23 m1 m2 m3 m4 m5 m6) (cs_cv (r := 8) h1 h2 h3 h4 h5 h6) rfl (bs_lt (by decide) (by decide) m1 m2 m3 m4 m5 m6) (crcG_lt _ (bs_lt (by decide) (by decide) m1 m2 m3 m4 m5 m6)) ?_
  refine ora_cons .i64 (23) .i64 b7 (.bool true) rfl rfl (geq_t (by omega)) (fun _ _ => rfl) ?_
  exact ora_nil _

theorem case33 {W : World} (h : laidMetH Tryz.prog laidL W) {m1 m2 m3 m4 m5 m6 : Nat} {b7 b8 b9 b10 b11 b12 : Int} (hm : Made (m2 : Int) (m4 : Int) (m5 : Int) b7 b8 b9 b10 b11 b12) (h1 : 33 ≤ m1 ∧ m1 ≤ 8192) (h2 : 2 ≤ m2 ∧ m2 ≤ 8) (h3 : 66 ≤ m3 ∧ m3 ≤ 65536) (h4 : 1 ≤ m4 ∧ m4 ≤ 32) (h5 : m5 ≤ 512) (h6 : 1 ≤ m6 ∧ m6 ≤ 2) (r7 : b7 = (m2 : Int) + 2) (r10 : b10 = (m4 : Int) + (m5 : Int) + 32) (r12 : b12 = 2 * (m4 : Int) + 2 * (m5 : Int) + 64) (k1 : b10 ≤ (m1 : Int)) (k3 : b12 ≤ (m3 : Int)) : Concl W 23 (m1 : Int) (m2 : Int) (m3 : Int) (m4 : Int) (m5 : Int) (m6 : Int) := by
  refine top_trueg (xp_ok _ _) (xp_fns _ _) mixed (YmT _) (xp_sums _ _) (l := YL33) (by rw [nGlob]; exact YT33) (globs h) (by unfold YL33; exact List.mem_cons_self ..) (vs := [.agg #[.int .i64 23, .int .i64 (m1 : Int), .int .i64 (m2 : Int), .int .i64 (m3 : Int), .int .i64 (m4 : Int), .int .i64 (m5 : Int), .int .i64 (m6 : Int)]]) (sy 23 (m1 : Int) (m2 : Int) (m3 : Int) (m4 : Int) (m5 : Int) (m6 : Int) b7 b8 b9 b10 b11 b12 (crcG (bs 1 23 m1 m2 m3 m4 m5 m6)) (crcG (bs 2 23 m1 m2 m3 m4 m5 m6))) (ora33 hm h1 h2 h3 h4 h5 h6 r7 r10 r12 k1 k3) ?_
  exact cvs_mk (cvAgg (cvs_mk rfl (cvs_mk (rng_cv rfl (by omega)) (cvs_mk (rng_cv rfl (by omega)) (cvs_mk (rng_cv rfl (by omega)) (cvs_mk (rng_cv rfl (by omega)) (cvs_mk (rng_cv rfl (by omega)) (cvs_mk (rng_cv rfl (by omega)) rfl)))))))) rfl

theorem ora34 {W : World} {m1 m2 m3 m4 m5 m6 : Nat} {b7 b8 b9 b10 b11 b12 : Int} (hm : Made (m2 : Int) (m4 : Int) (m5 : Int) b7 b8 b9 b10 b11 b12) (h1 : 33 ≤ m1 ∧ m1 ≤ 8192) (h2 : 2 ≤ m2 ∧ m2 ≤ 8) (h3 : 66 ≤ m3 ∧ m3 ≤ 65536) (h4 : 1 ≤ m4 ∧ m4 ≤ 32) (h5 : m5 ≤ 512) (h6 : 1 ≤ m6 ∧ m6 ≤ 2) (r7 : b7 = (m2 : Int) + 2) (r10 : b10 = (m4 : Int) + (m5 : Int) + 32) (r12 : b12 = 2 * (m4 : Int) + 2 * (m5 : Int) + 64) (k1 : b10 ≤ (m1 : Int)) (k3 : b12 ≤ (m3 : Int)) : OraOk YO34 (env0 Tryz.prog.globals.size W (sy 24 (m1 : Int) (m2 : Int) (m3 : Int) (m4 : Int) (m5 : Int) (m6 : Int) b7 b8 b9 b10 b11 b12 (crcG (bs 1 24 m1 m2 m3 m4 m5 m6)) (crcG (bs 2 24 m1 m2 m3 m4 m5 m6)))).sy := by
  unfold YO34 YB36
  rw [List.append_nil]
  refine base6 hm ?_
  refine ora_cons .i64 (24) .i64 b7 (.bool false) rfl rfl (lss_f (by omega)) (fun _ _ => rfl) ?_
  refine ora_cons .i64 (24) .i64 b7 (.bool true) rfl rfl (geq_t (by omega)) (fun _ _ => rfl) ?_
  refine ora_cons .i64 m1 .i64 b10 (.bool false) rfl rfl (lss_f (by omega)) (fun _ _ => rfl) ?_
  refine ora_cons .i64 m1 .i64 b10 (.bool true) rfl rfl (geq_t (by omega)) (fun _ _ => rfl) ?_
  refine ora_cons .i64 m3 .i64 b12 (.bool false) rfl rfl (lss_f (by omega)) (fun _ _ => rfl) ?_
  refine ora_cons .i64 m3 .i64 b12 (.bool true) rfl rfl (geq_t (by omega)) (fun _ _ => rfl) ?_
  refine ora_cons .i64 (24) .i64 b7 (.bool false) rfl rfl (lss_f (by omega)) (fun _ _ => rfl) ?_
  refine ora_sum (bs 1 24 m1 m2 m3 m4 m5 m6) (cs_cv (r := 8) h1 h2 h3 h4 h5 h6) rfl (bs_lt (by decide) (by decide) m1 m2 m3 m4 m5 m6) (crcG_lt _ (bs_lt (by decide) (by decide) m1 m2 m3 m4 m5 m6)) ?_
  refine ora_sum (bs 2 24 m1 m2 m3 m4 m5 m6) (cs_cv (r := 8) h1 h2 h3 h4 h5 h6) rfl (bs_lt (by decide) (by decide) m1 m2 m3 m4 m5 m6) (crcG_lt _ (bs_lt (by decide) (by decide) m1 m2 m3 m4 m5 m6)) ?_
  refine ora_cons .i64 (24) .i64 b7 (.bool true) rfl rfl (geq_t (by omega)) (fun _ _ => rfl) ?_
  exact ora_nil _

theorem case34 {W : World} (h : laidMetH Tryz.prog laidL W) {m1 m2 m3 m4 m5 m6 : Nat} {b7 b8 b9 b10 b11 b12 : Int} (hm : Made (m2 : Int) (m4 : Int) (m5 : Int) b7 b8 b9 b10 b11 b12) (h1 : 33 ≤ m1 ∧ m1 ≤ 8192) (h2 : 2 ≤ m2 ∧ m2 ≤ 8) (h3 : 66 ≤ m3 ∧ m3 ≤ 65536) (h4 : 1 ≤ m4 ∧ m4 ≤ 32) (h5 : m5 ≤ 512) (h6 : 1 ≤ m6 ∧ m6 ≤ 2) (r7 : b7 = (m2 : Int) + 2) (r10 : b10 = (m4 : Int) + (m5 : Int) + 32) (r12 : b12 = 2 * (m4 : Int) + 2 * (m5 : Int) + 64) (k1 : b10 ≤ (m1 : Int)) (k3 : b12 ≤ (m3 : Int)) : Concl W 24 (m1 : Int) (m2 : Int) (m3 : Int) (m4 : Int) (m5 : Int) (m6 : Int) := by
  refine top_trueg (xp_ok _ _) (xp_fns _ _) mixed (YmT36 []) (xp_sums _ _) (l := YL34) (by rw [nGlob]; exact YT34) (globs h) (by unfold YL34; exact List.mem_cons_self ..) (vs := [.agg #[.int .i64 24, .int .i64 (m1 : Int), .int .i64 (m2 : Int), .int .i64 (m3 : Int), .int .i64 (m4 : Int), .int .i64 (m5 : Int), .int .i64 (m6 : Int)]]) (sy 24 (m1 : Int) (m2 : Int) (m3 : Int) (m4 : Int) (m5 : Int) (m6 : Int) b7 b8 b9 b10 b11 b12 (crcG (bs 1 24 m1 m2 m3 m4 m5 m6)) (crcG (bs 2 24 m1 m2 m3 m4 m5 m6))) (ora34 hm h1 h2 h3 h4 h5 h6 r7 r10 r12 k1 k3) ?_
  exact cvs_mk (cvAgg (cvs_mk rfl (cvs_mk (rng_cv rfl (by omega)) (cvs_mk (rng_cv rfl (by omega)) (cvs_mk (rng_cv rfl (by omega)) (cvs_mk (rng_cv rfl (by omega)) (cvs_mk (rng_cv rfl (by omega)) (cvs_mk (rng_cv rfl (by omega)) rfl)))))))) rfl

theorem ora35 {W : World} {m1 m2 m3 m4 m5 m6 : Nat} {b7 b8 b9 b10 b11 b12 : Int} (hm : Made (m2 : Int) (m4 : Int) (m5 : Int) b7 b8 b9 b10 b11 b12) (h1 : 33 ≤ m1 ∧ m1 ≤ 8192) (h2 : 2 ≤ m2 ∧ m2 ≤ 8) (h3 : 66 ≤ m3 ∧ m3 ≤ 65536) (h4 : 1 ≤ m4 ∧ m4 ≤ 32) (h5 : m5 ≤ 512) (h6 : 1 ≤ m6 ∧ m6 ≤ 2) (r7 : b7 = (m2 : Int) + 2) (r10 : b10 = (m4 : Int) + (m5 : Int) + 32) (r12 : b12 = 2 * (m4 : Int) + 2 * (m5 : Int) + 64) (k1 : b10 ≤ (m1 : Int)) (k3 : b12 ≤ (m3 : Int)) : OraOk YO35 (env0 Tryz.prog.globals.size W (sy 25 (m1 : Int) (m2 : Int) (m3 : Int) (m4 : Int) (m5 : Int) (m6 : Int) b7 b8 b9 b10 b11 b12 (crcG (bs 1 25 m1 m2 m3 m4 m5 m6)) (crcG (bs 2 25 m1 m2 m3 m4 m5 m6)))).sy := by
  unfold YO35 YB37
  rw [List.append_nil]
  refine base6 hm ?_
  refine ora_cons .i64 (25) .i64 b7 (.bool false) rfl rfl (lss_f (by omega)) (fun _ _ => rfl) ?_
  refine ora_cons .i64 (25) .i64 b7 (.bool true) rfl rfl (geq_t (by omega)) (fun _ _ => rfl) ?_
  refine ora_cons .i64 m1 .i64 b10 (.bool false) rfl rfl (lss_f (by omega)) (fun _ _ => rfl) ?_
  refine ora_cons .i64 m1 .i64 b10 (.bool true) rfl rfl (geq_t (by omega)) (fun _ _ => rfl) ?_
  refine ora_cons .i64 m3 .i64 b12 (.bool false) rfl rfl (lss_f (by omega)) (fun _ _ => rfl) ?_
  refine ora_cons .i64 m3 .i64 b12 (.bool true) rfl rfl (geq_t (by omega)) (fun _ _ => rfl) ?_
  refine ora_cons .i64 (25) .i64 b7 (.bool false) rfl rfl (lss_f (by omega)) (fun _ _ => rfl) ?_
  refine ora_sum (bs 1 25 m1 m2 m3 m4 m5 m6) (cs_cv (r := 8) h1 h2 h3 h4 h5 h6) rfl (bs_lt (by decide) (by decide) m1 m2 m3 m4 m5 m6) (crcG_lt _ (bs_lt (by decide) (by decide) m1 m2 m3 m4 m5 m6)) ?_
  refine ora_sum (bs 2 25 m1 m2 m3 m4 m5 m6) (cs_cv (r := 8) h1 h2 h3 h4 h5 h6) rfl (bs_lt (by decide) (by decide) m1 m2 m3 m4 m5 m6) (crcG_lt _ (bs_lt (by decide) (by decide) m1 m2 m3 m4 m5 m6)) ?_
  refine ora_cons .i64 (25) .i64 b7 (.bool true) rfl rfl (geq_t (by omega)) (fun _ _ => rfl) ?_
  exact ora_nil _

theorem case35 {W : World} (h : laidMetH Tryz.prog laidL W) {m1 m2 m3 m4 m5 m6 : Nat} {b7 b8 b9 b10 b11 b12 : Int} (hm : Made (m2 : Int) (m4 : Int) (m5 : Int) b7 b8 b9 b10 b11 b12) (h1 : 33 ≤ m1 ∧ m1 ≤ 8192) (h2 : 2 ≤ m2 ∧ m2 ≤ 8) (h3 : 66 ≤ m3 ∧ m3 ≤ 65536) (h4 : 1 ≤ m4 ∧ m4 ≤ 32) (h5 : m5 ≤ 512) (h6 : 1 ≤ m6 ∧ m6 ≤ 2) (r7 : b7 = (m2 : Int) + 2) (r10 : b10 = (m4 : Int) + (m5 : Int) + 32) (r12 : b12 = 2 * (m4 : Int) + 2 * (m5 : Int) + 64) (k1 : b10 ≤ (m1 : Int)) (k3 : b12 ≤ (m3 : Int)) : Concl W 25 (m1 : Int) (m2 : Int) (m3 : Int) (m4 : Int) (m5 : Int) (m6 : Int) := by
  refine top_trueg (xp_ok _ _) (xp_fns _ _) mixed (YmT37 []) (xp_sums _ _) (l := YL35) (by rw [nGlob]; exact YT35) (globs h) (by unfold YL35; exact List.mem_cons_self ..) (vs := [.agg #[.int .i64 25, .int .i64 (m1 : Int), .int .i64 (m2 : Int), .int .i64 (m3 : Int), .int .i64 (m4 : Int), .int .i64 (m5 : Int), .int .i64 (m6 : Int)]]) (sy 25 (m1 : Int) (m2 : Int) (m3 : Int) (m4 : Int) (m5 : Int) (m6 : Int) b7 b8 b9 b10 b11 b12 (crcG (bs 1 25 m1 m2 m3 m4 m5 m6)) (crcG (bs 2 25 m1 m2 m3 m4 m5 m6))) (ora35 hm h1 h2 h3 h4 h5 h6 r7 r10 r12 k1 k3) ?_
  exact cvs_mk (cvAgg (cvs_mk rfl (cvs_mk (rng_cv rfl (by omega)) (cvs_mk (rng_cv rfl (by omega)) (cvs_mk (rng_cv rfl (by omega)) (cvs_mk (rng_cv rfl (by omega)) (cvs_mk (rng_cv rfl (by omega)) (cvs_mk (rng_cv rfl (by omega)) rfl)))))))) rfl

theorem ora36 {W : World} {m1 m2 m3 m4 m5 m6 : Nat} {b7 b8 b9 b10 b11 b12 : Int} (hm : Made (m2 : Int) (m4 : Int) (m5 : Int) b7 b8 b9 b10 b11 b12) (h1 : 33 ≤ m1 ∧ m1 ≤ 8192) (h2 : 2 ≤ m2 ∧ m2 ≤ 8) (h3 : 66 ≤ m3 ∧ m3 ≤ 65536) (h4 : 1 ≤ m4 ∧ m4 ≤ 32) (h5 : m5 ≤ 512) (h6 : 1 ≤ m6 ∧ m6 ≤ 2) (r7 : b7 = (m2 : Int) + 2) (r10 : b10 = (m4 : Int) + (m5 : Int) + 32) (r12 : b12 = 2 * (m4 : Int) + 2 * (m5 : Int) + 64) (k1 : b10 ≤ (m1 : Int)) (k3 : b12 ≤ (m3 : Int)) : OraOk YO36 (env0 Tryz.prog.globals.size W (sy 26 (m1 : Int) (m2 : Int) (m3 : Int) (m4 : Int) (m5 : Int) (m6 : Int) b7 b8 b9 b10 b11 b12 (crcG (bs 1 26 m1 m2 m3 m4 m5 m6)) (crcG (bs 2 26 m1 m2 m3 m4 m5 m6)))).sy := by
  unfold YO36 YB38
  rw [List.append_nil]
  refine base6 hm ?_
  refine ora_cons .i64 (26) .i64 b7 (.bool false) rfl rfl (lss_f (by omega)) (fun _ _ => rfl) ?_
  refine ora_cons .i64 (26) .i64 b7 (.bool true) rfl rfl (geq_t (by omega)) (fun _ _ => rfl) ?_
  refine ora_cons .i64 m1 .i64 b10 (.bool false) rfl rfl (lss_f (by omega)) (fun _ _ => rfl) ?_
  refine ora_cons .i64 m1 .i64 b10 (.bool true) rfl rfl (geq_t (by omega)) (fun _ _ => rfl) ?_
  refine ora_cons .i64 m3 .i64 b12 (.bool false) rfl rfl (lss_f (by omega)) (fun _ _ => rfl) ?_
  refine ora_cons .i64 m3 .i64 b12 (.bool true) rfl rfl (geq_t (by omega)) (fun _ _ => rfl) ?_
  refine ora_cons .i64 (26) .i64 b7 (.bool false) rfl rfl (lss_f (by omega)) (fun _ _ => rfl) ?_
  refine ora_sum (bs 1 26 m1 m2 m3 m4 m5 m6) (cs_cv (r := 8) h1 h2 h3 h4 h5 h6) rfl (bs_lt (by decide) (by decide) m1 m2 m3 m4 m5 m6) (crcG_lt _ (bs_lt (by decide) (by decide) m1 m2 m3 m4 m5 m6)) ?_
  refine ora_sum (bs 2 26 m1 m2 m3 m4 m5 m6) (cs_cv (r := 8) h1 h2 h3 h4 h5 h6) rfl (bs_lt (by decide) (by decide) m1 m2 m3 m4 m5 m6) (crcG_lt _ (bs_lt (by decide) (by decide) m1 m2 m3 m4 m5 m6)) ?_
  refine ora_cons .i64 (26) .i64 b7 (.bool true) rfl rfl (geq_t (by omega)) (fun _ _ => rfl) ?_
  exact ora_nil _

theorem case36 {W : World} (h : laidMetH Tryz.prog laidL W) {m1 m2 m3 m4 m5 m6 : Nat} {b7 b8 b9 b10 b11 b12 : Int} (hm : Made (m2 : Int) (m4 : Int) (m5 : Int) b7 b8 b9 b10 b11 b12) (h1 : 33 ≤ m1 ∧ m1 ≤ 8192) (h2 : 2 ≤ m2 ∧ m2 ≤ 8) (h3 : 66 ≤ m3 ∧ m3 ≤ 65536) (h4 : 1 ≤ m4 ∧ m4 ≤ 32) (h5 : m5 ≤ 512) (h6 : 1 ≤ m6 ∧ m6 ≤ 2) (r7 : b7 = (m2 : Int) + 2) (r10 : b10 = (m4 : Int) + (m5 : Int) + 32) (r12 : b12 = 2 * (m4 : Int) + 2 * (m5 : Int) + 64) (k1 : b10 ≤ (m1 : Int)) (k3 : b12 ≤ (m3 : Int)) : Concl W 26 (m1 : Int) (m2 : Int) (m3 : Int) (m4 : Int) (m5 : Int) (m6 : Int) := by
  refine top_trueg (xp_ok _ _) (xp_fns _ _) mixed (YmT38 []) (xp_sums _ _) (l := YL36) (by rw [nGlob]; exact YT36) (globs h) (by unfold YL36; exact List.mem_cons_self ..) (vs := [.agg #[.int .i64 26, .int .i64 (m1 : Int), .int .i64 (m2 : Int), .int .i64 (m3 : Int), .int .i64 (m4 : Int), .int .i64 (m5 : Int), .int .i64 (m6 : Int)]]) (sy 26 (m1 : Int) (m2 : Int) (m3 : Int) (m4 : Int) (m5 : Int) (m6 : Int) b7 b8 b9 b10 b11 b12 (crcG (bs 1 26 m1 m2 m3 m4 m5 m6)) (crcG (bs 2 26 m1 m2 m3 m4 m5 m6))) (ora36 hm h1 h2 h3 h4 h5 h6 r7 r10 r12 k1 k3) ?_
  exact cvs_mk (cvAgg (cvs_mk rfl (cvs_mk (rng_cv rfl (by omega)) (cvs_mk (rng_cv rfl (by omega)) (cvs_mk (rng_cv rfl (by omega)) (cvs_mk (rng_cv rfl (by omega)) (cvs_mk (rng_cv rfl (by omega)) (cvs_mk (rng_cv rfl (by omega)) rfl)))))))) rfl

theorem ora37 {W : World} {m1 m2 m3 m4 m5 m6 : Nat} {b7 b8 b9 b10 b11 b12 : Int} (hm : Made (m2 : Int) (m4 : Int) (m5 : Int) b7 b8 b9 b10 b11 b12) (h1 : 33 ≤ m1 ∧ m1 ≤ 8192) (h2 : 2 ≤ m2 ∧ m2 ≤ 8) (h3 : 66 ≤ m3 ∧ m3 ≤ 65536) (h4 : 1 ≤ m4 ∧ m4 ≤ 32) (h5 : m5 ≤ 512) (h6 : 1 ≤ m6 ∧ m6 ≤ 2) (r7 : b7 = (m2 : Int) + 2) (r10 : b10 = (m4 : Int) + (m5 : Int) + 32) (r12 : b12 = 2 * (m4 : Int) + 2 * (m5 : Int) + 64) (k1 : b10 ≤ (m1 : Int)) (k3 : b12 ≤ (m3 : Int)) : OraOk YO37 (env0 Tryz.prog.globals.size W (sy 27 (m1 : Int) (m2 : Int) (m3 : Int) (m4 : Int) (m5 : Int) (m6 : Int) b7 b8 b9 b10 b11 b12 (crcG (bs 1 27 m1 m2 m3 m4 m5 m6)) (crcG (bs 2 27 m1 m2 m3 m4 m5 m6)))).sy := by
  unfold YO37 YB39
  rw [List.append_nil]
  refine base6 hm ?_
  refine ora_cons .i64 (27) .i64 b7 (.bool false) rfl rfl (lss_f (by omega)) (fun _ _ => rfl) ?_
  refine ora_cons .i64 (27) .i64 b7 (.bool true) rfl rfl (geq_t (by omega)) (fun _ _ => rfl) ?_
  refine ora_cons .i64 m1 .i64 b10 (.bool false) rfl rfl (lss_f (by omega)) (fun _ _ => rfl) ?_
  refine ora_cons .i64 m1 .i64 b10 (.bool true) rfl rfl (geq_t (by omega)) (fun _ _ => rfl) ?_
  refine ora_cons .i64 m3 .i64 b12 (.bool false) rfl rfl (lss_f (by omega)) (fun _ _ => rfl) ?_
  refine ora_cons .i64 m3 .i64 b12 (.bool true) rfl rfl (geq_t (by omega)) (fun _ _ => rfl) ?_
  refine ora_cons .i64 (27) .i64 b7 (.bool false) rfl rfl (lss_f (by omega)) (fun _ _ => rfl) ?_
  refine ora_sum (bs 1 27 m1 m2 m3 m4 m5 m6) (cs_cv (r := 8) h1 h2 h3 h4 h5 h6) rfl (bs_lt (by decide) (by decide) m1 m2 m3 m4 m5 m6) (crcG_lt _ (bs_lt (by decide) (by decide) m1 m2 m3 m4 m5 m6)) ?_
  refine ora_sum (bs 2 27 m1 m2 m3 m4 m5 m6) (cs_cv (r := 8) h1 h2 h3 h4 h5 h6) rfl (bs_lt (by decide) (by decide) m1 m2 m3 m4 m5 m6) (crcG_lt _ (bs_lt (by decide) (by decide) m1 m2 m3 m4 m5 m6)) ?_
  refine ora_cons .i64 (27) .i64 b7 (.bool true) rfl rfl (geq_t (by omega)) (fun _ _ => rfl) ?_
  exact ora_nil _

theorem case37 {W : World} (h : laidMetH Tryz.prog laidL W) {m1 m2 m3 m4 m5 m6 : Nat} {b7 b8 b9 b10 b11 b12 : Int} (hm : Made (m2 : Int) (m4 : Int) (m5 : Int) b7 b8 b9 b10 b11 b12) (h1 : 33 ≤ m1 ∧ m1 ≤ 8192) (h2 : 2 ≤ m2 ∧ m2 ≤ 8) (h3 : 66 ≤ m3 ∧ m3 ≤ 65536) (h4 : 1 ≤ m4 ∧ m4 ≤ 32) (h5 : m5 ≤ 512) (h6 : 1 ≤ m6 ∧ m6 ≤ 2) (r7 : b7 = (m2 : Int) + 2) (r10 : b10 = (m4 : Int) + (m5 : Int) + 32) (r12 : b12 = 2 * (m4 : Int) + 2 * (m5 : Int) + 64) (k1 : b10 ≤ (m1 : Int)) (k3 : b12 ≤ (m3 : Int)) : Concl W 27 (m1 : Int) (m2 : Int) (m3 : Int) (m4 : Int) (m5 : Int) (m6 : Int) := by
  refine top_trueg (xp_ok _ _) (xp_fns _ _) mixed (YmT39 []) (xp_sums _ _) (l := YL37) (by rw [nGlob]; exact YT37) (globs h) (by unfold YL37; exact List.mem_cons_self ..) (vs := [.agg #[.int .i64 27, .int .i64 (m1 : Int), .int .i64 (m2 : Int), .int .i64 (m3 : Int), .int .i64 (m4 : Int), .int .i64 (m5 : Int), .int .i64 (m6 : Int)]]) (sy 27 (m1 : Int) (m2 : Int) (m3 : Int) (m4 : Int) (m5 : Int) (m6 : Int) b7 b8 b9 b10 b11 b12 (crcG (bs 1 27 m1 m2 m3 m4 m5 m6)) (crcG (bs 2 27 m1 m2 m3 m4 m5 m6))) (ora37 hm h1 h2 h3 h4 h5 h6 r7 r10 r12 k1 k3) ?_
  exact cvs_mk (cvAgg (cvs_mk rfl (cvs_mk (rng_cv rfl (by omega)) (cvs_mk (rng_cv rfl (by omega)) (cvs_mk (rng_cv rfl (by omega)) (cvs_mk (rng_cv rfl (by omega)) (cvs_mk (rng_cv rfl (by omega)) (cvs_mk (rng_cv rfl (by omega)) rfl)))))))) rfl

theorem ora38 {W : World} {m1 m2 m3 m4 m5 m6 : Nat} {b7 b8 b9 b10 b11 b12 : Int} (hm : Made (m2 : Int) (m4 : Int) (m5 : Int) b7 b8 b9 b10 b11 b12) (h1 : 33 ≤ m1 ∧ m1 ≤ 8192) (h2 : 2 ≤ m2 ∧ m2 ≤ 8) (h3 : 66 ≤ m3 ∧ m3 ≤ 65536) (h4 : 1 ≤ m4 ∧ m4 ≤ 32) (h5 : m5 ≤ 512) (h6 : 1 ≤ m6 ∧ m6 ≤ 2) (r7 : b7 = (m2 : Int) + 2) (r10 : b10 = (m4 : Int) + (m5 : Int) + 32) (r12 : b12 = 2 * (m4 : Int) + 2 * (m5 : Int) + 64) (k1 : b10 ≤ (m1 : Int)) (k3 : b12 ≤ (m3 : Int)) : OraOk YO38 (env0 Tryz.prog.globals.size W (sy 28 (m1 : Int) (m2 : Int) (m3 : Int) (m4 : Int) (m5 : Int) (m6 : Int) b7 b8 b9 b10 b11 b12 (crcG (bs 1 28 m1 m2 m3 m4 m5 m6)) (crcG (bs 2 28 m1 m2 m3 m4 m5 m6)))).sy := by
  unfold YO38 YB40
  rw [List.append_nil]
  refine base6 hm ?_
  refine ora_cons .i64 (28) .i64 b7 (.bool false) rfl rfl (lss_f (by omega)) (fun _ _ => rfl) ?_
  refine ora_cons .i64 (28) .i64 b7 (.bool true) rfl rfl (geq_t (by omega)) (fun _ _ => rfl) ?_
  refine ora_cons .i64 m1 .i64 b10 (.bool false) rfl rfl (lss_f (by omega)) (fun _ _ => rfl) ?_
  refine ora_cons .i64 m1 .i64 b10 (.bool true) rfl rfl (geq_t (by omega)) (fun _ _ => rfl) ?_
  refine ora_cons .i64 m3 .i64 b12 (.bool false) rfl rfl (lss_f (by omega)) (fun _ _ => rfl) ?_
  refine ora_cons .i64 m3 .i64 b12 (.bool true) rfl rfl (geq_t (by omega)) (fun _ _ => rfl) ?_
  refine ora_cons .i64 (28) .i64 b7 (.bool false) rfl rfl (lss_f (by omega)) (fun _ _ => rfl) ?_
  refine ora_sum (bs 1 28 m1 m2 m3 m4 m5 m6) (cs_cv (r := 8) h1 h2 h3 h4 h5 h6) rfl (bs_lt (by decide) (by decide) m1 m2 m3 m4 m5 m6) (crcG_lt _ (bs_lt (by decide) (by decide) m1 m2 m3 m4 m5 m6)) ?_
  refine ora_sum (bs 2 28 m1 m2 m3 m4 m5 m6) (cs_cv (r := 8) h1 h2 h3 h4 h5 h6) rfl (bs_lt (by decide) (by decide) m1 m2 m3 m4 m5 m6) (crcG_lt _ (bs_lt (by decide) (by decide) m1 m2 m3 m4 m5 m6)) ?_
  refine ora_cons .i64 (28) .i64 b7 (.bool true) rfl rfl (geq_t (by omega)) (fun _ _ => rfl) ?_
  exact ora_nil _

theorem case38 {W : World} (h : laidMetH Tryz.prog laidL W) {m1 m2 m3 m4 m5 m6 : Nat} {b7 b8 b9 b10 b11 b12 : Int} (hm : Made (m2 : Int) (m4 : Int) (m5 : Int) b7 b8 b9 b10 b11 b12) (h1 : 33 ≤ m1 ∧ m1 ≤ 8192) (h2 : 2 ≤ m2 ∧ m2 ≤ 8) (h3 : 66 ≤ m3 ∧ m3 ≤ 65536) (h4 : 1 ≤ m4 ∧ m4 ≤ 32) (h5 : m5 ≤ 512) (h6 : 1 ≤ m6 ∧ m6 ≤ 2) (r7 : b7 = (m2 : Int) + 2) (r10 : b10 = (m4 : Int) + (m5 : Int) + 32) (r12 : b12 = 2 * (m4 : Int) + 2 * (m5 : Int) + 64) (k1 : b10 ≤ (m1 : Int)) (k3 : b12 ≤ (m3 : Int)) : Concl W 28 (m1 : Int) (m2 : Int) (m3 : Int) (m4 : Int) (m5 : Int) (m6 : Int) := by
  refine top_trueg (xp_ok _ _) (xp_fns _ _) mixed (YmT40 []) (xp_sums _ _) (l := YL38) (by rw [nGlob]; exact YT38) (globs h) (by unfold YL38; exact List.mem_cons_self ..) (vs := [.agg #[.int .i64 28, .int .i64 (m1 : Int), .int .i64 (m2 : Int), .int .i64 (m3 : Int), .int .i64 (m4 : Int), .int .i64 (m5 : Int), .int .i64 (m6 : Int)]]) (sy 28 (m1 : Int) (m2 : Int) (m3 : Int) (m4 : Int) (m5 : Int) (m6 : Int) b7 b8 b9 b10 b11 b12 (crcG (bs 1 28 m1 m2 m3 m4 m5 m6)) (crcG (bs 2 28 m1 m2 m3 m4 m5 m6))) (ora38 hm h1 h2 h3 h4 h5 h6 r7 r10 r12 k1 k3) ?_
  exact cvs_mk (cvAgg (cvs_mk rfl (cvs_mk (rng_cv rfl (by omega)) (cvs_mk (rng_cv rfl (by omega)) (cvs_mk (rng_cv rfl (by omega)) (cvs_mk (rng_cv rfl (by omega)) (cvs_mk (rng_cv rfl (by omega)) (cvs_mk (rng_cv rfl (by omega)) rfl)))))))) rfl

theorem ora39 {W : World} {m1 m2 m3 m4 m5 m6 : Nat} {b7 b8 b9 b10 b11 b12 : Int} (hm : Made (m2 : Int) (m4 : Int) (m5 : Int) b7 b8 b9 b10 b11 b12) (h1 : 33 ≤ m1 ∧ m1 ≤ 8192) (h2 : 2 ≤ m2 ∧ m2 ≤ 8) (h3 : 66 ≤ m3 ∧ m3 ≤ 65536) (h4 : 1 ≤ m4 ∧ m4 ≤ 32) (h5 : m5 ≤ 512) (h6 : 1 ≤ m6 ∧ m6 ≤ 2) (r7 : b7 = (m2 : Int) + 2) (r10 : b10 = (m4 : Int) + (m5 : Int) + 32) (r12 : b12 = 2 * (m4 : Int) + 2 * (m5 : Int) + 64) (k1 : b10 ≤ (m1 : Int)) (k3 : b12 ≤ (m3 : Int)) : OraOk YO39 (env0 Tryz.prog.globals.size W (sy 29 (m1 : Int) (m2 : Int) (m3 : Int) (m4 : Int) (m5 : Int) (m6 : Int) b7 b8 b9 b10 b11 b12 (crcG (bs 1 29 m1 m2 m3 m4 m5 m6)) (crcG (bs 2 29 m1 m2 m3 m4 m5 m6)))).sy := by
  unfold YO39 YB41
  rw [List.append_nil]
  refine base6 hm ?_
  refine ora_cons .i64 (29) .i64 b7 (.bool false) rfl rfl (lss_f (by omega)) (fun _ _ => rfl) ?_
  refine ora_cons .i64 (29) .i64 b7 (.bool true) rfl rfl (geq_t (by omega)) (fun _ _ => rfl) ?_
  refine ora_cons .i64 m1 .i64 b10 (.bool false) rfl rfl (lss_f (by omega)) (fun _ _ => rfl) ?_
  refine ora_cons .i64 m1 .i64 b10 (.bool true) rfl rfl (geq_t (by omega)) (fun _ _ => rfl) ?_
  refine ora_cons .i64 m3 .i64 b12 (.bool false) rfl rfl (lss_f (by omega)) (fun _ _ => rfl) ?_
  refine ora_cons .i64 m3 .i64 b12 (.bool true) rfl rfl (geq_t (by omega)) (fun _ _ => rfl) ?_
  refine ora_cons .i64 (29) .i64 b7 (.bool false) rfl rfl (lss_f (by omega)) (fun _ _ => rfl) ?_
  refine ora_sum (bs 1 29 m1 m2 m3 m4 m5 m6) (cs_cv (r := 8) h1 h2 h3 h4 h5 h6) rfl (bs_lt (by decide) (by decide) m1 m2 m3 m4 m5 m6) (crcG_lt _ (bs_lt (by decide) (by decide) m1 m2 m3 m4 m5 m6)) ?_
  refine ora_sum (bs 2 29 m1 m2 m3 m4 m5 m6) (cs_cv (r := 8) h1 h2 h3 h4 h5 h6) rfl (bs_lt (by decide) (by decide) m1 m2 m3 m4 m5 m6) (crcG_lt _ (bs_lt (by decide) (by decide) m1 m2 m3 m4 m5 m6)) ?_
  refine ora_cons .i64 (29) .i64 b7 (.bool true) rfl rfl (geq_t (by omega)) (fun _ _ => rfl) ?_
  exact ora_nil _

theorem case39 {W : World} (h : laidMetH Tryz.prog laidL W) {m1 m2 m3 m4 m5 m6 : Nat} {b7 b8 b9 b10 b11 b12 : Int} (hm : Made (m2 : Int) (m4 : Int) (m5 : Int) b7 b8 b9 b10 b11 b12) (h1 : 33 ≤ m1 ∧ m1 ≤ 8192) (h2 : 2 ≤ m2 ∧ m2 ≤ 8) (h3 : 66 ≤ m3 ∧ m3 ≤ 65536) (h4 : 1 ≤ m4 ∧ m4 ≤ 32) (h5 : m5 ≤ 512) (h6 : 1 ≤ m6 ∧ m6 ≤ 2) (r7 : b7 = (m2 : Int) + 2) (r10 : b10 = (m4 : Int) + (m5 : Int) + 32) (r12 : b12 = 2 * (m4 : Int) + 2 * (m5 : Int) + 64) (k1 : b10 ≤ (m1 : Int)) (k3 : b12 ≤ (m3 : Int)) : Concl W 29 (m1 : Int) (m2 : Int) (m3 : Int) (m4 : Int) (m5 : Int) (m6 : Int) := by
  refine top_trueg (xp_ok _ _) (xp_fns _ _) mixed (YmT41 []) (xp_sums _ _) (l := YL39) (by rw [nGlob]; exact YT39) (globs h) (by unfold YL39; exact List.mem_cons_self ..) (vs := [.agg #[.int .i64 29, .int .i64 (m1 : Int), .int .i64 (m2 : Int), .int .i64 (m3 : Int), .int .i64 (m4 : Int), .int .i64 (m5 : Int), .int .i64 (m6 : Int)]]) (sy 29 (m1 : Int) (m2 : Int) (m3 : Int) (m4 : Int) (m5 : Int) (m6 : Int) b7 b8 b9 b10 b11 b12 (crcG (bs 1 29 m1 m2 m3 m4 m5 m6)) (crcG (bs 2 29 m1 m2 m3 m4 m5 m6))) (ora39 hm h1 h2 h3 h4 h5 h6 r7 r10 r12 k1 k3) ?_
  exact cvs_mk (cvAgg (cvs_mk rfl (cvs_mk (rng_cv rfl (by omega)) (cvs_mk (rng_cv rfl (by omega)) (cvs_mk (rng_cv rfl (by omega)) (cvs_mk (rng_cv rfl (by omega)) (cvs_mk (rng_cv rfl (by omega)) (cvs_mk (rng_cv rfl (by omega)) rfl)))))))) rfl

theorem ora40 {W : World} {m1 m2 m3 m4 m5 m6 : Nat} {b7 b8 b9 b10 b11 b12 : Int} (hm : Made (m2 : Int) (m4 : Int) (m5 : Int) b7 b8 b9 b10 b11 b12) (h1 : 33 ≤ m1 ∧ m1 ≤ 8192) (h2 : 2 ≤ m2 ∧ m2 ≤ 8) (h3 : 66 ≤ m3 ∧ m3 ≤ 65536) (h4 : 1 ≤ m4 ∧ m4 ≤ 32) (h5 : m5 ≤ 512) (h6 : 1 ≤ m6 ∧ m6 ≤ 2) (r7 : b7 = (m2 : Int) + 2) (r10 : b10 = (m4 : Int) + (m5 : Int) + 32) (r12 : b12 = 2 * (m4 : Int) + 2 * (m5 : Int) + 64) (k1 : b10 ≤ (m1 : Int)) (k3 : b12 ≤ (m3 : Int)) : OraOk YO40 (env0 Tryz.prog.globals.size W (sy 30 (m1 : Int) (m2 : Int) (m3 : Int) (m4 : Int) (m5 : Int) (m6 : Int) b7 b8 b9 b10 b11 b12 (crcG (bs 1 30 m1 m2 m3 m4 m5 m6)) (crcG (bs 2 30 m1 m2 m3 m4 m5 m6)))).sy := by
  unfold YO40 YB42
  rw [List.append_nil]
  refine base6 hm ?_
  refine ora_cons .i64 (30) .i64 b7 (.bool false) rfl rfl (lss_f (by omega)) (fun _ _ => rfl) ?_
  refine ora_cons .i64 (30) .i64 b7 (.bool true) rfl rfl (geq_t (by omega)) (fun _ _ => rfl) ?_
  refine ora_cons .i64 m1 .i64 b10 (.bool false) rfl rfl (lss_f (by omega)) (fun _ _ => rfl) ?_
  refine ora_cons .i64 m1 .i64 b10 (.bool true) rfl rfl (geq_t (by omega)) (fun _ _ => rfl) ?_
  refine ora_cons .i64 m3 .i64 b12 (.bool false) rfl rfl (lss_f (by omega)) (fun _ _ => rfl) ?_
  refine ora_cons .i64 m3 .i64 b12 (.bool true) rfl rfl (geq_t (by omega)) (fun _ _ => rfl) ?_
  refine ora_cons .i64 (30) .i64 b7 (.bool false) rfl rfl (lss_f (by omega)) (fun _ _ => rfl) ?_
  refine ora_sum (bs 1 30 m1 m2 m3 m4 m5 m6) (cs_cv (r := 8) h1 h2 h3 h4 h5 h6) rfl (bs_lt (by decide) (by decide) m1 m2 m3 m4 m5 m6) (crcG_lt _ (bs_lt (by decide) (by decide) m1 m2 m3 m4 m5 m6)) ?_
  refine ora_sum (bs 2 30 m1 m2 m3 m4 m5 m6) (cs_cv (r := 8) h1 h2 h3 h4 h5 h6) rfl (bs_lt (by decide) (by decide) m1 m2 m3 m4 m5 m6) (crcG_lt _ (bs_lt (by decide) (by decide) m1 m2 m3 m4 m5 m6)) ?_
  refine ora_cons .i64 (30) .i64 b7 (.bool true) rfl rfl (geq_t (by omega)) (fun _ _ => rfl) ?_
  exact ora_nil _

theorem case40 {W : World} (h : laidMetH Tryz.prog laidL W) {m1 m2 m3 m4 m5 m6 : Nat} {b7 b8 b9 b10 b11 b12 : Int} (hm : Made (m2 : Int) (m4 : Int) (m5 : Int) b7 b8 b9 b10 b11 b12) (h1 : 33 ≤ m1 ∧ m1 ≤ 8192) (h2 : 2 ≤ m2 ∧ m2 ≤ 8) (h3 : 66 ≤ m3 ∧ m3 ≤ 65536) (h4 : 1 ≤ m4 ∧ m4 ≤ 32) (h5 : m5 ≤ 512) (h6 : 1 ≤ m6 ∧ m6 ≤ 2) (r7 : b7 = (m2 : Int) + 2) (r10 : b10 = (m4 : Int) + (m5 : Int) + 32) (r12 : b12 = 2 * (m4 : Int) + 2 * (m5 : Int) + 64) (k1 : b10 ≤ (m1 : Int)) (k3 : b12 ≤ (m3 : Int)) : Concl W 30 (m1 : Int) (m2 : Int) (m3 : Int) (m4 : Int) (m5 : Int) (m6 : Int) := by
  refine top_trueg (xp_ok _ _) (xp_fns _ _) mixed (YmT42 []) (xp_sums _ _) (l := YL40) (by rw [nGlob]; exact YT40) (globs h) (by unfold YL40; exact List.mem_cons_self ..) (vs := [.agg #[.int .i64 30, .int .i64 (m1 : Int), .int .i64 (m2 : Int), .int .i64 (m3 : Int), .int .i64 (m4 : Int), .int .i64 (m5 : Int), .int .i64 (m6 : Int)]]) (sy 30 (m1 : Int) (m2 : Int) (m3 : Int) (m4 : Int) (m5 : Int) (m6 : Int) b7 b8 b9 b10 b11 b12 (crcG (bs 1 30 m1 m2 m3 m4 m5 m6)) (crcG (bs 2 30 m1 m2 m3 m4 m5 m6))) (ora40 hm h1 h2 h3 h4 h5 h6 r7 r10 r12 k1 k3) ?_
  exact cvs_mk (cvAgg (cvs_mk rfl (cvs_mk (rng_cv rfl (by omega)) (cvs_mk (rng_cv rfl (by omega)) (cvs_mk (rng_cv rfl (by omega)) (cvs_mk (rng_cv rfl (by omega)) (cvs_mk (rng_cv rfl (by omega)) (cvs_mk (rng_cv rfl (by omega)) rfl)))))))) rfl

theorem ora41 {W : World} {m1 m2 m3 m4 m5 m6 : Nat} {b7 b8 b9 b10 b11 b12 : Int} (hm : Made (m2 : Int) (m4 : Int) (m5 : Int) b7 b8 b9 b10 b11 b12) (h1 : 33 ≤ m1 ∧ m1 ≤ 8192) (h2 : 2 ≤ m2 ∧ m2 ≤ 8) (h3 : 66 ≤ m3 ∧ m3 ≤ 65536) (h4 : 1 ≤ m4 ∧ m4 ≤ 32) (h5 : m5 ≤ 512) (h6 : 1 ≤ m6 ∧ m6 ≤ 2) (r7 : b7 = (m2 : Int) + 2) (r10 : b10 = (m4 : Int) + (m5 : Int) + 32) (r12 : b12 = 2 * (m4 : Int) + 2 * (m5 : Int) + 64) (k1 : b10 ≤ (m1 : Int)) (k3 : b12 ≤ (m3 : Int)) : OraOk YO41 (env0 Tryz.prog.globals.size W (sy 31 (m1 : Int) (m2 : Int) (m3 : Int) (m4 : Int) (m5 : Int) (m6 : Int) b7 b8 b9 b10 b11 b12 (crcG (bs 1 31 m1 m2 m3 m4 m5 m6)) (crcG (bs 2 31 m1 m2 m3 m4 m5 m6)))).sy := by
  unfold YO41 YB43
  rw [List.append_nil]
  refine base6 hm ?_
  refine ora_cons .i64 (31) .i64 b7 (.bool false) rfl rfl (lss_f (by omega)) (fun _ _ => rfl) ?_
  refine ora_cons .i64 (31) .i64 b7 (.bool true) rfl rfl (geq_t (by omega)) (fun _ _ => rfl) ?_
  refine ora_cons .i64 m1 .i64 b10 (.bool false) rfl rfl (lss_f (by omega)) (fun _ _ => rfl) ?_
  refine ora_cons .i64 m1 .i64 b10 (.bool true) rfl rfl (geq_t (by omega)) (fun _ _ => rfl) ?_
  refine ora_cons .i64 m3 .i64 b12 (.bool false) rfl rfl (lss_f (by omega)) (fun _ _ => rfl) ?_
  refine ora_cons .i64 m3 .i64 b12 (.bool true) rfl rfl (geq_t (by omega)) (fun _ _ => rfl) ?_
  refine ora_cons .i64 (31) .i64 b7 (.bool false) rfl rfl (lss_f (by omega)) (fun _ _ => rfl) ?_
  refine ora_sum (bs 1 31 m1 m2 m3 m4 m5 m6) (cs_cv (r := 8) h1 h2 h3 h4 h5 h6) rfl (bs_lt (by decide) (by decide) m1 m2 m3 m4 m5 m6) (crcG_lt _ (bs_lt (by decide) (by decide) m1 m2 m3 m4 m5 m6)) ?_
  refine ora_sum (bs 2 31 m1 m2 m3 m4 m5 m6) (cs_cv (r := 8) h1 h2 h3 h4 h5 h6) rfl (bs_lt (by decide) (by decide) m1 m2 m3 m4 m5 m6) (crcG_lt _ (bs_lt (by decide) (by decide) m1 m2 m3 m4 m5 m6)) ?_
  refine ora_cons .i64 (31) .i64 b7 (.bool true) rfl rfl (geq_t (by omega)) (fun _ _ => rfl) ?_
  exact ora_nil _

theorem case41 {W : World} (h : laidMetH Tryz.prog laidL W) {m1 m2 m3 m4 m5 m6 : Nat} {b7 b8 b9 b10 b11 b12 : Int} (hm : Made (m2 : Int) (m4 : Int) (m5 : Int) b7 b8 b9 b10 b11 b12) (h1 : 33 ≤ m1 ∧ m1 ≤ 8192) (h2 : 2 ≤ m2 ∧ m2 ≤ 8) (h3 : 66 ≤ m3 ∧ m3 ≤ 65536) (h4 : 1 ≤ m4 ∧ m4 ≤ 32) (h5 : m5 ≤ 512) (h6 : 1 ≤ m6 ∧ m6 ≤ 2) (r7 : b7 = (m2 : Int) + 2) (r10 : b10 = (m4 : Int) + (m5 : Int) + 32) (r12 : b12 = 2 * (m4 : Int) + 2 * (m5 : Int) + 64) (k1 : b10 ≤ (m1 : Int)) (k3 : b12 ≤ (m3 : Int)) : Concl W 31 (m1 : Int) (m2 : Int) (m3 : Int) (m4 : Int) (m5 : Int) (m6 : Int) := by
  refine top_trueg (xp_ok _ _) (xp_fns _ _) mixed (YmT43 []) (xp_sums _ _) (l := YL41) (by rw [nGlob]; exact YT41) (globs h) (by unfold YL41; exact List.mem_cons_self ..) (vs := [.agg #[.int .i64 31, .int .i64 (m1 : Int), .int .i64 (m2 : Int), .int .i64 (m3 : Int), .int .i64 (m4 : Int), .int .i64 (m5 : Int), .int .i64 (m6 : Int)]]) (sy 31 (m1 : Int) (m2 : Int) (m3 : Int) (m4 : Int) (m5 : Int) (m6 : Int) b7 b8 b9 b10 b11 b12 (crcG (bs 1 31 m1 m2 m3 m4 m5 m6)) (crcG (bs 2 31 m1 m2 m3 m4 m5 m6))) (ora41 hm h1 h2 h3 h4 h5 h6 r7 r10 r12 k1 k3) ?_
  exact cvs_mk (cvAgg (cvs_mk rfl (cvs_mk (rng_cv rfl (by omega)) (cvs_mk (rng_cv rfl (by omega)) (cvs_mk (rng_cv rfl (by omega)) (cvs_mk (rng_cv rfl (by omega)) (cvs_mk (rng_cv rfl (by omega)) (cvs_mk (rng_cv rfl (by omega)) rfl)))))))) rfl

theorem ora42 {W : World} {m1 m2 m3 m4 m5 m6 : Nat} {b7 b8 b9 b10 b11 b12 : Int} (hm : Made (m2 : Int) (m4 : Int) (m5 : Int) b7 b8 b9 b10 b11 b12) (h1 : 33 ≤ m1 ∧ m1 ≤ 8192) (h2 : 2 ≤ m2 ∧ m2 ≤ 8) (h3 : 66 ≤ m3 ∧ m3 ≤ 65536) (h4 : 1 ≤ m4 ∧ m4 ≤ 32) (h5 : m5 ≤ 512) (h6 : 1 ≤ m6 ∧ m6 ≤ 2) (r7 : b7 = (m2 : Int) + 2) (r10 : b10 = (m4 : Int) + (m5 : Int) + 32) (r12 : b12 = 2 * (m4 : Int) + 2 * (m5 : Int) + 64) (k1 : b10 ≤ (m1 : Int)) (k3 : b12 ≤ (m3 : Int)) : OraOk YO42 (env0 Tryz.prog.globals.size W (sy 32 (m1 : Int) (m2 : Int) (m3 : Int) (m4 : Int) (m5 : Int) (m6 : Int) b7 b8 b9 b10 b11 b12 (crcG (bs 1 32 m1 m2 m3 m4 m5 m6)) (crcG (bs 2 32 m1 m2 m3 m4 m5 m6)))).sy := by
  unfold YO42 YB44
  rw [List.append_nil]
  refine base6 hm ?_
  refine ora_cons .i64 (32) .i64 b7 (.bool false) rfl rfl (lss_f (by omega)) (fun _ _ => rfl) ?_
  refine ora_cons .i64 (32) .i64 b7 (.bool true) rfl rfl (geq_t (by omega)) (fun _ _ => rfl) ?_
  refine ora_cons .i64 m1 .i64 b10 (.bool false) rfl rfl (lss_f (by omega)) (fun _ _ => rfl) ?_
  refine ora_cons .i64 m1 .i64 b10 (.bool true) rfl rfl (geq_t (by omega)) (fun _ _ => rfl) ?_
  refine ora_cons .i64 m3 .i64 b12 (.bool false) rfl rfl (lss_f (by omega)) (fun _ _ => rfl) ?_
  refine ora_cons .i64 m3 .i64 b12 (.bool true) rfl rfl (geq_t (by omega)) (fun _ _ => rfl) ?_
  refine ora_cons .i64 (32) .i64 b7 (.bool false) rfl rfl (lss_f (by omega)) (fun _ _ => rfl) ?_
  refine ora_sum (bs 1 32 m1 m2 m3 m4 m5 m6) (cs_cv (r := 8) h1 h2 h3 h4 h5 h6) rfl (bs_lt (by decide) (by decide) m1 m2 m3 m4 m5 m6) (crcG_lt _ (bs_lt (by decide) (by decide) m1 m2 m3 m4 m5 m6)) ?_
  refine ora_sum (bs 2 32 m1 m2 m3 m4 m5 m6) (cs_cv (r := 8) h1 h2 h3 h4 h5 h6) rfl (bs_lt (by decide) (by decide) m1 m2 m3 m4 m5 m6) (crcG_lt _ (bs_lt (by decide) (by decide) m1 m2 m3 m4 m5 m6)) ?_
  refine ora_cons .i64 (32) .i64 b7 (.bool true) rfl rfl (geq_t (by omega)) (fun _ _ => rfl) ?_
  exact ora_nil _

theorem case42 {W : World} (h : laidMetH Tryz.prog laidL W) {m1 m2 m3 m4 m5 m6 : Nat} {b7 b8 b9 b10 b11 b12 : Int} (hm : Made (m2 : Int) (m4 : Int) (m5 : Int) b7 b8 b9 b10 b11 b12) (h1 : 33 ≤ m1 ∧ m1 ≤ 8192) (h2 : 2 ≤ m2 ∧ m2 ≤ 8) (h3 : 66 ≤ m3 ∧ m3 ≤ 65536) (h4 : 1 ≤ m4 ∧ m4 ≤ 32) (h5 : m5 ≤ 512) (h6 : 1 ≤ m6 ∧ m6 ≤ 2) (r7 : b7 = (m2 : Int) + 2) (r10 : b10 = (m4 : Int) + (m5 : Int) + 32) (r12 : b12 = 2 * (m4 : Int) + 2 * (m5 : Int) + 64) (k1 : b10 ≤ (m1 : Int)) (k3 : b12 ≤ (m3 : Int)) : Concl W 32 (m1 : Int) (m2 : Int) (m3 : Int) (m4 : Int) (m5 : Int) (m6 : Int) := by
  refine top_trueg (xp_ok _ _) (xp_fns _ _) mixed (YmT44 []) (xp_sums _ _) (l := YL42) (by rw [nGlob]; exact YT42) (globs h) (by unfold YL42; exact List.mem_cons_self ..) (vs := [.agg #[.int .i64 32, .int .i64 (m1 : Int), .int .i64 (m2 : Int), .int .i64 (m3 : Int), .int .i64 (m4 : Int), .int .i64 (m5 : Int), .int .i64 (m6 : Int)]]) (sy 32 (m1 : Int) (m2 : Int) (m3 : Int) (m4 : Int) (m5 : Int) (m6 : Int) b7 b8 b9 b10 b11 b12 (crcG (bs 1 32 m1 m2 m3 m4 m5 m6)) (crcG (bs 2 32 m1 m2 m3 m4 m5 m6))) (ora42 hm h1 h2 h3 h4 h5 h6 r7 r10 r12 k1 k3) ?_
  exact cvs_mk (cvAgg (cvs_mk rfl (cvs_mk (rng_cv rfl (by omega)) (cvs_mk (rng_cv rfl (by omega)) (cvs_mk (rng_cv rfl (by omega)) (cvs_mk (rng_cv rfl (by omega)) (cvs_mk (rng_cv rfl (by omega)) (cvs_mk (rng_cv rfl (by omega)) rfl)))))))) rfl

theorem walk {W : World} (h : laidMetH Tryz.prog laidL W) {a0 a1 a2 a3 a4 a5 a6 : Int} (hw : Wf a0 a1 a2 a3 a4 a5 a6) : Concl W a0 a1 a2 a3 a4 a5 a6 := by
  have hw' := hw
  obtain ⟨w0, w1, w2, w3, w4, w5, w6⟩ := hw'
  obtain ⟨b7, b8, b9, b10, b11, b12, hm⟩ : ∃ b7 b8 b9 b10 b11 b12, Made a2 a4 a5 b7 b8 b9 b10 b11 b12 := ⟨_, _, _, _, _, _, rfl, rfl, rfl, rfl, rfl, rfl⟩
  by_cases c0 : a2 ≤ 1
  · exact case0 h hw hm c0
  by_cases c1 : (9) ≤ a2
  · exact case1 h hw hm c1
  have r7 : b7 = a2 + 2 := by
    rw [hm.h7, iAdd_eq, wrap_id (by omega)]
  by_cases c2 : a0 < b7
  · exact case2 h hw hm (by omega) (by omega) r7 c2
  by_cases c3 : (33) ≤ a0
  · exact case3 h hw hm (by omega) (by omega) r7 c3
  by_cases c4 : a4 ≤ 0
  · exact case4 h hw hm (by omega) (by omega) r7 (by omega) (by omega) c4
  by_cases c5 : (33) ≤ a4
  · exact case5 h hw hm (by omega) (by omega) r7 (by omega) (by omega) c5
  by_cases c6 : a5 ≤ -1
  · exact case6 h hw hm (by omega) (by omega) r7 (by omega) (by omega) (by omega) (by omega) c6
  by_cases c7 : (513) ≤ a5
  · exact case7 h hw hm (by omega) (by omega) r7 (by omega) (by omega) (by omega) (by omega) c7
  have r8 : b8 = 16 + a4 := by rw [hm.h8, iAdd_eq, wrap_id (by omega)]
  have r9 : b9 = b8 + a5 := by rw [hm.h9, iAdd_eq, wrap_id (by omega)]
  have r10' : b10 = 16 + b9 := by rw [hm.h10, iAdd_eq, wrap_id (by omega)]
  have r11 : b11 = b9 + 16 := by rw [hm.h11, iAdd_eq, wrap_id (by omega)]
  have r12' : b12 = 2 * b11 := by rw [hm.h12, wrap_id (by omega)]
  have r10 : b10 = a4 + a5 + 32 := by omega
  have r12 : b12 = 2 * a4 + 2 * a5 + 64 := by omega
  by_cases c8 : a1 < b10
  · exact case8 h hw hm (by omega) (by omega) r7 (by omega) (by omega) (by omega) (by omega) (by omega) (by omega) r10 r12 c8
  by_cases c9 : (8193) ≤ a1
  · exact case9 h hw hm (by omega) (by omega) r7 (by omega) (by omega) (by omega) (by omega) (by omega) (by omega) r10 r12 c9
  by_cases c10 : a3 < b12
  · exact case10 h hw hm (by omega) (by omega) r7 (by omega) (by omega) (by omega) (by omega) (by omega) (by omega) r10 r12 (by omega) (by omega) c10
  by_cases c11 : (65537) ≤ a3
  · exact case11 h hw hm (by omega) (by omega) r7 (by omega) (by omega) (by omega) (by omega) (by omega) (by omega) r10 r12 (by omega) (by omega) c11
  by_cases c12 : a6 ≤ 0
  · exact case12 h hw hm (by omega) (by omega) r7 (by omega) (by omega) (by omega) (by omega) (by omega) (by omega) r10 r12 (by omega) (by omega) (by omega) (by omega) c12
  by_cases c13 : (3) ≤ a6
  · exact case13 h hw hm (by omega) (by omega) r7 (by omega) (by omega) (by omega) (by omega) (by omega) (by omega) r10 r12 (by omega) (by omega) (by omega) (by omega) c13

  obtain ⟨m1, rfl⟩ := Int.eq_ofNat_of_zero_le (show 0 ≤ a1 by omega)
  obtain ⟨m2, rfl⟩ := Int.eq_ofNat_of_zero_le (show 0 ≤ a2 by omega)
  obtain ⟨m3, rfl⟩ := Int.eq_ofNat_of_zero_le (show 0 ≤ a3 by omega)
  obtain ⟨m4, rfl⟩ := Int.eq_ofNat_of_zero_le (show 0 ≤ a4 by omega)
  obtain ⟨m5, rfl⟩ := Int.eq_ofNat_of_zero_le (show 0 ≤ a5 by omega)
  obtain ⟨m6, rfl⟩ := Int.eq_ofNat_of_zero_le (show 0 ≤ a6 by omega)
  have hs : a0 = 4 ∨ a0 = 5 ∨ a0 = 6 ∨ a0 = 7 ∨ a0 = 8 ∨ a0 = 9 ∨ a0 = 10 ∨ a0 = 11 ∨ a0 = 12 ∨ a0 = 13 ∨ a0 = 14 ∨ a0 = 15 ∨ a0 = 16 ∨ a0 = 17 ∨ a0 = 18 ∨ a0 = 19 ∨ a0 = 20 ∨ a0 = 21 ∨ a0 = 22 ∨ a0 = 23 ∨ a0 = 24 ∨ a0 = 25 ∨ a0 = 26 ∨ a0 = 27 ∨ a0 = 28 ∨ a0 = 29 ∨ a0 = 30 ∨ a0 = 31 ∨ a0 = 32 := by omega
  rcases hs with rfl | rfl | rfl | rfl | rfl | rfl | rfl | rfl | rfl | rfl | rfl | rfl | rfl | rfl | rfl | rfl | rfl | rfl | rfl | rfl | rfl | rfl | rfl | rfl | rfl | rfl | rfl | rfl | rfl
  · exact case14 h hm (by omega) (by omega) (by omega) (by omega) (by omega) (by omega) r7 r10 r12 (by omega) (by omega)
  · exact case15 h hm (by omega) (by omega) (by omega) (by omega) (by omega) (by omega) r7 r10 r12 (by omega) (by omega)
  · exact case16 h hm (by omega) (by omega) (by omega) (by omega) (by omega) (by omega) r7 r10 r12 (by omega) (by omega)
  · exact case17 h hm (by omega) (by omega) (by omega) (by omega) (by omega) (by omega) r7 r10 r12 (by omega) (by omega)
  · exact case18 h hm (by omega) (by omega) (by omega) (by omega) (by omega) (by omega) r7 r10 r12 (by omega) (by omega)
  · exact case19 h hm (by omega) (by omega) (by omega) (by omega) (by omega) (by omega) r7 r10 r12 (by omega) (by omega)
  · exact case20 h hm (by omega) (by omega) (by omega) (by omega) (by omega) (by omega) r7 r10 r12 (by omega) (by omega)
  · exact case21 h hm (by omega) (by omega) (by omega) (by omega) (by omega) (by omega) r7 r10 r12 (by omega) (by omega)
  · exact case22 h hm (by omega) (by omega) (by omega) (by omega) (by omega) (by omega) r7 r10 r12 (by omega) (by omega)
  · exact case23 h hm (by omega) (by omega) (by omega) (by omega) (by omega) (by omega) r7 r10 r12 (by omega) (by omega)
  · exact case24 h hm (by omega) (by omega) (by omega) (by omega) (by omega) (by omega) r7 r10 r12 (by omega) (by omega)
  · exact case25 h hm (by omega) (by omega) (by omega) (by omega) (by omega) (by omega) r7 r10 r12 (by omega) (by omega)
  · exact case26 h hm (by omega) (by omega) (by omega) (by omega) (by omega) (by omega) r7 r10 r12 (by omega) (by omega)
  · exact case27 h hm (by omega) (by omega) (by omega) (by omega) (by omega) (by omega) r7 r10 r12 (by omega) (by omega)
  · exact case28 h hm (by omega) (by omega) (by omega) (by omega) (by omega) (by omega) r7 r10 r12 (by omega) (by omega)
  · exact case29 h hm (by omega) (by omega) (by omega) (by omega) (by omega) (by omega) r7 r10 r12 (by omega) (by omega)
  · exact case30 h hm (by omega) (by omega) (by omega) (by omega) (by omega) (by omega) r7 r10 r12 (by omega) (by omega)
  · exact case31 h hm (by omega) (by omega) (by omega) (by omega) (by omega) (by omega) r7 r10 r12 (by omega) (by omega)
  · exact case32 h hm (by omega) (by omega) (by omega) (by omega) (by omega) (by omega) r7 r10 r12 (by omega) (by omega)
  · exact case33 h hm (by omega) (by omega) (by omega) (by omega) (by omega) (by omega) r7 r10 r12 (by omega) (by omega)
  · exact case34 h hm (by omega) (by omega) (by omega) (by omega) (by omega) (by omega) r7 r10 r12 (by omega) (by omega)
  · exact case35 h hm (by omega) (by omega) (by omega) (by omega) (by omega) (by omega) r7 r10 r12 (by omega) (by omega)
  · exact case36 h hm (by omega) (by omega) (by omega) (by omega) (by omega) (by omega) r7 r10 r12 (by omega) (by omega)
  · exact case37 h hm (by omega) (by omega) (by omega) (by omega) (by omega) (by omega) r7 r10 r12 (by omega) (by omega)
  · exact case38 h hm (by omega) (by omega) (by omega) (by omega) (by omega) (by omega) r7 r10 r12 (by omega) (by omega)
  · exact case39 h hm (by omega) (by omega) (by omega) (by omega) (by omega) (by omega) r7 r10 r12 (by omega) (by omega)
  · exact case40 h hm (by omega) (by omega) (by omega) (by omega) (by omega) (by omega) r7 r10 r12 (by omega) (by omega)
  · exact case41 h hm (by omega) (by omega) (by omega) (by omega) (by omega) (by omega) r7 r10 r12 (by omega) (by omega)
  · exact case42 h hm (by omega) (by omega) (by omega) (by omega) (by omega) (by omega) r7 r10 r12 (by omega) (by omega)
theorem i64_of {n : Int} (h : (Lit.int .i64 n).wf = true) : (-9223372036854775808) ≤ n ∧ n ≤ 9223372036854775807 := by
  have h2 : (decide (IntKind.i64.min ≤ n) && decide (n ≤ IntKind.i64.max)) = true := h
  simp only [Bool.and_eq_true, decide_eq_true_eq] at h2
  have h0 : IntKind.i64.min = (-9223372036854775808) := by decide
  have h1 : IntKind.i64.max = 9223372036854775807 := by decide
  omega

theorem list7 {l : List Value} {x0 x1 x2 x3 x4 x5 x6 : Value} (hl : l.length = 7) (h0 : l[0]? = some x0) (h1 : l[1]? = some x1) (h2 : l[2]? = some x2) (h3 : l[3]? = some x3) (h4 : l[4]? = some x4) (h5 : l[5]? = some x5) (h6 : l[6]? = some x6) : l = [x0, x1, x2, x3, x4, x5, x6] := by
  match l, hl with
  | [y0, y1, y2, y3, y4, y5, y6], _ => simp at h0 h1 h2 h3 h4 h5 h6; simp [h0, h1, h2, h3, h4, h5, h6]

end

theorem lifted (os : Os) (started : os.Started) (H : Type) (enc : TypeId × Value → H) :
    ReturnsInHanded {} Tryz.checked os 3 .any (fun w args => (Rows.storeFormatsSpec.pre enc Tryz.prog Tryz.f3 [] false w args ∧ laidMetH Tryz.prog laidL w) ∧ sizedMet enc Tryz.prog Tryz.f3 (OpenSpec.ofChange Rows.storeFormatsSpec) false w args)
      (Rows.storeFormatsSpec.post enc Tryz.prog Tryz.f3 false true false false) := by
  refine returnsInHanded_of_change_and (C := Tryz.checked) (X := fun w _ => laidMetH Tryz.prog laidL w) (fun _ _ _ hh h => h.of_heap hh) own started (by kernel_rfl) Tryz.func3
    (ChangeSpec.witness_shaped (enc := enc) (C := Tryz.checked) (os := os) (X := fun w _ => laidMetH Tryz.prog laidL w) false (World.laidAll Tryz.prog os laidL) #[.agg #[.int .i64 0, .int .i64 0, .int .i64 0, .int .i64 0, .int .i64 0, .int .i64 0, .int .i64 0]] 8 (World.laidAll_os _ _ _) (World.shaped_of_ZipB (by kernel_rfl) (by kernel_rfl)) (by kernel_rfl) (by kernel_rfl) (by kernel_rfl) (door_met os _)) ?_
  intro W base args ds gs before hval0 hW _ _ hL _
  have hval : ∀ (j : Nat) t v, Tryz.f3.params[j]? = some t → args[j]? = some v → Value.okWide Tryz.prog W .any base t v := hval0
  have hW' := hW
  obtain ⟨p, q, hA0, hV, rfl, hfz, hnd⟩ := hW
  have hA : DataW.TrodAll enc Tryz.prog W 0 (fun _ => true) true Tryz.f3.params.toList args.toList ds p := hA0
  have hA1 := hA0
  rw [Tryz.params3] at hA hval
  obtain ⟨v0, d0, rfl, rfl, h0⟩ := trodAll_one hA
  obtain ⟨rfl, rfl⟩ := trodVars_none hV
  obtain ⟨cs, rfl, hsz⟩ := okWide_struct Tryz.underlying23 (hval 0 _ v0 rfl rfl)
  obtain ⟨fu, h0⟩ := h0
  have hsz' : cs.toList.length = 7 := by rw [Array.length_toList, hsz]; kernel_rfl
  obtain ⟨a0, e0, f0⟩ := fld_int (i := 0) Tryz.underlying23 rfl rfl rfl Tryz.underlying3 (by kernel_rfl) h0
  obtain ⟨a1, e1, f1⟩ := fld_int (i := 1) Tryz.underlying23 rfl rfl rfl Tryz.underlying3 (by kernel_rfl) h0
  obtain ⟨a2, e2, f2⟩ := fld_int (i := 2) Tryz.underlying23 rfl rfl rfl Tryz.underlying3 (by kernel_rfl) h0
  obtain ⟨a3, e3, f3⟩ := fld_int (i := 3) Tryz.underlying23 rfl rfl rfl Tryz.underlying3 (by kernel_rfl) h0
  obtain ⟨a4, e4, f4⟩ := fld_int (i := 4) Tryz.underlying23 rfl rfl rfl Tryz.underlying3 (by kernel_rfl) h0
  obtain ⟨a5, e5, f5⟩ := fld_int (i := 5) Tryz.underlying23 rfl rfl rfl Tryz.underlying3 (by kernel_rfl) h0
  obtain ⟨a6, e6, f6⟩ := fld_int (i := 6) Tryz.underlying23 rfl rfl rfl Tryz.underlying3 (by kernel_rfl) h0
  have hcs := list7 hsz' e0 e1 e2 e3 e4 e5 e6
  obtain ⟨l⟩ := cs
  simp only at hcs
  subst hcs
  clear hval0
  simp only [List.append_nil] at hW'
  refine (walk hL ⟨i64_of f0, i64_of f1, i64_of f2, i64_of f3, i64_of f4, i64_of f5, i64_of f6⟩).mono fun e W' ⟨he, hkp, hk⟩ => ?_
  subst he
  refine ⟨_, rfl, _, _, _, [], p, [], hW', ?_, ?_, ?_, hk _, fun h => by cases h⟩
  · exact trodAll_mk1 (shut_bool Tryz.underlying4 true)
  · exact DataW.TrodAll.respare kids full (by rw [Tryz.params3]; decide +kernel) (trodAll_keep hkp hA1) (fun q hq => by simpa using DataW.TrodAll.lt hA1 q hq)
  · rfl

end Go.Proofs.YtfpiabkkelhgbaaGreatDoor.storeFormats
