/- MergeNews returns true for every configuration, at every world whose package variables are as the program's text lays them; no condition beside the row's own. -/
import Derived.Test.YtffklfjhcdggkaaGreatDoorMNewsA
import Derived.Laws.BitsLemmas
import Derived.Test.YtffklfjhcdggkaaGreatDoorTie
import Derived.Test.YtffklfjhcdggkaaGreatDoorCards
namespace Go.Proofs.YtffklfjhcdggkaaGreatDoor.mergeNews
open Go.ChangeShapes Go.WideShapes Go.ChangeAt Go.RowKit Go.X
set_option linter.unusedVariables false
set_option maxRecDepth 100000

def sy (a0 a1 a2 a3 a4 a5 a6 b7 b8 b9 b10 b11 b12 : Int) : Nat → Value
  | 0 => .int .i64 a0 | 1 => .int .i64 a1 | 2 => .int .i64 a2 | 3 => .int .i64 a3 | 4 => .int .i64 a4 | 5 => .int .i64 a5 | 6 => .int .i64 a6
  | 7 => .int .i64 b7 | 8 => .int .i64 b8 | 9 => .int .i64 b9 | 10 => .int .i64 b10 | 11 => .int .i64 b11 | _ => .int .i64 b12

/-- what the program makes of the numbers -/
structure Made (a2 a4 a5 b7 b8 b9 b10 b11 b12 : Int) : Prop where
  h7 : b7 = fwrap .i64 (iAdd a2 2)
  h8 : b8 = fwrap .i64 (iAdd 16 a4)
  h9 : b9 = fwrap .i64 (iAdd b8 a5)
  h10 : b10 = fwrap .i64 (iAdd 16 b9)
  h11 : b11 = fwrap .i64 (iAdd b9 16)
  h12 : b12 = fwrap .i64 (2 * b11)

theorem wrap_in (x : Int) : (-9223372036854775808) ≤ fwrap .i64 x ∧ fwrap .i64 x ≤ 9223372036854775807 := by
  rw [fwrap_eq, IntKind.wrap_i64]
  omega

theorem wrap_id {x : Int} (h : (-9223372036854775808) ≤ x ∧ x ≤ 9223372036854775807) : fwrap .i64 x = x := by
  rw [fwrap_eq, IntKind.wrap_i64]
  omega

theorem res_is {i : Nat} {b x : Int} {sy : Nat → Value} {e : Env} (he : e.sy = sy) (hs : sy i = .int .i64 b) (hb : b = fwrap .i64 x) : cv e (.res i (.rng .i64 (-9223372036854775808) (9223372036854775807))) = cv e (.int .i64 (fwrap .i64 x)) := by
  have h := wrap_in x
  subst hb
  show (RC.rng .i64 (-9223372036854775808) (9223372036854775807)).val (e.sy i) = some (.int .i64 (fwrap .i64 x))
  rw [he, hs]
  simp only [RC.val, h, and_self, if_true]

theorem cvAgg {e : Env} {l : List AV} {vs : List Value} (h : cvs e l = some vs) : cv e (.agg l) = some (.agg vs.toArray) := by
  simp only [cv, h]

theorem rng_cv {e : Env} {i : Nat} {k : IntKind} {lo hi x : Int} (hs : e.sy i = .int k x) (h : lo ≤ x ∧ x ≤ hi) : cv e (.res i (.rng k lo hi)) = some (.int k x) := by
  show (RC.rng k lo hi).val (e.sy i) = _
  rw [hs]
  simp only [RC.val, h, and_self, if_true]

theorem lss_f {a b : Int} (h : b ≤ a) : binInt .lss .i64 .i64 a b = some (.bool false) := by
  show some (AV.bool (iLt a b)) = _
  rw [iLt_eq, decide_eq_false (by omega)]
theorem lss_t {a b : Int} (h : a < b) : binInt .lss .i64 .i64 a b = some (.bool true) := by
  show some (AV.bool (iLt a b)) = _
  rw [iLt_eq, decide_eq_true (by omega)]
theorem geq_t {a b : Int} (h : b ≤ a) : binInt .geq .i64 .i64 a b = some (.bool true) := by
  show some (AV.bool (iLe b a)) = _
  rw [iLe_eq, decide_eq_true (by omega)]
theorem geq_f {a b : Int} (h : a < b) : binInt .geq .i64 .i64 a b = some (.bool false) := by
  show some (AV.bool (iLe b a)) = _
  rw [iLe_eq, decide_eq_false (by omega)]
theorem gtr_t {a b : Int} (h : b < a) : binInt .gtr .i64 .i64 a b = some (.bool true) := by
  show some (AV.bool (iLt b a)) = _
  rw [iLt_eq, decide_eq_true (by omega)]
theorem gtr_f {a b : Int} (h : a ≤ b) : binInt .gtr .i64 .i64 a b = some (.bool false) := by
  show some (AV.bool (iLt b a)) = _
  rw [iLt_eq, decide_eq_false (by omega)]
theorem leq_t {a b : Int} (h : a ≤ b) : binInt .leq .i64 .i64 a b = some (.bool true) := by
  show some (AV.bool (iLe a b)) = _
  rw [iLe_eq, decide_eq_true (by omega)]
theorem leq_f {a b : Int} (h : b < a) : binInt .leq .i64 .i64 a b = some (.bool false) := by
  show some (AV.bool (iLe a b)) = _
  rw [iLe_eq, decide_eq_false (by omega)]

def Wf (a0 a1 a2 a3 a4 a5 a6 : Int) : Prop := ((-9223372036854775808) ≤ a0 ∧ a0 ≤ 9223372036854775807) ∧ ((-9223372036854775808) ≤ a1 ∧ a1 ≤ 9223372036854775807) ∧ ((-9223372036854775808) ≤ a2 ∧ a2 ≤ 9223372036854775807) ∧ ((-9223372036854775808) ≤ a3 ∧ a3 ≤ 9223372036854775807) ∧ ((-9223372036854775808) ≤ a4 ∧ a4 ≤ 9223372036854775807) ∧ ((-9223372036854775808) ≤ a5 ∧ a5 ≤ 9223372036854775807) ∧ ((-9223372036854775808) ≤ a6 ∧ a6 ≤ 9223372036854775807) 
theorem ora0 {NG : Nat} {W : World} {a0 a1 a2 a3 a4 a5 a6 b7 b8 b9 b10 b11 b12 : Int} (hm : Made a2 a4 a5 b7 b8 b9 b10 b11 b12) (g0 : a2 ≤ 1) : OraOk QO0 (env0 NG W (sy a0 a1 a2 a3 a4 a5 a6 b7 b8 b9 b10 b11 b12)).sy := by
  unfold QO0
  refine ora_cons .i64 a2 .i64 (2) (.int .i64 (fwrap .i64 (iAdd a2 (2)))) rfl rfl rfl (fun e he => res_is (sy := (env0 NG W (sy a0 a1 a2 a3 a4 a5 a6 b7 b8 b9 b10 b11 b12)).sy) (i := 14) he rfl hm.h7) ?_
  refine ora_cons .i64 (16) .i64 a4 (.int .i64 (fwrap .i64 (iAdd (16) a4))) rfl rfl rfl (fun e he => res_is (sy := (env0 NG W (sy a0 a1 a2 a3 a4 a5 a6 b7 b8 b9 b10 b11 b12)).sy) (i := 16) he rfl hm.h8) ?_
  refine ora_cons .i64 b8 .i64 a5 (.int .i64 (fwrap .i64 (iAdd b8 a5))) rfl rfl rfl (fun e he => res_is (sy := (env0 NG W (sy a0 a1 a2 a3 a4 a5 a6 b7 b8 b9 b10 b11 b12)).sy) (i := 18) he rfl hm.h9) ?_
  refine ora_cons .i64 (16) .i64 b9 (.int .i64 (fwrap .i64 (iAdd (16) b9))) rfl rfl rfl (fun e he => res_is (sy := (env0 NG W (sy a0 a1 a2 a3 a4 a5 a6 b7 b8 b9 b10 b11 b12)).sy) (i := 20) he rfl hm.h10) ?_
  refine ora_cons .i64 b9 .i64 (16) (.int .i64 (fwrap .i64 (iAdd b9 (16)))) rfl rfl rfl (fun e he => res_is (sy := (env0 NG W (sy a0 a1 a2 a3 a4 a5 a6 b7 b8 b9 b10 b11 b12)).sy) (i := 22) he rfl hm.h11) ?_
  refine ora_cons .i64 (2) .i64 b11 (.int .i64 (fwrap .i64 ((2) * b11))) rfl rfl rfl (fun e he => res_is (sy := (env0 NG W (sy a0 a1 a2 a3 a4 a5 a6 b7 b8 b9 b10 b11 b12)).sy) (i := 24) he rfl hm.h12) ?_
  exact ora_nil _

theorem case0 {W : World} (h : laidMetH Tryz.prog laidL W) {a0 a1 a2 a3 a4 a5 a6 b7 b8 b9 b10 b11 b12 : Int} (hw : Wf a0 a1 a2 a3 a4 a5 a6) (hm : Made a2 a4 a5 b7 b8 b9 b10 b11 b12) (g0 : a2 ≤ 1) :
    Calls Tryz.prog 3 #[.agg #[.int .i64 a0, .int .i64 a1, .int .i64 a2, .int .i64 a3, .int .i64 a4, .int .i64 a5, .int .i64 a6]] W fun e w' => e = .returned (.bool true) ∧ (∀ B, B < W.heap.size → w'.heap[B]? = W.heap[B]?) ∧ ∀ may, W.keptBut w' may := by
  obtain ⟨w0, w1, w2, w3, w4, w5, w6⟩ := hw
  refine top_trueg (xp_ok _ _) (xp_fns _ _) mixed (QmT _) (l := QL0) (by rw [nGlob]; exact QT0) (globs h) (by unfold QL0; exact List.mem_cons_self ..) (vs := [.agg #[.int .i64 a0, .int .i64 a1, .int .i64 a2, .int .i64 a3, .int .i64 a4, .int .i64 a5, .int .i64 a6]]) (sy a0 a1 a2 a3 a4 a5 a6 b7 b8 b9 b10 b11 b12) (ora0 hm (by omega)) ?_
  exact cvs_mk (cvAgg (cvs_mk (rng_cv rfl (by omega)) (cvs_mk (rng_cv rfl (by omega)) (cvs_mk (rng_cv rfl (by omega)) (cvs_mk (rng_cv rfl (by omega)) (cvs_mk (rng_cv rfl (by omega)) (cvs_mk (rng_cv rfl (by omega)) (cvs_mk (rng_cv rfl (by omega)) rfl)))))))) rfl

theorem ora1 {NG : Nat} {W : World} {a0 a1 a2 a3 a4 a5 a6 b7 b8 b9 b10 b11 b12 : Int} (hm : Made a2 a4 a5 b7 b8 b9 b10 b11 b12) (g0 : (9) ≤ a2) : OraOk QO1 (env0 NG W (sy a0 a1 a2 a3 a4 a5 a6 b7 b8 b9 b10 b11 b12)).sy := by
  unfold QO1
  refine ora_cons .i64 a2 .i64 (2) (.int .i64 (fwrap .i64 (iAdd a2 (2)))) rfl rfl rfl (fun e he => res_is (sy := (env0 NG W (sy a0 a1 a2 a3 a4 a5 a6 b7 b8 b9 b10 b11 b12)).sy) (i := 14) he rfl hm.h7) ?_
  refine ora_cons .i64 (16) .i64 a4 (.int .i64 (fwrap .i64 (iAdd (16) a4))) rfl rfl rfl (fun e he => res_is (sy := (env0 NG W (sy a0 a1 a2 a3 a4 a5 a6 b7 b8 b9 b10 b11 b12)).sy) (i := 16) he rfl hm.h8) ?_
  refine ora_cons .i64 b8 .i64 a5 (.int .i64 (fwrap .i64 (iAdd b8 a5))) rfl rfl rfl (fun e he => res_is (sy := (env0 NG W (sy a0 a1 a2 a3 a4 a5 a6 b7 b8 b9 b10 b11 b12)).sy) (i := 18) he rfl hm.h9) ?_
  refine ora_cons .i64 (16) .i64 b9 (.int .i64 (fwrap .i64 (iAdd (16) b9))) rfl rfl rfl (fun e he => res_is (sy := (env0 NG W (sy a0 a1 a2 a3 a4 a5 a6 b7 b8 b9 b10 b11 b12)).sy) (i := 20) he rfl hm.h10) ?_
  refine ora_cons .i64 b9 .i64 (16) (.int .i64 (fwrap .i64 (iAdd b9 (16)))) rfl rfl rfl (fun e he => res_is (sy := (env0 NG W (sy a0 a1 a2 a3 a4 a5 a6 b7 b8 b9 b10 b11 b12)).sy) (i := 22) he rfl hm.h11) ?_
  refine ora_cons .i64 (2) .i64 b11 (.int .i64 (fwrap .i64 ((2) * b11))) rfl rfl rfl (fun e he => res_is (sy := (env0 NG W (sy a0 a1 a2 a3 a4 a5 a6 b7 b8 b9 b10 b11 b12)).sy) (i := 24) he rfl hm.h12) ?_
  exact ora_nil _

theorem case1 {W : World} (h : laidMetH Tryz.prog laidL W) {a0 a1 a2 a3 a4 a5 a6 b7 b8 b9 b10 b11 b12 : Int} (hw : Wf a0 a1 a2 a3 a4 a5 a6) (hm : Made a2 a4 a5 b7 b8 b9 b10 b11 b12) (g0 : (9) ≤ a2) :
    Calls Tryz.prog 3 #[.agg #[.int .i64 a0, .int .i64 a1, .int .i64 a2, .int .i64 a3, .int .i64 a4, .int .i64 a5, .int .i64 a6]] W fun e w' => e = .returned (.bool true) ∧ (∀ B, B < W.heap.size → w'.heap[B]? = W.heap[B]?) ∧ ∀ may, W.keptBut w' may := by
  obtain ⟨w0, w1, w2, w3, w4, w5, w6⟩ := hw
  refine top_trueg (xp_ok _ _) (xp_fns _ _) mixed (QmT _) (l := QL1) (by rw [nGlob]; exact QT1) (globs h) (by unfold QL1; exact List.mem_cons_self ..) (vs := [.agg #[.int .i64 a0, .int .i64 a1, .int .i64 a2, .int .i64 a3, .int .i64 a4, .int .i64 a5, .int .i64 a6]]) (sy a0 a1 a2 a3 a4 a5 a6 b7 b8 b9 b10 b11 b12) (ora1 hm (by omega)) ?_
  exact cvs_mk (cvAgg (cvs_mk (rng_cv rfl (by omega)) (cvs_mk (rng_cv rfl (by omega)) (cvs_mk (rng_cv rfl (by omega)) (cvs_mk (rng_cv rfl (by omega)) (cvs_mk (rng_cv rfl (by omega)) (cvs_mk (rng_cv rfl (by omega)) (cvs_mk (rng_cv rfl (by omega)) rfl)))))))) rfl

theorem ora2 {NG : Nat} {W : World} {a0 a1 a2 a3 a4 a5 a6 b7 b8 b9 b10 b11 b12 : Int} (hm : Made a2 a4 a5 b7 b8 b9 b10 b11 b12) (g0 : (2) ≤ a2) (g1 : a2 ≤ 8) (g2 : b7 = a2 + 2) (g3 : a0 < b7) : OraOk QO2 (env0 NG W (sy a0 a1 a2 a3 a4 a5 a6 b7 b8 b9 b10 b11 b12)).sy := by
  unfold QO2
  refine ora_cons .i64 a2 .i64 (2) (.int .i64 (fwrap .i64 (iAdd a2 (2)))) rfl rfl rfl (fun e he => res_is (sy := (env0 NG W (sy a0 a1 a2 a3 a4 a5 a6 b7 b8 b9 b10 b11 b12)).sy) (i := 14) he rfl hm.h7) ?_
  refine ora_cons .i64 (16) .i64 a4 (.int .i64 (fwrap .i64 (iAdd (16) a4))) rfl rfl rfl (fun e he => res_is (sy := (env0 NG W (sy a0 a1 a2 a3 a4 a5 a6 b7 b8 b9 b10 b11 b12)).sy) (i := 16) he rfl hm.h8) ?_
  refine ora_cons .i64 b8 .i64 a5 (.int .i64 (fwrap .i64 (iAdd b8 a5))) rfl rfl rfl (fun e he => res_is (sy := (env0 NG W (sy a0 a1 a2 a3 a4 a5 a6 b7 b8 b9 b10 b11 b12)).sy) (i := 18) he rfl hm.h9) ?_
  refine ora_cons .i64 (16) .i64 b9 (.int .i64 (fwrap .i64 (iAdd (16) b9))) rfl rfl rfl (fun e he => res_is (sy := (env0 NG W (sy a0 a1 a2 a3 a4 a5 a6 b7 b8 b9 b10 b11 b12)).sy) (i := 20) he rfl hm.h10) ?_
  refine ora_cons .i64 b9 .i64 (16) (.int .i64 (fwrap .i64 (iAdd b9 (16)))) rfl rfl rfl (fun e he => res_is (sy := (env0 NG W (sy a0 a1 a2 a3 a4 a5 a6 b7 b8 b9 b10 b11 b12)).sy) (i := 22) he rfl hm.h11) ?_
  refine ora_cons .i64 (2) .i64 b11 (.int .i64 (fwrap .i64 ((2) * b11))) rfl rfl rfl (fun e he => res_is (sy := (env0 NG W (sy a0 a1 a2 a3 a4 a5 a6 b7 b8 b9 b10 b11 b12)).sy) (i := 24) he rfl hm.h12) ?_
  refine ora_cons .i64 a0 .i64 b7 (.bool true) rfl rfl (lss_t (by omega)) (fun _ _ => rfl) ?_
  refine ora_cons .i64 a0 .i64 b7 (.bool false) rfl rfl (geq_f (by omega)) (fun _ _ => rfl) ?_
  exact ora_nil _

theorem case2 {W : World} (h : laidMetH Tryz.prog laidL W) {a0 a1 a2 a3 a4 a5 a6 b7 b8 b9 b10 b11 b12 : Int} (hw : Wf a0 a1 a2 a3 a4 a5 a6) (hm : Made a2 a4 a5 b7 b8 b9 b10 b11 b12) (g0 : (2) ≤ a2) (g1 : a2 ≤ 8) (g2 : b7 = a2 + 2) (g3 : a0 < b7) :
    Calls Tryz.prog 3 #[.agg #[.int .i64 a0, .int .i64 a1, .int .i64 a2, .int .i64 a3, .int .i64 a4, .int .i64 a5, .int .i64 a6]] W fun e w' => e = .returned (.bool true) ∧ (∀ B, B < W.heap.size → w'.heap[B]? = W.heap[B]?) ∧ ∀ may, W.keptBut w' may := by
  obtain ⟨w0, w1, w2, w3, w4, w5, w6⟩ := hw
  refine top_trueg (xp_ok _ _) (xp_fns _ _) mixed (QmT _) (l := QL2) (by rw [nGlob]; exact QT2) (globs h) (by unfold QL2; exact List.mem_cons_self ..) (vs := [.agg #[.int .i64 a0, .int .i64 a1, .int .i64 a2, .int .i64 a3, .int .i64 a4, .int .i64 a5, .int .i64 a6]]) (sy a0 a1 a2 a3 a4 a5 a6 b7 b8 b9 b10 b11 b12) (ora2 hm (by omega) (by omega) (by omega) (by omega)) ?_
  exact cvs_mk (cvAgg (cvs_mk (rng_cv rfl (by omega)) (cvs_mk (rng_cv rfl (by omega)) (cvs_mk (rng_cv rfl (by omega)) (cvs_mk (rng_cv rfl (by omega)) (cvs_mk (rng_cv rfl (by omega)) (cvs_mk (rng_cv rfl (by omega)) (cvs_mk (rng_cv rfl (by omega)) rfl)))))))) rfl

theorem ora3 {NG : Nat} {W : World} {a0 a1 a2 a3 a4 a5 a6 b7 b8 b9 b10 b11 b12 : Int} (hm : Made a2 a4 a5 b7 b8 b9 b10 b11 b12) (g0 : (2) ≤ a2) (g1 : a2 ≤ 8) (g2 : b7 = a2 + 2) (g3 : (33) ≤ a0) : OraOk QO3 (env0 NG W (sy a0 a1 a2 a3 a4 a5 a6 b7 b8 b9 b10 b11 b12)).sy := by
  unfold QO3
  refine ora_cons .i64 a2 .i64 (2) (.int .i64 (fwrap .i64 (iAdd a2 (2)))) rfl rfl rfl (fun e he => res_is (sy := (env0 NG W (sy a0 a1 a2 a3 a4 a5 a6 b7 b8 b9 b10 b11 b12)).sy) (i := 14) he rfl hm.h7) ?_
  refine ora_cons .i64 (16) .i64 a4 (.int .i64 (fwrap .i64 (iAdd (16) a4))) rfl rfl rfl (fun e he => res_is (sy := (env0 NG W (sy a0 a1 a2 a3 a4 a5 a6 b7 b8 b9 b10 b11 b12)).sy) (i := 16) he rfl hm.h8) ?_
  refine ora_cons .i64 b8 .i64 a5 (.int .i64 (fwrap .i64 (iAdd b8 a5))) rfl rfl rfl (fun e he => res_is (sy := (env0 NG W (sy a0 a1 a2 a3 a4 a5 a6 b7 b8 b9 b10 b11 b12)).sy) (i := 18) he rfl hm.h9) ?_
  refine ora_cons .i64 (16) .i64 b9 (.int .i64 (fwrap .i64 (iAdd (16) b9))) rfl rfl rfl (fun e he => res_is (sy := (env0 NG W (sy a0 a1 a2 a3 a4 a5 a6 b7 b8 b9 b10 b11 b12)).sy) (i := 20) he rfl hm.h10) ?_
  refine ora_cons .i64 b9 .i64 (16) (.int .i64 (fwrap .i64 (iAdd b9 (16)))) rfl rfl rfl (fun e he => res_is (sy := (env0 NG W (sy a0 a1 a2 a3 a4 a5 a6 b7 b8 b9 b10 b11 b12)).sy) (i := 22) he rfl hm.h11) ?_
  refine ora_cons .i64 (2) .i64 b11 (.int .i64 (fwrap .i64 ((2) * b11))) rfl rfl rfl (fun e he => res_is (sy := (env0 NG W (sy a0 a1 a2 a3 a4 a5 a6 b7 b8 b9 b10 b11 b12)).sy) (i := 24) he rfl hm.h12) ?_
  refine ora_cons .i64 a0 .i64 b7 (.bool false) rfl rfl (lss_f (by omega)) (fun _ _ => rfl) ?_
  refine ora_cons .i64 a0 .i64 b7 (.bool true) rfl rfl (geq_t (by omega)) (fun _ _ => rfl) ?_
  exact ora_nil _

theorem case3 {W : World} (h : laidMetH Tryz.prog laidL W) {a0 a1 a2 a3 a4 a5 a6 b7 b8 b9 b10 b11 b12 : Int} (hw : Wf a0 a1 a2 a3 a4 a5 a6) (hm : Made a2 a4 a5 b7 b8 b9 b10 b11 b12) (g0 : (2) ≤ a2) (g1 : a2 ≤ 8) (g2 : b7 = a2 + 2) (g3 : (33) ≤ a0) :
    Calls Tryz.prog 3 #[.agg #[.int .i64 a0, .int .i64 a1, .int .i64 a2, .int .i64 a3, .int .i64 a4, .int .i64 a5, .int .i64 a6]] W fun e w' => e = .returned (.bool true) ∧ (∀ B, B < W.heap.size → w'.heap[B]? = W.heap[B]?) ∧ ∀ may, W.keptBut w' may := by
  obtain ⟨w0, w1, w2, w3, w4, w5, w6⟩ := hw
  refine top_trueg (xp_ok _ _) (xp_fns _ _) mixed (QmT _) (l := QL3) (by rw [nGlob]; exact QT3) (globs h) (by unfold QL3; exact List.mem_cons_self ..) (vs := [.agg #[.int .i64 a0, .int .i64 a1, .int .i64 a2, .int .i64 a3, .int .i64 a4, .int .i64 a5, .int .i64 a6]]) (sy a0 a1 a2 a3 a4 a5 a6 b7 b8 b9 b10 b11 b12) (ora3 hm (by omega) (by omega) (by omega) (by omega)) ?_
  exact cvs_mk (cvAgg (cvs_mk (rng_cv rfl (by omega)) (cvs_mk (rng_cv rfl (by omega)) (cvs_mk (rng_cv rfl (by omega)) (cvs_mk (rng_cv rfl (by omega)) (cvs_mk (rng_cv rfl (by omega)) (cvs_mk (rng_cv rfl (by omega)) (cvs_mk (rng_cv rfl (by omega)) rfl)))))))) rfl

theorem ora4 {NG : Nat} {W : World} {a0 a1 a2 a3 a4 a5 a6 b7 b8 b9 b10 b11 b12 : Int} (hm : Made a2 a4 a5 b7 b8 b9 b10 b11 b12) (g0 : (2) ≤ a2) (g1 : a2 ≤ 8) (g2 : b7 = a2 + 2) (g3 : b7 ≤ a0) (g4 : a0 ≤ 32) (g5 : a4 ≤ 0) : OraOk QO4 (env0 NG W (sy a0 a1 a2 a3 a4 a5 a6 b7 b8 b9 b10 b11 b12)).sy := by
  unfold QO4
  refine ora_cons .i64 a2 .i64 (2) (.int .i64 (fwrap .i64 (iAdd a2 (2)))) rfl rfl rfl (fun e he => res_is (sy := (env0 NG W (sy a0 a1 a2 a3 a4 a5 a6 b7 b8 b9 b10 b11 b12)).sy) (i := 14) he rfl hm.h7) ?_
  refine ora_cons .i64 (16) .i64 a4 (.int .i64 (fwrap .i64 (iAdd (16) a4))) rfl rfl rfl (fun e he => res_is (sy := (env0 NG W (sy a0 a1 a2 a3 a4 a5 a6 b7 b8 b9 b10 b11 b12)).sy) (i := 16) he rfl hm.h8) ?_
  refine ora_cons .i64 b8 .i64 a5 (.int .i64 (fwrap .i64 (iAdd b8 a5))) rfl rfl rfl (fun e he => res_is (sy := (env0 NG W (sy a0 a1 a2 a3 a4 a5 a6 b7 b8 b9 b10 b11 b12)).sy) (i := 18) he rfl hm.h9) ?_
  refine ora_cons .i64 (16) .i64 b9 (.int .i64 (fwrap .i64 (iAdd (16) b9))) rfl rfl rfl (fun e he => res_is (sy := (env0 NG W (sy a0 a1 a2 a3 a4 a5 a6 b7 b8 b9 b10 b11 b12)).sy) (i := 20) he rfl hm.h10) ?_
  refine ora_cons .i64 b9 .i64 (16) (.int .i64 (fwrap .i64 (iAdd b9 (16)))) rfl rfl rfl (fun e he => res_is (sy := (env0 NG W (sy a0 a1 a2 a3 a4 a5 a6 b7 b8 b9 b10 b11 b12)).sy) (i := 22) he rfl hm.h11) ?_
  refine ora_cons .i64 (2) .i64 b11 (.int .i64 (fwrap .i64 ((2) * b11))) rfl rfl rfl (fun e he => res_is (sy := (env0 NG W (sy a0 a1 a2 a3 a4 a5 a6 b7 b8 b9 b10 b11 b12)).sy) (i := 24) he rfl hm.h12) ?_
  refine ora_cons .i64 a0 .i64 b7 (.bool false) rfl rfl (lss_f (by omega)) (fun _ _ => rfl) ?_
  refine ora_cons .i64 a0 .i64 b7 (.bool true) rfl rfl (geq_t (by omega)) (fun _ _ => rfl) ?_
  exact ora_nil _

theorem case4 {W : World} (h : laidMetH Tryz.prog laidL W) {a0 a1 a2 a3 a4 a5 a6 b7 b8 b9 b10 b11 b12 : Int} (hw : Wf a0 a1 a2 a3 a4 a5 a6) (hm : Made a2 a4 a5 b7 b8 b9 b10 b11 b12) (g0 : (2) ≤ a2) (g1 : a2 ≤ 8) (g2 : b7 = a2 + 2) (g3 : b7 ≤ a0) (g4 : a0 ≤ 32) (g5 : a4 ≤ 0) :
    Calls Tryz.prog 3 #[.agg #[.int .i64 a0, .int .i64 a1, .int .i64 a2, .int .i64 a3, .int .i64 a4, .int .i64 a5, .int .i64 a6]] W fun e w' => e = .returned (.bool true) ∧ (∀ B, B < W.heap.size → w'.heap[B]? = W.heap[B]?) ∧ ∀ may, W.keptBut w' may := by
  obtain ⟨w0, w1, w2, w3, w4, w5, w6⟩ := hw
  refine top_trueg (xp_ok _ _) (xp_fns _ _) mixed (QmT _) (l := QL4) (by rw [nGlob]; exact QT4) (globs h) (by unfold QL4; exact List.mem_cons_self ..) (vs := [.agg #[.int .i64 a0, .int .i64 a1, .int .i64 a2, .int .i64 a3, .int .i64 a4, .int .i64 a5, .int .i64 a6]]) (sy a0 a1 a2 a3 a4 a5 a6 b7 b8 b9 b10 b11 b12) (ora4 hm (by omega) (by omega) (by omega) (by omega) (by omega) (by omega)) ?_
  exact cvs_mk (cvAgg (cvs_mk (rng_cv rfl (by omega)) (cvs_mk (rng_cv rfl (by omega)) (cvs_mk (rng_cv rfl (by omega)) (cvs_mk (rng_cv rfl (by omega)) (cvs_mk (rng_cv rfl (by omega)) (cvs_mk (rng_cv rfl (by omega)) (cvs_mk (rng_cv rfl (by omega)) rfl)))))))) rfl

theorem ora5 {NG : Nat} {W : World} {a0 a1 a2 a3 a4 a5 a6 b7 b8 b9 b10 b11 b12 : Int} (hm : Made a2 a4 a5 b7 b8 b9 b10 b11 b12) (g0 : (2) ≤ a2) (g1 : a2 ≤ 8) (g2 : b7 = a2 + 2) (g3 : b7 ≤ a0) (g4 : a0 ≤ 32) (g5 : (33) ≤ a4) : OraOk QO5 (env0 NG W (sy a0 a1 a2 a3 a4 a5 a6 b7 b8 b9 b10 b11 b12)).sy := by
  unfold QO5
  refine ora_cons .i64 a2 .i64 (2) (.int .i64 (fwrap .i64 (iAdd a2 (2)))) rfl rfl rfl (fun e he => res_is (sy := (env0 NG W (sy a0 a1 a2 a3 a4 a5 a6 b7 b8 b9 b10 b11 b12)).sy) (i := 14) he rfl hm.h7) ?_
  refine ora_cons .i64 (16) .i64 a4 (.int .i64 (fwrap .i64 (iAdd (16) a4))) rfl rfl rfl (fun e he => res_is (sy := (env0 NG W (sy a0 a1 a2 a3 a4 a5 a6 b7 b8 b9 b10 b11 b12)).sy) (i := 16) he rfl hm.h8) ?_
  refine ora_cons .i64 b8 .i64 a5 (.int .i64 (fwrap .i64 (iAdd b8 a5))) rfl rfl rfl (fun e he => res_is (sy := (env0 NG W (sy a0 a1 a2 a3 a4 a5 a6 b7 b8 b9 b10 b11 b12)).sy) (i := 18) he rfl hm.h9) ?_
  refine ora_cons .i64 (16) .i64 b9 (.int .i64 (fwrap .i64 (iAdd (16) b9))) rfl rfl rfl (fun e he => res_is (sy := (env0 NG W (sy a0 a1 a2 a3 a4 a5 a6 b7 b8 b9 b10 b11 b12)).sy) (i := 20) he rfl hm.h10) ?_
  refine ora_cons .i64 b9 .i64 (16) (.int .i64 (fwrap .i64 (iAdd b9 (16)))) rfl rfl rfl (fun e he => res_is (sy := (env0 NG W (sy a0 a1 a2 a3 a4 a5 a6 b7 b8 b9 b10 b11 b12)).sy) (i := 22) he rfl hm.h11) ?_
  refine ora_cons .i64 (2) .i64 b11 (.int .i64 (fwrap .i64 ((2) * b11))) rfl rfl rfl (fun e he => res_is (sy := (env0 NG W (sy a0 a1 a2 a3 a4 a5 a6 b7 b8 b9 b10 b11 b12)).sy) (i := 24) he rfl hm.h12) ?_
  refine ora_cons .i64 a0 .i64 b7 (.bool false) rfl rfl (lss_f (by omega)) (fun _ _ => rfl) ?_
  refine ora_cons .i64 a0 .i64 b7 (.bool true) rfl rfl (geq_t (by omega)) (fun _ _ => rfl) ?_
  exact ora_nil _

theorem case5 {W : World} (h : laidMetH Tryz.prog laidL W) {a0 a1 a2 a3 a4 a5 a6 b7 b8 b9 b10 b11 b12 : Int} (hw : Wf a0 a1 a2 a3 a4 a5 a6) (hm : Made a2 a4 a5 b7 b8 b9 b10 b11 b12) (g0 : (2) ≤ a2) (g1 : a2 ≤ 8) (g2 : b7 = a2 + 2) (g3 : b7 ≤ a0) (g4 : a0 ≤ 32) (g5 : (33) ≤ a4) :
    Calls Tryz.prog 3 #[.agg #[.int .i64 a0, .int .i64 a1, .int .i64 a2, .int .i64 a3, .int .i64 a4, .int .i64 a5, .int .i64 a6]] W fun e w' => e = .returned (.bool true) ∧ (∀ B, B < W.heap.size → w'.heap[B]? = W.heap[B]?) ∧ ∀ may, W.keptBut w' may := by
  obtain ⟨w0, w1, w2, w3, w4, w5, w6⟩ := hw
  refine top_trueg (xp_ok _ _) (xp_fns _ _) mixed (QmT _) (l := QL5) (by rw [nGlob]; exact QT5) (globs h) (by unfold QL5; exact List.mem_cons_self ..) (vs := [.agg #[.int .i64 a0, .int .i64 a1, .int .i64 a2, .int .i64 a3, .int .i64 a4, .int .i64 a5, .int .i64 a6]]) (sy a0 a1 a2 a3 a4 a5 a6 b7 b8 b9 b10 b11 b12) (ora5 hm (by omega) (by omega) (by omega) (by omega) (by omega) (by omega)) ?_
  exact cvs_mk (cvAgg (cvs_mk (rng_cv rfl (by omega)) (cvs_mk (rng_cv rfl (by omega)) (cvs_mk (rng_cv rfl (by omega)) (cvs_mk (rng_cv rfl (by omega)) (cvs_mk (rng_cv rfl (by omega)) (cvs_mk (rng_cv rfl (by omega)) (cvs_mk (rng_cv rfl (by omega)) rfl)))))))) rfl

theorem ora6 {NG : Nat} {W : World} {a0 a1 a2 a3 a4 a5 a6 b7 b8 b9 b10 b11 b12 : Int} (hm : Made a2 a4 a5 b7 b8 b9 b10 b11 b12) (g0 : (2) ≤ a2) (g1 : a2 ≤ 8) (g2 : b7 = a2 + 2) (g3 : b7 ≤ a0) (g4 : a0 ≤ 32) (g5 : (1) ≤ a4) (g6 : a4 ≤ 32) (g7 : a5 ≤ -1) : OraOk QO6 (env0 NG W (sy a0 a1 a2 a3 a4 a5 a6 b7 b8 b9 b10 b11 b12)).sy := by
  unfold QO6
  refine ora_cons .i64 a2 .i64 (2) (.int .i64 (fwrap .i64 (iAdd a2 (2)))) rfl rfl rfl (fun e he => res_is (sy := (env0 NG W (sy a0 a1 a2 a3 a4 a5 a6 b7 b8 b9 b10 b11 b12)).sy) (i := 14) he rfl hm.h7) ?_
  refine ora_cons .i64 (16) .i64 a4 (.int .i64 (fwrap .i64 (iAdd (16) a4))) rfl rfl rfl (fun e he => res_is (sy := (env0 NG W (sy a0 a1 a2 a3 a4 a5 a6 b7 b8 b9 b10 b11 b12)).sy) (i := 16) he rfl hm.h8) ?_
  refine ora_cons .i64 b8 .i64 a5 (.int .i64 (fwrap .i64 (iAdd b8 a5))) rfl rfl rfl (fun e he => res_is (sy := (env0 NG W (sy a0 a1 a2 a3 a4 a5 a6 b7 b8 b9 b10 b11 b12)).sy) (i := 18) he rfl hm.h9) ?_
  refine ora_cons .i64 (16) .i64 b9 (.int .i64 (fwrap .i64 (iAdd (16) b9))) rfl rfl rfl (fun e he => res_is (sy := (env0 NG W (sy a0 a1 a2 a3 a4 a5 a6 b7 b8 b9 b10 b11 b12)).sy) (i := 20) he rfl hm.h10) ?_
  refine ora_cons .i64 b9 .i64 (16) (.int .i64 (fwrap .i64 (iAdd b9 (16)))) rfl rfl rfl (fun e he => res_is (sy := (env0 NG W (sy a0 a1 a2 a3 a4 a5 a6 b7 b8 b9 b10 b11 b12)).sy) (i := 22) he rfl hm.h11) ?_
  refine ora_cons .i64 (2) .i64 b11 (.int .i64 (fwrap .i64 ((2) * b11))) rfl rfl rfl (fun e he => res_is (sy := (env0 NG W (sy a0 a1 a2 a3 a4 a5 a6 b7 b8 b9 b10 b11 b12)).sy) (i := 24) he rfl hm.h12) ?_
  refine ora_cons .i64 a0 .i64 b7 (.bool false) rfl rfl (lss_f (by omega)) (fun _ _ => rfl) ?_
  refine ora_cons .i64 a0 .i64 b7 (.bool true) rfl rfl (geq_t (by omega)) (fun _ _ => rfl) ?_
  exact ora_nil _

theorem case6 {W : World} (h : laidMetH Tryz.prog laidL W) {a0 a1 a2 a3 a4 a5 a6 b7 b8 b9 b10 b11 b12 : Int} (hw : Wf a0 a1 a2 a3 a4 a5 a6) (hm : Made a2 a4 a5 b7 b8 b9 b10 b11 b12) (g0 : (2) ≤ a2) (g1 : a2 ≤ 8) (g2 : b7 = a2 + 2) (g3 : b7 ≤ a0) (g4 : a0 ≤ 32) (g5 : (1) ≤ a4) (g6 : a4 ≤ 32) (g7 : a5 ≤ -1) :
    Calls Tryz.prog 3 #[.agg #[.int .i64 a0, .int .i64 a1, .int .i64 a2, .int .i64 a3, .int .i64 a4, .int .i64 a5, .int .i64 a6]] W fun e w' => e = .returned (.bool true) ∧ (∀ B, B < W.heap.size → w'.heap[B]? = W.heap[B]?) ∧ ∀ may, W.keptBut w' may := by
  obtain ⟨w0, w1, w2, w3, w4, w5, w6⟩ := hw
  refine top_trueg (xp_ok _ _) (xp_fns _ _) mixed (QmT _) (l := QL6) (by rw [nGlob]; exact QT6) (globs h) (by unfold QL6; exact List.mem_cons_self ..) (vs := [.agg #[.int .i64 a0, .int .i64 a1, .int .i64 a2, .int .i64 a3, .int .i64 a4, .int .i64 a5, .int .i64 a6]]) (sy a0 a1 a2 a3 a4 a5 a6 b7 b8 b9 b10 b11 b12) (ora6 hm (by omega) (by omega) (by omega) (by omega) (by omega) (by omega) (by omega) (by omega)) ?_
  exact cvs_mk (cvAgg (cvs_mk (rng_cv rfl (by omega)) (cvs_mk (rng_cv rfl (by omega)) (cvs_mk (rng_cv rfl (by omega)) (cvs_mk (rng_cv rfl (by omega)) (cvs_mk (rng_cv rfl (by omega)) (cvs_mk (rng_cv rfl (by omega)) (cvs_mk (rng_cv rfl (by omega)) rfl)))))))) rfl

theorem ora7 {NG : Nat} {W : World} {a0 a1 a2 a3 a4 a5 a6 b7 b8 b9 b10 b11 b12 : Int} (hm : Made a2 a4 a5 b7 b8 b9 b10 b11 b12) (g0 : (2) ≤ a2) (g1 : a2 ≤ 8) (g2 : b7 = a2 + 2) (g3 : b7 ≤ a0) (g4 : a0 ≤ 32) (g5 : (1) ≤ a4) (g6 : a4 ≤ 32) (g7 : (513) ≤ a5) : OraOk QO7 (env0 NG W (sy a0 a1 a2 a3 a4 a5 a6 b7 b8 b9 b10 b11 b12)).sy := by
  unfold QO7
  refine ora_cons .i64 a2 .i64 (2) (.int .i64 (fwrap .i64 (iAdd a2 (2)))) rfl rfl rfl (fun e he => res_is (sy := (env0 NG W (sy a0 a1 a2 a3 a4 a5 a6 b7 b8 b9 b10 b11 b12)).sy) (i := 14) he rfl hm.h7) ?_
  refine ora_cons .i64 (16) .i64 a4 (.int .i64 (fwrap .i64 (iAdd (16) a4))) rfl rfl rfl (fun e he => res_is (sy := (env0 NG W (sy a0 a1 a2 a3 a4 a5 a6 b7 b8 b9 b10 b11 b12)).sy) (i := 16) he rfl hm.h8) ?_
  refine ora_cons .i64 b8 .i64 a5 (.int .i64 (fwrap .i64 (iAdd b8 a5))) rfl rfl rfl (fun e he => res_is (sy := (env0 NG W (sy a0 a1 a2 a3 a4 a5 a6 b7 b8 b9 b10 b11 b12)).sy) (i := 18) he rfl hm.h9) ?_
  refine ora_cons .i64 (16) .i64 b9 (.int .i64 (fwrap .i64 (iAdd (16) b9))) rfl rfl rfl (fun e he => res_is (sy := (env0 NG W (sy a0 a1 a2 a3 a4 a5 a6 b7 b8 b9 b10 b11 b12)).sy) (i := 20) he rfl hm.h10) ?_
  refine ora_cons .i64 b9 .i64 (16) (.int .i64 (fwrap .i64 (iAdd b9 (16)))) rfl rfl rfl (fun e he => res_is (sy := (env0 NG W (sy a0 a1 a2 a3 a4 a5 a6 b7 b8 b9 b10 b11 b12)).sy) (i := 22) he rfl hm.h11) ?_
  refine ora_cons .i64 (2) .i64 b11 (.int .i64 (fwrap .i64 ((2) * b11))) rfl rfl rfl (fun e he => res_is (sy := (env0 NG W (sy a0 a1 a2 a3 a4 a5 a6 b7 b8 b9 b10 b11 b12)).sy) (i := 24) he rfl hm.h12) ?_
  refine ora_cons .i64 a0 .i64 b7 (.bool false) rfl rfl (lss_f (by omega)) (fun _ _ => rfl) ?_
  refine ora_cons .i64 a0 .i64 b7 (.bool true) rfl rfl (geq_t (by omega)) (fun _ _ => rfl) ?_
  exact ora_nil _

theorem case7 {W : World} (h : laidMetH Tryz.prog laidL W) {a0 a1 a2 a3 a4 a5 a6 b7 b8 b9 b10 b11 b12 : Int} (hw : Wf a0 a1 a2 a3 a4 a5 a6) (hm : Made a2 a4 a5 b7 b8 b9 b10 b11 b12) (g0 : (2) ≤ a2) (g1 : a2 ≤ 8) (g2 : b7 = a2 + 2) (g3 : b7 ≤ a0) (g4 : a0 ≤ 32) (g5 : (1) ≤ a4) (g6 : a4 ≤ 32) (g7 : (513) ≤ a5) :
    Calls Tryz.prog 3 #[.agg #[.int .i64 a0, .int .i64 a1, .int .i64 a2, .int .i64 a3, .int .i64 a4, .int .i64 a5, .int .i64 a6]] W fun e w' => e = .returned (.bool true) ∧ (∀ B, B < W.heap.size → w'.heap[B]? = W.heap[B]?) ∧ ∀ may, W.keptBut w' may := by
  obtain ⟨w0, w1, w2, w3, w4, w5, w6⟩ := hw
  refine top_trueg (xp_ok _ _) (xp_fns _ _) mixed (QmT _) (l := QL7) (by rw [nGlob]; exact QT7) (globs h) (by unfold QL7; exact List.mem_cons_self ..) (vs := [.agg #[.int .i64 a0, .int .i64 a1, .int .i64 a2, .int .i64 a3, .int .i64 a4, .int .i64 a5, .int .i64 a6]]) (sy a0 a1 a2 a3 a4 a5 a6 b7 b8 b9 b10 b11 b12) (ora7 hm (by omega) (by omega) (by omega) (by omega) (by omega) (by omega) (by omega) (by omega)) ?_
  exact cvs_mk (cvAgg (cvs_mk (rng_cv rfl (by omega)) (cvs_mk (rng_cv rfl (by omega)) (cvs_mk (rng_cv rfl (by omega)) (cvs_mk (rng_cv rfl (by omega)) (cvs_mk (rng_cv rfl (by omega)) (cvs_mk (rng_cv rfl (by omega)) (cvs_mk (rng_cv rfl (by omega)) rfl)))))))) rfl

theorem ora8 {NG : Nat} {W : World} {a0 a1 a2 a3 a4 a5 a6 b7 b8 b9 b10 b11 b12 : Int} (hm : Made a2 a4 a5 b7 b8 b9 b10 b11 b12) (g0 : (2) ≤ a2) (g1 : a2 ≤ 8) (g2 : b7 = a2 + 2) (g3 : b7 ≤ a0) (g4 : a0 ≤ 32) (g5 : (1) ≤ a4) (g6 : a4 ≤ 32) (g7 : (0) ≤ a5) (g8 : a5 ≤ 512) (g9 : b10 = a4 + a5 + 32) (g10 : b12 = 2 * a4 + 2 * a5 + 64) (g11 : a1 < b10) : OraOk QO8 (env0 NG W (sy a0 a1 a2 a3 a4 a5 a6 b7 b8 b9 b10 b11 b12)).sy := by
  unfold QO8
  refine ora_cons .i64 a2 .i64 (2) (.int .i64 (fwrap .i64 (iAdd a2 (2)))) rfl rfl rfl (fun e he => res_is (sy := (env0 NG W (sy a0 a1 a2 a3 a4 a5 a6 b7 b8 b9 b10 b11 b12)).sy) (i := 14) he rfl hm.h7) ?_
  refine ora_cons .i64 (16) .i64 a4 (.int .i64 (fwrap .i64 (iAdd (16) a4))) rfl rfl rfl (fun e he => res_is (sy := (env0 NG W (sy a0 a1 a2 a3 a4 a5 a6 b7 b8 b9 b10 b11 b12)).sy) (i := 16) he rfl hm.h8) ?_
  refine ora_cons .i64 b8 .i64 a5 (.int .i64 (fwrap .i64 (iAdd b8 a5))) rfl rfl rfl (fun e he => res_is (sy := (env0 NG W (sy a0 a1 a2 a3 a4 a5 a6 b7 b8 b9 b10 b11 b12)).sy) (i := 18) he rfl hm.h9) ?_
  refine ora_cons .i64 (16) .i64 b9 (.int .i64 (fwrap .i64 (iAdd (16) b9))) rfl rfl rfl (fun e he => res_is (sy := (env0 NG W (sy a0 a1 a2 a3 a4 a5 a6 b7 b8 b9 b10 b11 b12)).sy) (i := 20) he rfl hm.h10) ?_
  refine ora_cons .i64 b9 .i64 (16) (.int .i64 (fwrap .i64 (iAdd b9 (16)))) rfl rfl rfl (fun e he => res_is (sy := (env0 NG W (sy a0 a1 a2 a3 a4 a5 a6 b7 b8 b9 b10 b11 b12)).sy) (i := 22) he rfl hm.h11) ?_
  refine ora_cons .i64 (2) .i64 b11 (.int .i64 (fwrap .i64 ((2) * b11))) rfl rfl rfl (fun e he => res_is (sy := (env0 NG W (sy a0 a1 a2 a3 a4 a5 a6 b7 b8 b9 b10 b11 b12)).sy) (i := 24) he rfl hm.h12) ?_
  refine ora_cons .i64 a0 .i64 b7 (.bool false) rfl rfl (lss_f (by omega)) (fun _ _ => rfl) ?_
  refine ora_cons .i64 a1 .i64 b10 (.bool true) rfl rfl (lss_t (by omega)) (fun _ _ => rfl) ?_
  refine ora_cons .i64 a0 .i64 b7 (.bool true) rfl rfl (geq_t (by omega)) (fun _ _ => rfl) ?_
  refine ora_cons .i64 a1 .i64 b10 (.bool false) rfl rfl (geq_f (by omega)) (fun _ _ => rfl) ?_
  exact ora_nil _

theorem case8 {W : World} (h : laidMetH Tryz.prog laidL W) {a0 a1 a2 a3 a4 a5 a6 b7 b8 b9 b10 b11 b12 : Int} (hw : Wf a0 a1 a2 a3 a4 a5 a6) (hm : Made a2 a4 a5 b7 b8 b9 b10 b11 b12) (g0 : (2) ≤ a2) (g1 : a2 ≤ 8) (g2 : b7 = a2 + 2) (g3 : b7 ≤ a0) (g4 : a0 ≤ 32) (g5 : (1) ≤ a4) (g6 : a4 ≤ 32) (g7 : (0) ≤ a5) (g8 : a5 ≤ 512) (g9 : b10 = a4 + a5 + 32) (g10 : b12 = 2 * a4 + 2 * a5 + 64) (g11 : a1 < b10) :
    Calls Tryz.prog 3 #[.agg #[.int .i64 a0, .int .i64 a1, .int .i64 a2, .int .i64 a3, .int .i64 a4, .int .i64 a5, .int .i64 a6]] W fun e w' => e = .returned (.bool true) ∧ (∀ B, B < W.heap.size → w'.heap[B]? = W.heap[B]?) ∧ ∀ may, W.keptBut w' may := by
  obtain ⟨w0, w1, w2, w3, w4, w5, w6⟩ := hw
  refine top_trueg (xp_ok _ _) (xp_fns _ _) mixed (QmT _) (l := QL8) (by rw [nGlob]; exact QT8) (globs h) (by unfold QL8; exact List.mem_cons_self ..) (vs := [.agg #[.int .i64 a0, .int .i64 a1, .int .i64 a2, .int .i64 a3, .int .i64 a4, .int .i64 a5, .int .i64 a6]]) (sy a0 a1 a2 a3 a4 a5 a6 b7 b8 b9 b10 b11 b12) (ora8 hm (by omega) (by omega) (by omega) (by omega) (by omega) (by omega) (by omega) (by omega) (by omega) (by omega) (by omega) (by omega)) ?_
  exact cvs_mk (cvAgg (cvs_mk (rng_cv rfl (by omega)) (cvs_mk (rng_cv rfl (by omega)) (cvs_mk (rng_cv rfl (by omega)) (cvs_mk (rng_cv rfl (by omega)) (cvs_mk (rng_cv rfl (by omega)) (cvs_mk (rng_cv rfl (by omega)) (cvs_mk (rng_cv rfl (by omega)) rfl)))))))) rfl

theorem ora9 {NG : Nat} {W : World} {a0 a1 a2 a3 a4 a5 a6 b7 b8 b9 b10 b11 b12 : Int} (hm : Made a2 a4 a5 b7 b8 b9 b10 b11 b12) (g0 : (2) ≤ a2) (g1 : a2 ≤ 8) (g2 : b7 = a2 + 2) (g3 : b7 ≤ a0) (g4 : a0 ≤ 32) (g5 : (1) ≤ a4) (g6 : a4 ≤ 32) (g7 : (0) ≤ a5) (g8 : a5 ≤ 512) (g9 : b10 = a4 + a5 + 32) (g10 : b12 = 2 * a4 + 2 * a5 + 64) (g11 : (8193) ≤ a1) : OraOk QO9 (env0 NG W (sy a0 a1 a2 a3 a4 a5 a6 b7 b8 b9 b10 b11 b12)).sy := by
  unfold QO9
  refine ora_cons .i64 a2 .i64 (2) (.int .i64 (fwrap .i64 (iAdd a2 (2)))) rfl rfl rfl (fun e he => res_is (sy := (env0 NG W (sy a0 a1 a2 a3 a4 a5 a6 b7 b8 b9 b10 b11 b12)).sy) (i := 14) he rfl hm.h7) ?_
  refine ora_cons .i64 (16) .i64 a4 (.int .i64 (fwrap .i64 (iAdd (16) a4))) rfl rfl rfl (fun e he => res_is (sy := (env0 NG W (sy a0 a1 a2 a3 a4 a5 a6 b7 b8 b9 b10 b11 b12)).sy) (i := 16) he rfl hm.h8) ?_
  refine ora_cons .i64 b8 .i64 a5 (.int .i64 (fwrap .i64 (iAdd b8 a5))) rfl rfl rfl (fun e he => res_is (sy := (env0 NG W (sy a0 a1 a2 a3 a4 a5 a6 b7 b8 b9 b10 b11 b12)).sy) (i := 18) he rfl hm.h9) ?_
  refine ora_cons .i64 (16) .i64 b9 (.int .i64 (fwrap .i64 (iAdd (16) b9))) rfl rfl rfl (fun e he => res_is (sy := (env0 NG W (sy a0 a1 a2 a3 a4 a5 a6 b7 b8 b9 b10 b11 b12)).sy) (i := 20) he rfl hm.h10) ?_
  refine ora_cons .i64 b9 .i64 (16) (.int .i64 (fwrap .i64 (iAdd b9 (16)))) rfl rfl rfl (fun e he => res_is (sy := (env0 NG W (sy a0 a1 a2 a3 a4 a5 a6 b7 b8 b9 b10 b11 b12)).sy) (i := 22) he rfl hm.h11) ?_
  refine ora_cons .i64 (2) .i64 b11 (.int .i64 (fwrap .i64 ((2) * b11))) rfl rfl rfl (fun e he => res_is (sy := (env0 NG W (sy a0 a1 a2 a3 a4 a5 a6 b7 b8 b9 b10 b11 b12)).sy) (i := 24) he rfl hm.h12) ?_
  refine ora_cons .i64 a0 .i64 b7 (.bool false) rfl rfl (lss_f (by omega)) (fun _ _ => rfl) ?_
  refine ora_cons .i64 a1 .i64 b10 (.bool false) rfl rfl (lss_f (by omega)) (fun _ _ => rfl) ?_
  refine ora_cons .i64 a0 .i64 b7 (.bool true) rfl rfl (geq_t (by omega)) (fun _ _ => rfl) ?_
  refine ora_cons .i64 a1 .i64 b10 (.bool true) rfl rfl (geq_t (by omega)) (fun _ _ => rfl) ?_
  exact ora_nil _

theorem case9 {W : World} (h : laidMetH Tryz.prog laidL W) {a0 a1 a2 a3 a4 a5 a6 b7 b8 b9 b10 b11 b12 : Int} (hw : Wf a0 a1 a2 a3 a4 a5 a6) (hm : Made a2 a4 a5 b7 b8 b9 b10 b11 b12) (g0 : (2) ≤ a2) (g1 : a2 ≤ 8) (g2 : b7 = a2 + 2) (g3 : b7 ≤ a0) (g4 : a0 ≤ 32) (g5 : (1) ≤ a4) (g6 : a4 ≤ 32) (g7 : (0) ≤ a5) (g8 : a5 ≤ 512) (g9 : b10 = a4 + a5 + 32) (g10 : b12 = 2 * a4 + 2 * a5 + 64) (g11 : (8193) ≤ a1) :
    Calls Tryz.prog 3 #[.agg #[.int .i64 a0, .int .i64 a1, .int .i64 a2, .int .i64 a3, .int .i64 a4, .int .i64 a5, .int .i64 a6]] W fun e w' => e = .returned (.bool true) ∧ (∀ B, B < W.heap.size → w'.heap[B]? = W.heap[B]?) ∧ ∀ may, W.keptBut w' may := by
  obtain ⟨w0, w1, w2, w3, w4, w5, w6⟩ := hw
  refine top_trueg (xp_ok _ _) (xp_fns _ _) mixed (QmT _) (l := QL9) (by rw [nGlob]; exact QT9) (globs h) (by unfold QL9; exact List.mem_cons_self ..) (vs := [.agg #[.int .i64 a0, .int .i64 a1, .int .i64 a2, .int .i64 a3, .int .i64 a4, .int .i64 a5, .int .i64 a6]]) (sy a0 a1 a2 a3 a4 a5 a6 b7 b8 b9 b10 b11 b12) (ora9 hm (by omega) (by omega) (by omega) (by omega) (by omega) (by omega) (by omega) (by omega) (by omega) (by omega) (by omega) (by omega)) ?_
  exact cvs_mk (cvAgg (cvs_mk (rng_cv rfl (by omega)) (cvs_mk (rng_cv rfl (by omega)) (cvs_mk (rng_cv rfl (by omega)) (cvs_mk (rng_cv rfl (by omega)) (cvs_mk (rng_cv rfl (by omega)) (cvs_mk (rng_cv rfl (by omega)) (cvs_mk (rng_cv rfl (by omega)) rfl)))))))) rfl

theorem ora10 {NG : Nat} {W : World} {a0 a1 a2 a3 a4 a5 a6 b7 b8 b9 b10 b11 b12 : Int} (hm : Made a2 a4 a5 b7 b8 b9 b10 b11 b12) (g0 : (2) ≤ a2) (g1 : a2 ≤ 8) (g2 : b7 = a2 + 2) (g3 : b7 ≤ a0) (g4 : a0 ≤ 32) (g5 : (1) ≤ a4) (g6 : a4 ≤ 32) (g7 : (0) ≤ a5) (g8 : a5 ≤ 512) (g9 : b10 = a4 + a5 + 32) (g10 : b12 = 2 * a4 + 2 * a5 + 64) (g11 : b10 ≤ a1) (g12 : a1 ≤ 8192) (g13 : a3 < b12) : OraOk QO10 (env0 NG W (sy a0 a1 a2 a3 a4 a5 a6 b7 b8 b9 b10 b11 b12)).sy := by
  unfold QO10
  refine ora_cons .i64 a2 .i64 (2) (.int .i64 (fwrap .i64 (iAdd a2 (2)))) rfl rfl rfl (fun e he => res_is (sy := (env0 NG W (sy a0 a1 a2 a3 a4 a5 a6 b7 b8 b9 b10 b11 b12)).sy) (i := 14) he rfl hm.h7) ?_
  refine ora_cons .i64 (16) .i64 a4 (.int .i64 (fwrap .i64 (iAdd (16) a4))) rfl rfl rfl (fun e he => res_is (sy := (env0 NG W (sy a0 a1 a2 a3 a4 a5 a6 b7 b8 b9 b10 b11 b12)).sy) (i := 16) he rfl hm.h8) ?_
  refine ora_cons .i64 b8 .i64 a5 (.int .i64 (fwrap .i64 (iAdd b8 a5))) rfl rfl rfl (fun e he => res_is (sy := (env0 NG W (sy a0 a1 a2 a3 a4 a5 a6 b7 b8 b9 b10 b11 b12)).sy) (i := 18) he rfl hm.h9) ?_
  refine ora_cons .i64 (16) .i64 b9 (.int .i64 (fwrap .i64 (iAdd (16) b9))) rfl rfl rfl (fun e he => res_is (sy := (env0 NG W (sy a0 a1 a2 a3 a4 a5 a6 b7 b8 b9 b10 b11 b12)).sy) (i := 20) he rfl hm.h10) ?_
  refine ora_cons .i64 b9 .i64 (16) (.int .i64 (fwrap .i64 (iAdd b9 (16)))) rfl rfl rfl (fun e he => res_is (sy := (env0 NG W (sy a0 a1 a2 a3 a4 a5 a6 b7 b8 b9 b10 b11 b12)).sy) (i := 22) he rfl hm.h11) ?_
  refine ora_cons .i64 (2) .i64 b11 (.int .i64 (fwrap .i64 ((2) * b11))) rfl rfl rfl (fun e he => res_is (sy := (env0 NG W (sy a0 a1 a2 a3 a4 a5 a6 b7 b8 b9 b10 b11 b12)).sy) (i := 24) he rfl hm.h12) ?_
  refine ora_cons .i64 a0 .i64 b7 (.bool false) rfl rfl (lss_f (by omega)) (fun _ _ => rfl) ?_
  refine ora_cons .i64 a1 .i64 b10 (.bool false) rfl rfl (lss_f (by omega)) (fun _ _ => rfl) ?_
  refine ora_cons .i64 a3 .i64 b12 (.bool true) rfl rfl (lss_t (by omega)) (fun _ _ => rfl) ?_
  refine ora_cons .i64 a0 .i64 b7 (.bool true) rfl rfl (geq_t (by omega)) (fun _ _ => rfl) ?_
  refine ora_cons .i64 a1 .i64 b10 (.bool true) rfl rfl (geq_t (by omega)) (fun _ _ => rfl) ?_
  refine ora_cons .i64 a3 .i64 b12 (.bool false) rfl rfl (geq_f (by omega)) (fun _ _ => rfl) ?_
  exact ora_nil _

theorem case10 {W : World} (h : laidMetH Tryz.prog laidL W) {a0 a1 a2 a3 a4 a5 a6 b7 b8 b9 b10 b11 b12 : Int} (hw : Wf a0 a1 a2 a3 a4 a5 a6) (hm : Made a2 a4 a5 b7 b8 b9 b10 b11 b12) (g0 : (2) ≤ a2) (g1 : a2 ≤ 8) (g2 : b7 = a2 + 2) (g3 : b7 ≤ a0) (g4 : a0 ≤ 32) (g5 : (1) ≤ a4) (g6 : a4 ≤ 32) (g7 : (0) ≤ a5) (g8 : a5 ≤ 512) (g9 : b10 = a4 + a5 + 32) (g10 : b12 = 2 * a4 + 2 * a5 + 64) (g11 : b10 ≤ a1) (g12 : a1 ≤ 8192) (g13 : a3 < b12) :
    Calls Tryz.prog 3 #[.agg #[.int .i64 a0, .int .i64 a1, .int .i64 a2, .int .i64 a3, .int .i64 a4, .int .i64 a5, .int .i64 a6]] W fun e w' => e = .returned (.bool true) ∧ (∀ B, B < W.heap.size → w'.heap[B]? = W.heap[B]?) ∧ ∀ may, W.keptBut w' may := by
  obtain ⟨w0, w1, w2, w3, w4, w5, w6⟩ := hw
  refine top_trueg (xp_ok _ _) (xp_fns _ _) mixed (QmT _) (l := QL10) (by rw [nGlob]; exact QT10) (globs h) (by unfold QL10; exact List.mem_cons_self ..) (vs := [.agg #[.int .i64 a0, .int .i64 a1, .int .i64 a2, .int .i64 a3, .int .i64 a4, .int .i64 a5, .int .i64 a6]]) (sy a0 a1 a2 a3 a4 a5 a6 b7 b8 b9 b10 b11 b12) (ora10 hm (by omega) (by omega) (by omega) (by omega) (by omega) (by omega) (by omega) (by omega) (by omega) (by omega) (by omega) (by omega) (by omega) (by omega)) ?_
  exact cvs_mk (cvAgg (cvs_mk (rng_cv rfl (by omega)) (cvs_mk (rng_cv rfl (by omega)) (cvs_mk (rng_cv rfl (by omega)) (cvs_mk (rng_cv rfl (by omega)) (cvs_mk (rng_cv rfl (by omega)) (cvs_mk (rng_cv rfl (by omega)) (cvs_mk (rng_cv rfl (by omega)) rfl)))))))) rfl

theorem ora11 {NG : Nat} {W : World} {a0 a1 a2 a3 a4 a5 a6 b7 b8 b9 b10 b11 b12 : Int} (hm : Made a2 a4 a5 b7 b8 b9 b10 b11 b12) (g0 : (2) ≤ a2) (g1 : a2 ≤ 8) (g2 : b7 = a2 + 2) (g3 : b7 ≤ a0) (g4 : a0 ≤ 32) (g5 : (1) ≤ a4) (g6 : a4 ≤ 32) (g7 : (0) ≤ a5) (g8 : a5 ≤ 512) (g9 : b10 = a4 + a5 + 32) (g10 : b12 = 2 * a4 + 2 * a5 + 64) (g11 : b10 ≤ a1) (g12 : a1 ≤ 8192) (g13 : (65537) ≤ a3) : OraOk QO11 (env0 NG W (sy a0 a1 a2 a3 a4 a5 a6 b7 b8 b9 b10 b11 b12)).sy := by
  unfold QO11
  refine ora_cons .i64 a2 .i64 (2) (.int .i64 (fwrap .i64 (iAdd a2 (2)))) rfl rfl rfl (fun e he => res_is (sy := (env0 NG W (sy a0 a1 a2 a3 a4 a5 a6 b7 b8 b9 b10 b11 b12)).sy) (i := 14) he rfl hm.h7) ?_
  refine ora_cons .i64 (16) .i64 a4 (.int .i64 (fwrap .i64 (iAdd (16) a4))) rfl rfl rfl (fun e he => res_is (sy := (env0 NG W (sy a0 a1 a2 a3 a4 a5 a6 b7 b8 b9 b10 b11 b12)).sy) (i := 16) he rfl hm.h8) ?_
  refine ora_cons .i64 b8 .i64 a5 (.int .i64 (fwrap .i64 (iAdd b8 a5))) rfl rfl rfl (fun e he => res_is (sy := (env0 NG W (sy a0 a1 a2 a3 a4 a5 a6 b7 b8 b9 b10 b11 b12)).sy) (i := 18) he rfl hm.h9) ?_
  refine ora_cons .i64 (16) .i64 b9 (.int .i64 (fwrap .i64 (iAdd (16) b9))) rfl rfl rfl (fun e he => res_is (sy := (env0 NG W (sy a0 a1 a2 a3 a4 a5 a6 b7 b8 b9 b10 b11 b12)).sy) (i := 20) he rfl hm.h10) ?_
  refine ora_cons .i64 b9 .i64 (16) (.int .i64 (fwrap .i64 (iAdd b9 (16)))) rfl rfl rfl (fun e he => res_is (sy := (env0 NG W (sy a0 a1 a2 a3 a4 a5 a6 b7 b8 b9 b10 b11 b12)).sy) (i := 22) he rfl hm.h11) ?_
  refine ora_cons .i64 (2) .i64 b11 (.int .i64 (fwrap .i64 ((2) * b11))) rfl rfl rfl (fun e he => res_is (sy := (env0 NG W (sy a0 a1 a2 a3 a4 a5 a6 b7 b8 b9 b10 b11 b12)).sy) (i := 24) he rfl hm.h12) ?_
  refine ora_cons .i64 a0 .i64 b7 (.bool false) rfl rfl (lss_f (by omega)) (fun _ _ => rfl) ?_
  refine ora_cons .i64 a1 .i64 b10 (.bool false) rfl rfl (lss_f (by omega)) (fun _ _ => rfl) ?_
  refine ora_cons .i64 a3 .i64 b12 (.bool false) rfl rfl (lss_f (by omega)) (fun _ _ => rfl) ?_
  refine ora_cons .i64 a0 .i64 b7 (.bool true) rfl rfl (geq_t (by omega)) (fun _ _ => rfl) ?_
  refine ora_cons .i64 a1 .i64 b10 (.bool true) rfl rfl (geq_t (by omega)) (fun _ _ => rfl) ?_
  refine ora_cons .i64 a3 .i64 b12 (.bool true) rfl rfl (geq_t (by omega)) (fun _ _ => rfl) ?_
  exact ora_nil _

theorem case11 {W : World} (h : laidMetH Tryz.prog laidL W) {a0 a1 a2 a3 a4 a5 a6 b7 b8 b9 b10 b11 b12 : Int} (hw : Wf a0 a1 a2 a3 a4 a5 a6) (hm : Made a2 a4 a5 b7 b8 b9 b10 b11 b12) (g0 : (2) ≤ a2) (g1 : a2 ≤ 8) (g2 : b7 = a2 + 2) (g3 : b7 ≤ a0) (g4 : a0 ≤ 32) (g5 : (1) ≤ a4) (g6 : a4 ≤ 32) (g7 : (0) ≤ a5) (g8 : a5 ≤ 512) (g9 : b10 = a4 + a5 + 32) (g10 : b12 = 2 * a4 + 2 * a5 + 64) (g11 : b10 ≤ a1) (g12 : a1 ≤ 8192) (g13 : (65537) ≤ a3) :
    Calls Tryz.prog 3 #[.agg #[.int .i64 a0, .int .i64 a1, .int .i64 a2, .int .i64 a3, .int .i64 a4, .int .i64 a5, .int .i64 a6]] W fun e w' => e = .returned (.bool true) ∧ (∀ B, B < W.heap.size → w'.heap[B]? = W.heap[B]?) ∧ ∀ may, W.keptBut w' may := by
  obtain ⟨w0, w1, w2, w3, w4, w5, w6⟩ := hw
  refine top_trueg (xp_ok _ _) (xp_fns _ _) mixed (QmT _) (l := QL11) (by rw [nGlob]; exact QT11) (globs h) (by unfold QL11; exact List.mem_cons_self ..) (vs := [.agg #[.int .i64 a0, .int .i64 a1, .int .i64 a2, .int .i64 a3, .int .i64 a4, .int .i64 a5, .int .i64 a6]]) (sy a0 a1 a2 a3 a4 a5 a6 b7 b8 b9 b10 b11 b12) (ora11 hm (by omega) (by omega) (by omega) (by omega) (by omega) (by omega) (by omega) (by omega) (by omega) (by omega) (by omega) (by omega) (by omega) (by omega)) ?_
  exact cvs_mk (cvAgg (cvs_mk (rng_cv rfl (by omega)) (cvs_mk (rng_cv rfl (by omega)) (cvs_mk (rng_cv rfl (by omega)) (cvs_mk (rng_cv rfl (by omega)) (cvs_mk (rng_cv rfl (by omega)) (cvs_mk (rng_cv rfl (by omega)) (cvs_mk (rng_cv rfl (by omega)) rfl)))))))) rfl

theorem ora12 {NG : Nat} {W : World} {a0 a1 a2 a3 a4 a5 a6 b7 b8 b9 b10 b11 b12 : Int} (hm : Made a2 a4 a5 b7 b8 b9 b10 b11 b12) (g0 : (2) ≤ a2) (g1 : a2 ≤ 8) (g2 : b7 = a2 + 2) (g3 : b7 ≤ a0) (g4 : a0 ≤ 32) (g5 : (1) ≤ a4) (g6 : a4 ≤ 32) (g7 : (0) ≤ a5) (g8 : a5 ≤ 512) (g9 : b10 = a4 + a5 + 32) (g10 : b12 = 2 * a4 + 2 * a5 + 64) (g11 : b10 ≤ a1) (g12 : a1 ≤ 8192) (g13 : b12 ≤ a3) (g14 : a3 ≤ 65536) (g15 : a6 ≤ 0) : OraOk QO12 (env0 NG W (sy a0 a1 a2 a3 a4 a5 a6 b7 b8 b9 b10 b11 b12)).sy := by
  unfold QO12
  refine ora_cons .i64 a2 .i64 (2) (.int .i64 (fwrap .i64 (iAdd a2 (2)))) rfl rfl rfl (fun e he => res_is (sy := (env0 NG W (sy a0 a1 a2 a3 a4 a5 a6 b7 b8 b9 b10 b11 b12)).sy) (i := 14) he rfl hm.h7) ?_
  refine ora_cons .i64 (16) .i64 a4 (.int .i64 (fwrap .i64 (iAdd (16) a4))) rfl rfl rfl (fun e he => res_is (sy := (env0 NG W (sy a0 a1 a2 a3 a4 a5 a6 b7 b8 b9 b10 b11 b12)).sy) (i := 16) he rfl hm.h8) ?_
  refine ora_cons .i64 b8 .i64 a5 (.int .i64 (fwrap .i64 (iAdd b8 a5))) rfl rfl rfl (fun e he => res_is (sy := (env0 NG W (sy a0 a1 a2 a3 a4 a5 a6 b7 b8 b9 b10 b11 b12)).sy) (i := 18) he rfl hm.h9) ?_
  refine ora_cons .i64 (16) .i64 b9 (.int .i64 (fwrap .i64 (iAdd (16) b9))) rfl rfl rfl (fun e he => res_is (sy := (env0 NG W (sy a0 a1 a2 a3 a4 a5 a6 b7 b8 b9 b10 b11 b12)).sy) (i := 20) he rfl hm.h10) ?_
  refine ora_cons .i64 b9 .i64 (16) (.int .i64 (fwrap .i64 (iAdd b9 (16)))) rfl rfl rfl (fun e he => res_is (sy := (env0 NG W (sy a0 a1 a2 a3 a4 a5 a6 b7 b8 b9 b10 b11 b12)).sy) (i := 22) he rfl hm.h11) ?_
  refine ora_cons .i64 (2) .i64 b11 (.int .i64 (fwrap .i64 ((2) * b11))) rfl rfl rfl (fun e he => res_is (sy := (env0 NG W (sy a0 a1 a2 a3 a4 a5 a6 b7 b8 b9 b10 b11 b12)).sy) (i := 24) he rfl hm.h12) ?_
  refine ora_cons .i64 a0 .i64 b7 (.bool false) rfl rfl (lss_f (by omega)) (fun _ _ => rfl) ?_
  refine ora_cons .i64 a1 .i64 b10 (.bool false) rfl rfl (lss_f (by omega)) (fun _ _ => rfl) ?_
  refine ora_cons .i64 a3 .i64 b12 (.bool false) rfl rfl (lss_f (by omega)) (fun _ _ => rfl) ?_
  refine ora_cons .i64 a0 .i64 b7 (.bool true) rfl rfl (geq_t (by omega)) (fun _ _ => rfl) ?_
  refine ora_cons .i64 a1 .i64 b10 (.bool true) rfl rfl (geq_t (by omega)) (fun _ _ => rfl) ?_
  refine ora_cons .i64 a3 .i64 b12 (.bool true) rfl rfl (geq_t (by omega)) (fun _ _ => rfl) ?_
  exact ora_nil _

theorem case12 {W : World} (h : laidMetH Tryz.prog laidL W) {a0 a1 a2 a3 a4 a5 a6 b7 b8 b9 b10 b11 b12 : Int} (hw : Wf a0 a1 a2 a3 a4 a5 a6) (hm : Made a2 a4 a5 b7 b8 b9 b10 b11 b12) (g0 : (2) ≤ a2) (g1 : a2 ≤ 8) (g2 : b7 = a2 + 2) (g3 : b7 ≤ a0) (g4 : a0 ≤ 32) (g5 : (1) ≤ a4) (g6 : a4 ≤ 32) (g7 : (0) ≤ a5) (g8 : a5 ≤ 512) (g9 : b10 = a4 + a5 + 32) (g10 : b12 = 2 * a4 + 2 * a5 + 64) (g11 : b10 ≤ a1) (g12 : a1 ≤ 8192) (g13 : b12 ≤ a3) (g14 : a3 ≤ 65536) (g15 : a6 ≤ 0) :
    Calls Tryz.prog 3 #[.agg #[.int .i64 a0, .int .i64 a1, .int .i64 a2, .int .i64 a3, .int .i64 a4, .int .i64 a5, .int .i64 a6]] W fun e w' => e = .returned (.bool true) ∧ (∀ B, B < W.heap.size → w'.heap[B]? = W.heap[B]?) ∧ ∀ may, W.keptBut w' may := by
  obtain ⟨w0, w1, w2, w3, w4, w5, w6⟩ := hw
  refine top_trueg (xp_ok _ _) (xp_fns _ _) mixed (QmT _) (l := QL12) (by rw [nGlob]; exact QT12) (globs h) (by unfold QL12; exact List.mem_cons_self ..) (vs := [.agg #[.int .i64 a0, .int .i64 a1, .int .i64 a2, .int .i64 a3, .int .i64 a4, .int .i64 a5, .int .i64 a6]]) (sy a0 a1 a2 a3 a4 a5 a6 b7 b8 b9 b10 b11 b12) (ora12 hm (by omega) (by omega) (by omega) (by omega) (by omega) (by omega) (by omega) (by omega) (by omega) (by omega) (by omega) (by omega) (by omega) (by omega) (by omega) (by omega)) ?_
  exact cvs_mk (cvAgg (cvs_mk (rng_cv rfl (by omega)) (cvs_mk (rng_cv rfl (by omega)) (cvs_mk (rng_cv rfl (by omega)) (cvs_mk (rng_cv rfl (by omega)) (cvs_mk (rng_cv rfl (by omega)) (cvs_mk (rng_cv rfl (by omega)) (cvs_mk (rng_cv rfl (by omega)) rfl)))))))) rfl

theorem ora13 {NG : Nat} {W : World} {a0 a1 a2 a3 a4 a5 a6 b7 b8 b9 b10 b11 b12 : Int} (hm : Made a2 a4 a5 b7 b8 b9 b10 b11 b12) (g0 : (2) ≤ a2) (g1 : a2 ≤ 8) (g2 : b7 = a2 + 2) (g3 : b7 ≤ a0) (g4 : a0 ≤ 32) (g5 : (1) ≤ a4) (g6 : a4 ≤ 32) (g7 : (0) ≤ a5) (g8 : a5 ≤ 512) (g9 : b10 = a4 + a5 + 32) (g10 : b12 = 2 * a4 + 2 * a5 + 64) (g11 : b10 ≤ a1) (g12 : a1 ≤ 8192) (g13 : b12 ≤ a3) (g14 : a3 ≤ 65536) (g15 : (3) ≤ a6) : OraOk QO13 (env0 NG W (sy a0 a1 a2 a3 a4 a5 a6 b7 b8 b9 b10 b11 b12)).sy := by
  unfold QO13
  refine ora_cons .i64 a2 .i64 (2) (.int .i64 (fwrap .i64 (iAdd a2 (2)))) rfl rfl rfl (fun e he => res_is (sy := (env0 NG W (sy a0 a1 a2 a3 a4 a5 a6 b7 b8 b9 b10 b11 b12)).sy) (i := 14) he rfl hm.h7) ?_
  refine ora_cons .i64 (16) .i64 a4 (.int .i64 (fwrap .i64 (iAdd (16) a4))) rfl rfl rfl (fun e he => res_is (sy := (env0 NG W (sy a0 a1 a2 a3 a4 a5 a6 b7 b8 b9 b10 b11 b12)).sy) (i := 16) he rfl hm.h8) ?_
  refine ora_cons .i64 b8 .i64 a5 (.int .i64 (fwrap .i64 (iAdd b8 a5))) rfl rfl rfl (fun e he => res_is (sy := (env0 NG W (sy a0 a1 a2 a3 a4 a5 a6 b7 b8 b9 b10 b11 b12)).sy) (i := 18) he rfl hm.h9) ?_
  refine ora_cons .i64 (16) .i64 b9 (.int .i64 (fwrap .i64 (iAdd (16) b9))) rfl rfl rfl (fun e he => res_is (sy := (env0 NG W (sy a0 a1 a2 a3 a4 a5 a6 b7 b8 b9 b10 b11 b12)).sy) (i := 20) he rfl hm.h10) ?_
  refine ora_cons .i64 b9 .i64 (16) (.int .i64 (fwrap .i64 (iAdd b9 (16)))) rfl rfl rfl (fun e he => res_is (sy := (env0 NG W (sy a0 a1 a2 a3 a4 a5 a6 b7 b8 b9 b10 b11 b12)).sy) (i := 22) he rfl hm.h11) ?_
  refine ora_cons .i64 (2) .i64 b11 (.int .i64 (fwrap .i64 ((2) * b11))) rfl rfl rfl (fun e he => res_is (sy := (env0 NG W (sy a0 a1 a2 a3 a4 a5 a6 b7 b8 b9 b10 b11 b12)).sy) (i := 24) he rfl hm.h12) ?_
  refine ora_cons .i64 a0 .i64 b7 (.bool false) rfl rfl (lss_f (by omega)) (fun _ _ => rfl) ?_
  refine ora_cons .i64 a1 .i64 b10 (.bool false) rfl rfl (lss_f (by omega)) (fun _ _ => rfl) ?_
  refine ora_cons .i64 a3 .i64 b12 (.bool false) rfl rfl (lss_f (by omega)) (fun _ _ => rfl) ?_
  refine ora_cons .i64 a0 .i64 b7 (.bool true) rfl rfl (geq_t (by omega)) (fun _ _ => rfl) ?_
  refine ora_cons .i64 a1 .i64 b10 (.bool true) rfl rfl (geq_t (by omega)) (fun _ _ => rfl) ?_
  refine ora_cons .i64 a3 .i64 b12 (.bool true) rfl rfl (geq_t (by omega)) (fun _ _ => rfl) ?_
  exact ora_nil _

theorem case13 {W : World} (h : laidMetH Tryz.prog laidL W) {a0 a1 a2 a3 a4 a5 a6 b7 b8 b9 b10 b11 b12 : Int} (hw : Wf a0 a1 a2 a3 a4 a5 a6) (hm : Made a2 a4 a5 b7 b8 b9 b10 b11 b12) (g0 : (2) ≤ a2) (g1 : a2 ≤ 8) (g2 : b7 = a2 + 2) (g3 : b7 ≤ a0) (g4 : a0 ≤ 32) (g5 : (1) ≤ a4) (g6 : a4 ≤ 32) (g7 : (0) ≤ a5) (g8 : a5 ≤ 512) (g9 : b10 = a4 + a5 + 32) (g10 : b12 = 2 * a4 + 2 * a5 + 64) (g11 : b10 ≤ a1) (g12 : a1 ≤ 8192) (g13 : b12 ≤ a3) (g14 : a3 ≤ 65536) (g15 : (3) ≤ a6) :
    Calls Tryz.prog 3 #[.agg #[.int .i64 a0, .int .i64 a1, .int .i64 a2, .int .i64 a3, .int .i64 a4, .int .i64 a5, .int .i64 a6]] W fun e w' => e = .returned (.bool true) ∧ (∀ B, B < W.heap.size → w'.heap[B]? = W.heap[B]?) ∧ ∀ may, W.keptBut w' may := by
  obtain ⟨w0, w1, w2, w3, w4, w5, w6⟩ := hw
  refine top_trueg (xp_ok _ _) (xp_fns _ _) mixed (QmT _) (l := QL13) (by rw [nGlob]; exact QT13) (globs h) (by unfold QL13; exact List.mem_cons_self ..) (vs := [.agg #[.int .i64 a0, .int .i64 a1, .int .i64 a2, .int .i64 a3, .int .i64 a4, .int .i64 a5, .int .i64 a6]]) (sy a0 a1 a2 a3 a4 a5 a6 b7 b8 b9 b10 b11 b12) (ora13 hm (by omega) (by omega) (by omega) (by omega) (by omega) (by omega) (by omega) (by omega) (by omega) (by omega) (by omega) (by omega) (by omega) (by omega) (by omega) (by omega)) ?_
  exact cvs_mk (cvAgg (cvs_mk (rng_cv rfl (by omega)) (cvs_mk (rng_cv rfl (by omega)) (cvs_mk (rng_cv rfl (by omega)) (cvs_mk (rng_cv rfl (by omega)) (cvs_mk (rng_cv rfl (by omega)) (cvs_mk (rng_cv rfl (by omega)) (cvs_mk (rng_cv rfl (by omega)) rfl)))))))) rfl

theorem ora14 {NG : Nat} {W : World} {a0 a1 a2 a3 a4 a5 a6 b7 b8 b9 b10 b11 b12 : Int} (hm : Made a2 a4 a5 b7 b8 b9 b10 b11 b12) (g0 : (2) ≤ a2) (g1 : a2 ≤ 8) (g2 : b7 = a2 + 2) (g3 : b7 ≤ a0) (g4 : a0 ≤ 32) (g5 : (1) ≤ a4) (g6 : a4 ≤ 32) (g7 : (0) ≤ a5) (g8 : a5 ≤ 512) (g9 : b10 = a4 + a5 + 32) (g10 : b12 = 2 * a4 + 2 * a5 + 64) (g11 : b10 ≤ a1) (g12 : a1 ≤ 8192) (g13 : b12 ≤ a3) (g14 : a3 ≤ 65536) (g15 : (1) ≤ a6) (g16 : a6 ≤ 2) (g17 : a0 = 4) : OraOk QO14 (env0 NG W (sy a0 a1 a2 a3 a4 a5 a6 b7 b8 b9 b10 b11 b12)).sy := by
  unfold QO14
  refine ora_cons .i64 a2 .i64 (2) (.int .i64 (fwrap .i64 (iAdd a2 (2)))) rfl rfl rfl (fun e he => res_is (sy := (env0 NG W (sy a0 a1 a2 a3 a4 a5 a6 b7 b8 b9 b10 b11 b12)).sy) (i := 14) he rfl hm.h7) ?_
  refine ora_cons .i64 (16) .i64 a4 (.int .i64 (fwrap .i64 (iAdd (16) a4))) rfl rfl rfl (fun e he => res_is (sy := (env0 NG W (sy a0 a1 a2 a3 a4 a5 a6 b7 b8 b9 b10 b11 b12)).sy) (i := 16) he rfl hm.h8) ?_
  refine ora_cons .i64 b8 .i64 a5 (.int .i64 (fwrap .i64 (iAdd b8 a5))) rfl rfl rfl (fun e he => res_is (sy := (env0 NG W (sy a0 a1 a2 a3 a4 a5 a6 b7 b8 b9 b10 b11 b12)).sy) (i := 18) he rfl hm.h9) ?_
  refine ora_cons .i64 (16) .i64 b9 (.int .i64 (fwrap .i64 (iAdd (16) b9))) rfl rfl rfl (fun e he => res_is (sy := (env0 NG W (sy a0 a1 a2 a3 a4 a5 a6 b7 b8 b9 b10 b11 b12)).sy) (i := 20) he rfl hm.h10) ?_
  refine ora_cons .i64 b9 .i64 (16) (.int .i64 (fwrap .i64 (iAdd b9 (16)))) rfl rfl rfl (fun e he => res_is (sy := (env0 NG W (sy a0 a1 a2 a3 a4 a5 a6 b7 b8 b9 b10 b11 b12)).sy) (i := 22) he rfl hm.h11) ?_
  refine ora_cons .i64 (2) .i64 b11 (.int .i64 (fwrap .i64 ((2) * b11))) rfl rfl rfl (fun e he => res_is (sy := (env0 NG W (sy a0 a1 a2 a3 a4 a5 a6 b7 b8 b9 b10 b11 b12)).sy) (i := 24) he rfl hm.h12) ?_
  refine ora_cons .i64 (4) .i64 b7 (.bool false) rfl rfl (lss_f (by omega)) (fun _ _ => rfl) ?_
  refine ora_cons .i64 a1 .i64 b10 (.bool false) rfl rfl (lss_f (by omega)) (fun _ _ => rfl) ?_
  refine ora_cons .i64 a3 .i64 b12 (.bool false) rfl rfl (lss_f (by omega)) (fun _ _ => rfl) ?_
  refine ora_cons .i64 (4) .i64 b7 (.bool true) rfl rfl (geq_t (by omega)) (fun _ _ => rfl) ?_
  refine ora_cons .i64 a1 .i64 b10 (.bool true) rfl rfl (geq_t (by omega)) (fun _ _ => rfl) ?_
  refine ora_cons .i64 a3 .i64 b12 (.bool true) rfl rfl (geq_t (by omega)) (fun _ _ => rfl) ?_
  exact ora_nil _

theorem case14 {W : World} (h : laidMetH Tryz.prog laidL W) {a0 a1 a2 a3 a4 a5 a6 b7 b8 b9 b10 b11 b12 : Int} (hw : Wf a0 a1 a2 a3 a4 a5 a6) (hm : Made a2 a4 a5 b7 b8 b9 b10 b11 b12) (g0 : (2) ≤ a2) (g1 : a2 ≤ 8) (g2 : b7 = a2 + 2) (g3 : b7 ≤ a0) (g4 : a0 ≤ 32) (g5 : (1) ≤ a4) (g6 : a4 ≤ 32) (g7 : (0) ≤ a5) (g8 : a5 ≤ 512) (g9 : b10 = a4 + a5 + 32) (g10 : b12 = 2 * a4 + 2 * a5 + 64) (g11 : b10 ≤ a1) (g12 : a1 ≤ 8192) (g13 : b12 ≤ a3) (g14 : a3 ≤ 65536) (g15 : (1) ≤ a6) (g16 : a6 ≤ 2) (g17 : a0 = 4) :
    Calls Tryz.prog 3 #[.agg #[.int .i64 a0, .int .i64 a1, .int .i64 a2, .int .i64 a3, .int .i64 a4, .int .i64 a5, .int .i64 a6]] W fun e w' => e = .returned (.bool true) ∧ (∀ B, B < W.heap.size → w'.heap[B]? = W.heap[B]?) ∧ ∀ may, W.keptBut w' may := by
  obtain ⟨w0, w1, w2, w3, w4, w5, w6⟩ := hw
  subst g17
  refine top_trueg (xp_ok _ _) (xp_fns _ _) mixed (QmT _) (l := QL14) (by rw [nGlob]; exact QT14) (globs h) (by unfold QL14; exact List.mem_cons_self ..) (vs := [.agg #[.int .i64 4, .int .i64 a1, .int .i64 a2, .int .i64 a3, .int .i64 a4, .int .i64 a5, .int .i64 a6]]) (sy 4 a1 a2 a3 a4 a5 a6 b7 b8 b9 b10 b11 b12) (ora14 hm (by omega) (by omega) (by omega) (by omega) (by omega) (by omega) (by omega) (by omega) (by omega) (by omega) (by omega) (by omega) (by omega) (by omega) (by omega) (by omega) (by omega) (by omega)) ?_
  exact cvs_mk (cvAgg (cvs_mk rfl (cvs_mk (rng_cv rfl (by omega)) (cvs_mk (rng_cv rfl (by omega)) (cvs_mk (rng_cv rfl (by omega)) (cvs_mk (rng_cv rfl (by omega)) (cvs_mk (rng_cv rfl (by omega)) (cvs_mk (rng_cv rfl (by omega)) rfl)))))))) rfl

theorem ora15 {NG : Nat} {W : World} {a0 a1 a2 a3 a4 a5 a6 b7 b8 b9 b10 b11 b12 : Int} (hm : Made a2 a4 a5 b7 b8 b9 b10 b11 b12) (g0 : (2) ≤ a2) (g1 : a2 ≤ 8) (g2 : b7 = a2 + 2) (g3 : b7 ≤ a0) (g4 : a0 ≤ 32) (g5 : (1) ≤ a4) (g6 : a4 ≤ 32) (g7 : (0) ≤ a5) (g8 : a5 ≤ 512) (g9 : b10 = a4 + a5 + 32) (g10 : b12 = 2 * a4 + 2 * a5 + 64) (g11 : b10 ≤ a1) (g12 : a1 ≤ 8192) (g13 : b12 ≤ a3) (g14 : a3 ≤ 65536) (g15 : (1) ≤ a6) (g16 : a6 ≤ 2) (g17 : a0 = 5) : OraOk QO15 (env0 NG W (sy a0 a1 a2 a3 a4 a5 a6 b7 b8 b9 b10 b11 b12)).sy := by
  unfold QO15
  refine ora_cons .i64 a2 .i64 (2) (.int .i64 (fwrap .i64 (iAdd a2 (2)))) rfl rfl rfl (fun e he => res_is (sy := (env0 NG W (sy a0 a1 a2 a3 a4 a5 a6 b7 b8 b9 b10 b11 b12)).sy) (i := 14) he rfl hm.h7) ?_
  refine ora_cons .i64 (16) .i64 a4 (.int .i64 (fwrap .i64 (iAdd (16) a4))) rfl rfl rfl (fun e he => res_is (sy := (env0 NG W (sy a0 a1 a2 a3 a4 a5 a6 b7 b8 b9 b10 b11 b12)).sy) (i := 16) he rfl hm.h8) ?_
  refine ora_cons .i64 b8 .i64 a5 (.int .i64 (fwrap .i64 (iAdd b8 a5))) rfl rfl rfl (fun e he => res_is (sy := (env0 NG W (sy a0 a1 a2 a3 a4 a5 a6 b7 b8 b9 b10 b11 b12)).sy) (i := 18) he rfl hm.h9) ?_
  refine ora_cons .i64 (16) .i64 b9 (.int .i64 (fwrap .i64 (iAdd (16) b9))) rfl rfl rfl (fun e he => res_is (sy := (env0 NG W (sy a0 a1 a2 a3 a4 a5 a6 b7 b8 b9 b10 b11 b12)).sy) (i := 20) he rfl hm.h10) ?_
  refine ora_cons .i64 b9 .i64 (16) (.int .i64 (fwrap .i64 (iAdd b9 (16)))) rfl rfl rfl (fun e he => res_is (sy := (env0 NG W (sy a0 a1 a2 a3 a4 a5 a6 b7 b8 b9 b10 b11 b12)).sy) (i := 22) he rfl hm.h11) ?_
  refine ora_cons .i64 (2) .i64 b11 (.int .i64 (fwrap .i64 ((2) * b11))) rfl rfl rfl (fun e he => res_is (sy := (env0 NG W (sy a0 a1 a2 a3 a4 a5 a6 b7 b8 b9 b10 b11 b12)).sy) (i := 24) he rfl hm.h12) ?_
  refine ora_cons .i64 (5) .i64 b7 (.bool false) rfl rfl (lss_f (by omega)) (fun _ _ => rfl) ?_
  refine ora_cons .i64 a1 .i64 b10 (.bool false) rfl rfl (lss_f (by omega)) (fun _ _ => rfl) ?_
  refine ora_cons .i64 a3 .i64 b12 (.bool false) rfl rfl (lss_f (by omega)) (fun _ _ => rfl) ?_
  refine ora_cons .i64 (5) .i64 b7 (.bool true) rfl rfl (geq_t (by omega)) (fun _ _ => rfl) ?_
  refine ora_cons .i64 a1 .i64 b10 (.bool true) rfl rfl (geq_t (by omega)) (fun _ _ => rfl) ?_
  refine ora_cons .i64 a3 .i64 b12 (.bool true) rfl rfl (geq_t (by omega)) (fun _ _ => rfl) ?_
  exact ora_nil _

theorem case15 {W : World} (h : laidMetH Tryz.prog laidL W) {a0 a1 a2 a3 a4 a5 a6 b7 b8 b9 b10 b11 b12 : Int} (hw : Wf a0 a1 a2 a3 a4 a5 a6) (hm : Made a2 a4 a5 b7 b8 b9 b10 b11 b12) (g0 : (2) ≤ a2) (g1 : a2 ≤ 8) (g2 : b7 = a2 + 2) (g3 : b7 ≤ a0) (g4 : a0 ≤ 32) (g5 : (1) ≤ a4) (g6 : a4 ≤ 32) (g7 : (0) ≤ a5) (g8 : a5 ≤ 512) (g9 : b10 = a4 + a5 + 32) (g10 : b12 = 2 * a4 + 2 * a5 + 64) (g11 : b10 ≤ a1) (g12 : a1 ≤ 8192) (g13 : b12 ≤ a3) (g14 : a3 ≤ 65536) (g15 : (1) ≤ a6) (g16 : a6 ≤ 2) (g17 : a0 = 5) :
    Calls Tryz.prog 3 #[.agg #[.int .i64 a0, .int .i64 a1, .int .i64 a2, .int .i64 a3, .int .i64 a4, .int .i64 a5, .int .i64 a6]] W fun e w' => e = .returned (.bool true) ∧ (∀ B, B < W.heap.size → w'.heap[B]? = W.heap[B]?) ∧ ∀ may, W.keptBut w' may := by
  obtain ⟨w0, w1, w2, w3, w4, w5, w6⟩ := hw
  subst g17
  refine top_trueg (xp_ok _ _) (xp_fns _ _) mixed (QmT _) (l := QL15) (by rw [nGlob]; exact QT15) (globs h) (by unfold QL15; exact List.mem_cons_self ..) (vs := [.agg #[.int .i64 5, .int .i64 a1, .int .i64 a2, .int .i64 a3, .int .i64 a4, .int .i64 a5, .int .i64 a6]]) (sy 5 a1 a2 a3 a4 a5 a6 b7 b8 b9 b10 b11 b12) (ora15 hm (by omega) (by omega) (by omega) (by omega) (by omega) (by omega) (by omega) (by omega) (by omega) (by omega) (by omega) (by omega) (by omega) (by omega) (by omega) (by omega) (by omega) (by omega)) ?_
  exact cvs_mk (cvAgg (cvs_mk rfl (cvs_mk (rng_cv rfl (by omega)) (cvs_mk (rng_cv rfl (by omega)) (cvs_mk (rng_cv rfl (by omega)) (cvs_mk (rng_cv rfl (by omega)) (cvs_mk (rng_cv rfl (by omega)) (cvs_mk (rng_cv rfl (by omega)) rfl)))))))) rfl

theorem ora16 {NG : Nat} {W : World} {a0 a1 a2 a3 a4 a5 a6 b7 b8 b9 b10 b11 b12 : Int} (hm : Made a2 a4 a5 b7 b8 b9 b10 b11 b12) (g0 : (2) ≤ a2) (g1 : a2 ≤ 8) (g2 : b7 = a2 + 2) (g3 : b7 ≤ a0) (g4 : a0 ≤ 32) (g5 : (1) ≤ a4) (g6 : a4 ≤ 32) (g7 : (0) ≤ a5) (g8 : a5 ≤ 512) (g9 : b10 = a4 + a5 + 32) (g10 : b12 = 2 * a4 + 2 * a5 + 64) (g11 : b10 ≤ a1) (g12 : a1 ≤ 8192) (g13 : b12 ≤ a3) (g14 : a3 ≤ 65536) (g15 : (1) ≤ a6) (g16 : a6 ≤ 2) (g17 : a0 = 6) : OraOk QO16 (env0 NG W (sy a0 a1 a2 a3 a4 a5 a6 b7 b8 b9 b10 b11 b12)).sy := by
  unfold QO16
  refine ora_cons .i64 a2 .i64 (2) (.int .i64 (fwrap .i64 (iAdd a2 (2)))) rfl rfl rfl (fun e he => res_is (sy := (env0 NG W (sy a0 a1 a2 a3 a4 a5 a6 b7 b8 b9 b10 b11 b12)).sy) (i := 14) he rfl hm.h7) ?_
  refine ora_cons .i64 (16) .i64 a4 (.int .i64 (fwrap .i64 (iAdd (16) a4))) rfl rfl rfl (fun e he => res_is (sy := (env0 NG W (sy a0 a1 a2 a3 a4 a5 a6 b7 b8 b9 b10 b11 b12)).sy) (i := 16) he rfl hm.h8) ?_
  refine ora_cons .i64 b8 .i64 a5 (.int .i64 (fwrap .i64 (iAdd b8 a5))) rfl rfl rfl (fun e he => res_is (sy := (env0 NG W (sy a0 a1 a2 a3 a4 a5 a6 b7 b8 b9 b10 b11 b12)).sy) (i := 18) he rfl hm.h9) ?_
  refine ora_cons .i64 (16) .i64 b9 (.int .i64 (fwrap .i64 (iAdd (16) b9))) rfl rfl rfl (fun e he => res_is (sy := (env0 NG W (sy a0 a1 a2 a3 a4 a5 a6 b7 b8 b9 b10 b11 b12)).sy) (i := 20) he rfl hm.h10) ?_
  refine ora_cons .i64 b9 .i64 (16) (.int .i64 (fwrap .i64 (iAdd b9 (16)))) rfl rfl rfl (fun e he => res_is (sy := (env0 NG W (sy a0 a1 a2 a3 a4 a5 a6 b7 b8 b9 b10 b11 b12)).sy) (i := 22) he rfl hm.h11) ?_
  refine ora_cons .i64 (2) .i64 b11 (.int .i64 (fwrap .i64 ((2) * b11))) rfl rfl rfl (fun e he => res_is (sy := (env0 NG W (sy a0 a1 a2 a3 a4 a5 a6 b7 b8 b9 b10 b11 b12)).sy) (i := 24) he rfl hm.h12) ?_
  refine ora_cons .i64 (6) .i64 b7 (.bool false) rfl rfl (lss_f (by omega)) (fun _ _ => rfl) ?_
  refine ora_cons .i64 a1 .i64 b10 (.bool false) rfl rfl (lss_f (by omega)) (fun _ _ => rfl) ?_
  refine ora_cons .i64 a3 .i64 b12 (.bool false) rfl rfl (lss_f (by omega)) (fun _ _ => rfl) ?_
  refine ora_cons .i64 (6) .i64 b7 (.bool true) rfl rfl (geq_t (by omega)) (fun _ _ => rfl) ?_
  refine ora_cons .i64 a1 .i64 b10 (.bool true) rfl rfl (geq_t (by omega)) (fun _ _ => rfl) ?_
  refine ora_cons .i64 a3 .i64 b12 (.bool true) rfl rfl (geq_t (by omega)) (fun _ _ => rfl) ?_
  exact ora_nil _

theorem case16 {W : World} (h : laidMetH Tryz.prog laidL W) {a0 a1 a2 a3 a4 a5 a6 b7 b8 b9 b10 b11 b12 : Int} (hw : Wf a0 a1 a2 a3 a4 a5 a6) (hm : Made a2 a4 a5 b7 b8 b9 b10 b11 b12) (g0 : (2) ≤ a2) (g1 : a2 ≤ 8) (g2 : b7 = a2 + 2) (g3 : b7 ≤ a0) (g4 : a0 ≤ 32) (g5 : (1) ≤ a4) (g6 : a4 ≤ 32) (g7 : (0) ≤ a5) (g8 : a5 ≤ 512) (g9 : b10 = a4 + a5 + 32) (g10 : b12 = 2 * a4 + 2 * a5 + 64) (g11 : b10 ≤ a1) (g12 : a1 ≤ 8192) (g13 : b12 ≤ a3) (g14 : a3 ≤ 65536) (g15 : (1) ≤ a6) (g16 : a6 ≤ 2) (g17 : a0 = 6) :
    Calls Tryz.prog 3 #[.agg #[.int .i64 a0, .int .i64 a1, .int .i64 a2, .int .i64 a3, .int .i64 a4, .int .i64 a5, .int .i64 a6]] W fun e w' => e = .returned (.bool true) ∧ (∀ B, B < W.heap.size → w'.heap[B]? = W.heap[B]?) ∧ ∀ may, W.keptBut w' may := by
  obtain ⟨w0, w1, w2, w3, w4, w5, w6⟩ := hw
  subst g17
  refine top_trueg (xp_ok _ _) (xp_fns _ _) mixed (QmT _) (l := QL16) (by rw [nGlob]; exact QT16) (globs h) (by unfold QL16; exact List.mem_cons_self ..) (vs := [.agg #[.int .i64 6, .int .i64 a1, .int .i64 a2, .int .i64 a3, .int .i64 a4, .int .i64 a5, .int .i64 a6]]) (sy 6 a1 a2 a3 a4 a5 a6 b7 b8 b9 b10 b11 b12) (ora16 hm (by omega) (by omega) (by omega) (by omega) (by omega) (by omega) (by omega) (by omega) (by omega) (by omega) (by omega) (by omega) (by omega) (by omega) (by omega) (by omega) (by omega) (by omega)) ?_
  exact cvs_mk (cvAgg (cvs_mk rfl (cvs_mk (rng_cv rfl (by omega)) (cvs_mk (rng_cv rfl (by omega)) (cvs_mk (rng_cv rfl (by omega)) (cvs_mk (rng_cv rfl (by omega)) (cvs_mk (rng_cv rfl (by omega)) (cvs_mk (rng_cv rfl (by omega)) rfl)))))))) rfl

theorem ora17 {NG : Nat} {W : World} {a0 a1 a2 a3 a4 a5 a6 b7 b8 b9 b10 b11 b12 : Int} (hm : Made a2 a4 a5 b7 b8 b9 b10 b11 b12) (g0 : (2) ≤ a2) (g1 : a2 ≤ 8) (g2 : b7 = a2 + 2) (g3 : b7 ≤ a0) (g4 : a0 ≤ 32) (g5 : (1) ≤ a4) (g6 : a4 ≤ 32) (g7 : (0) ≤ a5) (g8 : a5 ≤ 512) (g9 : b10 = a4 + a5 + 32) (g10 : b12 = 2 * a4 + 2 * a5 + 64) (g11 : b10 ≤ a1) (g12 : a1 ≤ 8192) (g13 : b12 ≤ a3) (g14 : a3 ≤ 65536) (g15 : (1) ≤ a6) (g16 : a6 ≤ 2) (g17 : a0 = 7) : OraOk QO17 (env0 NG W (sy a0 a1 a2 a3 a4 a5 a6 b7 b8 b9 b10 b11 b12)).sy := by
  unfold QO17
  refine ora_cons .i64 a2 .i64 (2) (.int .i64 (fwrap .i64 (iAdd a2 (2)))) rfl rfl rfl (fun e he => res_is (sy := (env0 NG W (sy a0 a1 a2 a3 a4 a5 a6 b7 b8 b9 b10 b11 b12)).sy) (i := 14) he rfl hm.h7) ?_
  refine ora_cons .i64 (16) .i64 a4 (.int .i64 (fwrap .i64 (iAdd (16) a4))) rfl rfl rfl (fun e he => res_is (sy := (env0 NG W (sy a0 a1 a2 a3 a4 a5 a6 b7 b8 b9 b10 b11 b12)).sy) (i := 16) he rfl hm.h8) ?_
  refine ora_cons .i64 b8 .i64 a5 (.int .i64 (fwrap .i64 (iAdd b8 a5))) rfl rfl rfl (fun e he => res_is (sy := (env0 NG W (sy a0 a1 a2 a3 a4 a5 a6 b7 b8 b9 b10 b11 b12)).sy) (i := 18) he rfl hm.h9) ?_
  refine ora_cons .i64 (16) .i64 b9 (.int .i64 (fwrap .i64 (iAdd (16) b9))) rfl rfl rfl (fun e he => res_is (sy := (env0 NG W (sy a0 a1 a2 a3 a4 a5 a6 b7 b8 b9 b10 b11 b12)).sy) (i := 20) he rfl hm.h10) ?_
  refine ora_cons .i64 b9 .i64 (16) (.int .i64 (fwrap .i64 (iAdd b9 (16)))) rfl rfl rfl (fun e he => res_is (sy := (env0 NG W (sy a0 a1 a2 a3 a4 a5 a6 b7 b8 b9 b10 b11 b12)).sy) (i := 22) he rfl hm.h11) ?_
  refine ora_cons .i64 (2) .i64 b11 (.int .i64 (fwrap .i64 ((2) * b11))) rfl rfl rfl (fun e he => res_is (sy := (env0 NG W (sy a0 a1 a2 a3 a4 a5 a6 b7 b8 b9 b10 b11 b12)).sy) (i := 24) he rfl hm.h12) ?_
  refine ora_cons .i64 (7) .i64 b7 (.bool false) rfl rfl (lss_f (by omega)) (fun _ _ => rfl) ?_
  refine ora_cons .i64 a1 .i64 b10 (.bool false) rfl rfl (lss_f (by omega)) (fun _ _ => rfl) ?_
  refine ora_cons .i64 a3 .i64 b12 (.bool false) rfl rfl (lss_f (by omega)) (fun _ _ => rfl) ?_
  refine ora_cons .i64 (7) .i64 b7 (.bool true) rfl rfl (geq_t (by omega)) (fun _ _ => rfl) ?_
  refine ora_cons .i64 a1 .i64 b10 (.bool true) rfl rfl (geq_t (by omega)) (fun _ _ => rfl) ?_
  refine ora_cons .i64 a3 .i64 b12 (.bool true) rfl rfl (geq_t (by omega)) (fun _ _ => rfl) ?_
  exact ora_nil _

theorem case17 {W : World} (h : laidMetH Tryz.prog laidL W) {a0 a1 a2 a3 a4 a5 a6 b7 b8 b9 b10 b11 b12 : Int} (hw : Wf a0 a1 a2 a3 a4 a5 a6) (hm : Made a2 a4 a5 b7 b8 b9 b10 b11 b12) (g0 : (2) ≤ a2) (g1 : a2 ≤ 8) (g2 : b7 = a2 + 2) (g3 : b7 ≤ a0) (g4 : a0 ≤ 32) (g5 : (1) ≤ a4) (g6 : a4 ≤ 32) (g7 : (0) ≤ a5) (g8 : a5 ≤ 512) (g9 : b10 = a4 + a5 + 32) (g10 : b12 = 2 * a4 + 2 * a5 + 64) (g11 : b10 ≤ a1) (g12 : a1 ≤ 8192) (g13 : b12 ≤ a3) (g14 : a3 ≤ 65536) (g15 : (1) ≤ a6) (g16 : a6 ≤ 2) (g17 : a0 = 7) :
    Calls Tryz.prog 3 #[.agg #[.int .i64 a0, .int .i64 a1, .int .i64 a2, .int .i64 a3, .int .i64 a4, .int .i64 a5, .int .i64 a6]] W fun e w' => e = .returned (.bool true) ∧ (∀ B, B < W.heap.size → w'.heap[B]? = W.heap[B]?) ∧ ∀ may, W.keptBut w' may := by
  obtain ⟨w0, w1, w2, w3, w4, w5, w6⟩ := hw
  subst g17
  refine top_trueg (xp_ok _ _) (xp_fns _ _) mixed (QmT _) (l := QL17) (by rw [nGlob]; exact QT17) (globs h) (by unfold QL17; exact List.mem_cons_self ..) (vs := [.agg #[.int .i64 7, .int .i64 a1, .int .i64 a2, .int .i64 a3, .int .i64 a4, .int .i64 a5, .int .i64 a6]]) (sy 7 a1 a2 a3 a4 a5 a6 b7 b8 b9 b10 b11 b12) (ora17 hm (by omega) (by omega) (by omega) (by omega) (by omega) (by omega) (by omega) (by omega) (by omega) (by omega) (by omega) (by omega) (by omega) (by omega) (by omega) (by omega) (by omega) (by omega)) ?_
  exact cvs_mk (cvAgg (cvs_mk rfl (cvs_mk (rng_cv rfl (by omega)) (cvs_mk (rng_cv rfl (by omega)) (cvs_mk (rng_cv rfl (by omega)) (cvs_mk (rng_cv rfl (by omega)) (cvs_mk (rng_cv rfl (by omega)) (cvs_mk (rng_cv rfl (by omega)) rfl)))))))) rfl

theorem ora18 {NG : Nat} {W : World} {a0 a1 a2 a3 a4 a5 a6 b7 b8 b9 b10 b11 b12 : Int} (hm : Made a2 a4 a5 b7 b8 b9 b10 b11 b12) (g0 : (2) ≤ a2) (g1 : a2 ≤ 8) (g2 : b7 = a2 + 2) (g3 : b7 ≤ a0) (g4 : a0 ≤ 32) (g5 : (1) ≤ a4) (g6 : a4 ≤ 32) (g7 : (0) ≤ a5) (g8 : a5 ≤ 512) (g9 : b10 = a4 + a5 + 32) (g10 : b12 = 2 * a4 + 2 * a5 + 64) (g11 : b10 ≤ a1) (g12 : a1 ≤ 8192) (g13 : b12 ≤ a3) (g14 : a3 ≤ 65536) (g15 : (1) ≤ a6) (g16 : a6 ≤ 2) (g17 : a0 = 8) : OraOk QO18 (env0 NG W (sy a0 a1 a2 a3 a4 a5 a6 b7 b8 b9 b10 b11 b12)).sy := by
  unfold QO18
  refine ora_cons .i64 a2 .i64 (2) (.int .i64 (fwrap .i64 (iAdd a2 (2)))) rfl rfl rfl (fun e he => res_is (sy := (env0 NG W (sy a0 a1 a2 a3 a4 a5 a6 b7 b8 b9 b10 b11 b12)).sy) (i := 14) he rfl hm.h7) ?_
  refine ora_cons .i64 (16) .i64 a4 (.int .i64 (fwrap .i64 (iAdd (16) a4))) rfl rfl rfl (fun e he => res_is (sy := (env0 NG W (sy a0 a1 a2 a3 a4 a5 a6 b7 b8 b9 b10 b11 b12)).sy) (i := 16) he rfl hm.h8) ?_
  refine ora_cons .i64 b8 .i64 a5 (.int .i64 (fwrap .i64 (iAdd b8 a5))) rfl rfl rfl (fun e he => res_is (sy := (env0 NG W (sy a0 a1 a2 a3 a4 a5 a6 b7 b8 b9 b10 b11 b12)).sy) (i := 18) he rfl hm.h9) ?_
  refine ora_cons .i64 (16) .i64 b9 (.int .i64 (fwrap .i64 (iAdd (16) b9))) rfl rfl rfl (fun e he => res_is (sy := (env0 NG W (sy a0 a1 a2 a3 a4 a5 a6 b7 b8 b9 b10 b11 b12)).sy) (i := 20) he rfl hm.h10) ?_
  refine ora_cons .i64 b9 .i64 (16) (.int .i64 (fwrap .i64 (iAdd b9 (16)))) rfl rfl rfl (fun e he => res_is (sy := (env0 NG W (sy a0 a1 a2 a3 a4 a5 a6 b7 b8 b9 b10 b11 b12)).sy) (i := 22) he rfl hm.h11) ?_
  refine ora_cons .i64 (2) .i64 b11 (.int .i64 (fwrap .i64 ((2) * b11))) rfl rfl rfl (fun e he => res_is (sy := (env0 NG W (sy a0 a1 a2 a3 a4 a5 a6 b7 b8 b9 b10 b11 b12)).sy) (i := 24) he rfl hm.h12) ?_
  refine ora_cons .i64 (8) .i64 b7 (.bool false) rfl rfl (lss_f (by omega)) (fun _ _ => rfl) ?_
  refine ora_cons .i64 a1 .i64 b10 (.bool false) rfl rfl (lss_f (by omega)) (fun _ _ => rfl) ?_
  refine ora_cons .i64 a3 .i64 b12 (.bool false) rfl rfl (lss_f (by omega)) (fun _ _ => rfl) ?_
  refine ora_cons .i64 (8) .i64 b7 (.bool true) rfl rfl (geq_t (by omega)) (fun _ _ => rfl) ?_
  refine ora_cons .i64 a1 .i64 b10 (.bool true) rfl rfl (geq_t (by omega)) (fun _ _ => rfl) ?_
  refine ora_cons .i64 a3 .i64 b12 (.bool true) rfl rfl (geq_t (by omega)) (fun _ _ => rfl) ?_
  exact ora_nil _

theorem case18 {W : World} (h : laidMetH Tryz.prog laidL W) {a0 a1 a2 a3 a4 a5 a6 b7 b8 b9 b10 b11 b12 : Int} (hw : Wf a0 a1 a2 a3 a4 a5 a6) (hm : Made a2 a4 a5 b7 b8 b9 b10 b11 b12) (g0 : (2) ≤ a2) (g1 : a2 ≤ 8) (g2 : b7 = a2 + 2) (g3 : b7 ≤ a0) (g4 : a0 ≤ 32) (g5 : (1) ≤ a4) (g6 : a4 ≤ 32) (g7 : (0) ≤ a5) (g8 : a5 ≤ 512) (g9 : b10 = a4 + a5 + 32) (g10 : b12 = 2 * a4 + 2 * a5 + 64) (g11 : b10 ≤ a1) (g12 : a1 ≤ 8192) (g13 : b12 ≤ a3) (g14 : a3 ≤ 65536) (g15 : (1) ≤ a6) (g16 : a6 ≤ 2) (g17 : a0 = 8) :
    Calls Tryz.prog 3 #[.agg #[.int .i64 a0, .int .i64 a1, .int .i64 a2, .int .i64 a3, .int .i64 a4, .int .i64 a5, .int .i64 a6]] W fun e w' => e = .returned (.bool true) ∧ (∀ B, B < W.heap.size → w'.heap[B]? = W.heap[B]?) ∧ ∀ may, W.keptBut w' may := by
  obtain ⟨w0, w1, w2, w3, w4, w5, w6⟩ := hw
  subst g17
  refine top_trueg (xp_ok _ _) (xp_fns _ _) mixed (QmT _) (l := QL18) (by rw [nGlob]; exact QT18) (globs h) (by unfold QL18; exact List.mem_cons_self ..) (vs := [.agg #[.int .i64 8, .int .i64 a1, .int .i64 a2, .int .i64 a3, .int .i64 a4, .int .i64 a5, .int .i64 a6]]) (sy 8 a1 a2 a3 a4 a5 a6 b7 b8 b9 b10 b11 b12) (ora18 hm (by omega) (by omega) (by omega) (by omega) (by omega) (by omega) (by omega) (by omega) (by omega) (by omega) (by omega) (by omega) (by omega) (by omega) (by omega) (by omega) (by omega) (by omega)) ?_
  exact cvs_mk (cvAgg (cvs_mk rfl (cvs_mk (rng_cv rfl (by omega)) (cvs_mk (rng_cv rfl (by omega)) (cvs_mk (rng_cv rfl (by omega)) (cvs_mk (rng_cv rfl (by omega)) (cvs_mk (rng_cv rfl (by omega)) (cvs_mk (rng_cv rfl (by omega)) rfl)))))))) rfl

theorem ora19 {NG : Nat} {W : World} {a0 a1 a2 a3 a4 a5 a6 b7 b8 b9 b10 b11 b12 : Int} (hm : Made a2 a4 a5 b7 b8 b9 b10 b11 b12) (g0 : (2) ≤ a2) (g1 : a2 ≤ 8) (g2 : b7 = a2 + 2) (g3 : b7 ≤ a0) (g4 : a0 ≤ 32) (g5 : (1) ≤ a4) (g6 : a4 ≤ 32) (g7 : (0) ≤ a5) (g8 : a5 ≤ 512) (g9 : b10 = a4 + a5 + 32) (g10 : b12 = 2 * a4 + 2 * a5 + 64) (g11 : b10 ≤ a1) (g12 : a1 ≤ 8192) (g13 : b12 ≤ a3) (g14 : a3 ≤ 65536) (g15 : (1) ≤ a6) (g16 : a6 ≤ 2) (g17 : a0 = 9) : OraOk QO19 (env0 NG W (sy a0 a1 a2 a3 a4 a5 a6 b7 b8 b9 b10 b11 b12)).sy := by
  unfold QO19
  refine ora_cons .i64 a2 .i64 (2) (.int .i64 (fwrap .i64 (iAdd a2 (2)))) rfl rfl rfl (fun e he => res_is (sy := (env0 NG W (sy a0 a1 a2 a3 a4 a5 a6 b7 b8 b9 b10 b11 b12)).sy) (i := 14) he rfl hm.h7) ?_
  refine ora_cons .i64 (16) .i64 a4 (.int .i64 (fwrap .i64 (iAdd (16) a4))) rfl rfl rfl (fun e he => res_is (sy := (env0 NG W (sy a0 a1 a2 a3 a4 a5 a6 b7 b8 b9 b10 b11 b12)).sy) (i := 16) he rfl hm.h8) ?_
  refine ora_cons .i64 b8 .i64 a5 (.int .i64 (fwrap .i64 (iAdd b8 a5))) rfl rfl rfl (fun e he => res_is (sy := (env0 NG W (sy a0 a1 a2 a3 a4 a5 a6 b7 b8 b9 b10 b11 b12)).sy) (i := 18) he rfl hm.h9) ?_
  refine ora_cons .i64 (16) .i64 b9 (.int .i64 (fwrap .i64 (iAdd (16) b9))) rfl rfl rfl (fun e he => res_is (sy := (env0 NG W (sy a0 a1 a2 a3 a4 a5 a6 b7 b8 b9 b10 b11 b12)).sy) (i := 20) he rfl hm.h10) ?_
  refine ora_cons .i64 b9 .i64 (16) (.int .i64 (fwrap .i64 (iAdd b9 (16)))) rfl rfl rfl (fun e he => res_is (sy := (env0 NG W (sy a0 a1 a2 a3 a4 a5 a6 b7 b8 b9 b10 b11 b12)).sy) (i := 22) he rfl hm.h11) ?_
  refine ora_cons .i64 (2) .i64 b11 (.int .i64 (fwrap .i64 ((2) * b11))) rfl rfl rfl (fun e he => res_is (sy := (env0 NG W (sy a0 a1 a2 a3 a4 a5 a6 b7 b8 b9 b10 b11 b12)).sy) (i := 24) he rfl hm.h12) ?_
  refine ora_cons .i64 (9) .i64 b7 (.bool false) rfl rfl (lss_f (by omega)) (fun _ _ => rfl) ?_
  refine ora_cons .i64 a1 .i64 b10 (.bool false) rfl rfl (lss_f (by omega)) (fun _ _ => rfl) ?_
  refine ora_cons .i64 a3 .i64 b12 (.bool false) rfl rfl (lss_f (by omega)) (fun _ _ => rfl) ?_
  refine ora_cons .i64 (9) .i64 b7 (.bool true) rfl rfl (geq_t (by omega)) (fun _ _ => rfl) ?_
  refine ora_cons .i64 a1 .i64 b10 (.bool true) rfl rfl (geq_t (by omega)) (fun _ _ => rfl) ?_
  refine ora_cons .i64 a3 .i64 b12 (.bool true) rfl rfl (geq_t (by omega)) (fun _ _ => rfl) ?_
  exact ora_nil _

theorem case19 {W : World} (h : laidMetH Tryz.prog laidL W) {a0 a1 a2 a3 a4 a5 a6 b7 b8 b9 b10 b11 b12 : Int} (hw : Wf a0 a1 a2 a3 a4 a5 a6) (hm : Made a2 a4 a5 b7 b8 b9 b10 b11 b12) (g0 : (2) ≤ a2) (g1 : a2 ≤ 8) (g2 : b7 = a2 + 2) (g3 : b7 ≤ a0) (g4 : a0 ≤ 32) (g5 : (1) ≤ a4) (g6 : a4 ≤ 32) (g7 : (0) ≤ a5) (g8 : a5 ≤ 512) (g9 : b10 = a4 + a5 + 32) (g10 : b12 = 2 * a4 + 2 * a5 + 64) (g11 : b10 ≤ a1) (g12 : a1 ≤ 8192) (g13 : b12 ≤ a3) (g14 : a3 ≤ 65536) (g15 : (1) ≤ a6) (g16 : a6 ≤ 2) (g17 : a0 = 9) :
    Calls Tryz.prog 3 #[.agg #[.int .i64 a0, .int .i64 a1, .int .i64 a2, .int .i64 a3, .int .i64 a4, .int .i64 a5, .int .i64 a6]] W fun e w' => e = .returned (.bool true) ∧ (∀ B, B < W.heap.size → w'.heap[B]? = W.heap[B]?) ∧ ∀ may, W.keptBut w' may := by
  obtain ⟨w0, w1, w2, w3, w4, w5, w6⟩ := hw
  subst g17
  refine top_trueg (xp_ok _ _) (xp_fns _ _) mixed (QmT _) (l := QL19) (by rw [nGlob]; exact QT19) (globs h) (by unfold QL19; exact List.mem_cons_self ..) (vs := [.agg #[.int .i64 9, .int .i64 a1, .int .i64 a2, .int .i64 a3, .int .i64 a4, .int .i64 a5, .int .i64 a6]]) (sy 9 a1 a2 a3 a4 a5 a6 b7 b8 b9 b10 b11 b12) (ora19 hm (by omega) (by omega) (by omega) (by omega) (by omega) (by omega) (by omega) (by omega) (by omega) (by omega) (by omega) (by omega) (by omega) (by omega) (by omega) (by omega) (by omega) (by omega)) ?_
  exact cvs_mk (cvAgg (cvs_mk rfl (cvs_mk (rng_cv rfl (by omega)) (cvs_mk (rng_cv rfl (by omega)) (cvs_mk (rng_cv rfl (by omega)) (cvs_mk (rng_cv rfl (by omega)) (cvs_mk (rng_cv rfl (by omega)) (cvs_mk (rng_cv rfl (by omega)) rfl)))))))) rfl

theorem ora20 {NG : Nat} {W : World} {a0 a1 a2 a3 a4 a5 a6 b7 b8 b9 b10 b11 b12 : Int} (hm : Made a2 a4 a5 b7 b8 b9 b10 b11 b12) (g0 : (2) ≤ a2) (g1 : a2 ≤ 8) (g2 : b7 = a2 + 2) (g3 : b7 ≤ a0) (g4 : a0 ≤ 32) (g5 : (1) ≤ a4) (g6 : a4 ≤ 32) (g7 : (0) ≤ a5) (g8 : a5 ≤ 512) (g9 : b10 = a4 + a5 + 32) (g10 : b12 = 2 * a4 + 2 * a5 + 64) (g11 : b10 ≤ a1) (g12 : a1 ≤ 8192) (g13 : b12 ≤ a3) (g14 : a3 ≤ 65536) (g15 : (1) ≤ a6) (g16 : a6 ≤ 2) (g17 : a0 = 10) : OraOk QO20 (env0 NG W (sy a0 a1 a2 a3 a4 a5 a6 b7 b8 b9 b10 b11 b12)).sy := by
  unfold QO20
  refine ora_cons .i64 a2 .i64 (2) (.int .i64 (fwrap .i64 (iAdd a2 (2)))) rfl rfl rfl (fun e he => res_is (sy := (env0 NG W (sy a0 a1 a2 a3 a4 a5 a6 b7 b8 b9 b10 b11 b12)).sy) (i := 14) he rfl hm.h7) ?_
  refine ora_cons .i64 (16) .i64 a4 (.int .i64 (fwrap .i64 (iAdd (16) a4))) rfl rfl rfl (fun e he => res_is (sy := (env0 NG W (sy a0 a1 a2 a3 a4 a5 a6 b7 b8 b9 b10 b11 b12)).sy) (i := 16) he rfl hm.h8) ?_
  refine ora_cons .i64 b8 .i64 a5 (.int .i64 (fwrap .i64 (iAdd b8 a5))) rfl rfl rfl (fun e he => res_is (sy := (env0 NG W (sy a0 a1 a2 a3 a4 a5 a6 b7 b8 b9 b10 b11 b12)).sy) (i := 18) he rfl hm.h9) ?_
  refine ora_cons .i64 (16) .i64 b9 (.int .i64 (fwrap .i64 (iAdd (16) b9))) rfl rfl rfl (fun e he => res_is (sy := (env0 NG W (sy a0 a1 a2 a3 a4 a5 a6 b7 b8 b9 b10 b11 b12)).sy) (i := 20) he rfl hm.h10) ?_
  refine ora_cons .i64 b9 .i64 (16) (.int .i64 (fwrap .i64 (iAdd b9 (16)))) rfl rfl rfl (fun e he => res_is (sy := (env0 NG W (sy a0 a1 a2 a3 a4 a5 a6 b7 b8 b9 b10 b11 b12)).sy) (i := 22) he rfl hm.h11) ?_
  refine ora_cons .i64 (2) .i64 b11 (.int .i64 (fwrap .i64 ((2) * b11))) rfl rfl rfl (fun e he => res_is (sy := (env0 NG W (sy a0 a1 a2 a3 a4 a5 a6 b7 b8 b9 b10 b11 b12)).sy) (i := 24) he rfl hm.h12) ?_
  refine ora_cons .i64 (10) .i64 b7 (.bool false) rfl rfl (lss_f (by omega)) (fun _ _ => rfl) ?_
  refine ora_cons .i64 a1 .i64 b10 (.bool false) rfl rfl (lss_f (by omega)) (fun _ _ => rfl) ?_
  refine ora_cons .i64 a3 .i64 b12 (.bool false) rfl rfl (lss_f (by omega)) (fun _ _ => rfl) ?_
  refine ora_cons .i64 (10) .i64 b7 (.bool true) rfl rfl (geq_t (by omega)) (fun _ _ => rfl) ?_
  refine ora_cons .i64 a1 .i64 b10 (.bool true) rfl rfl (geq_t (by omega)) (fun _ _ => rfl) ?_
  refine ora_cons .i64 a3 .i64 b12 (.bool true) rfl rfl (geq_t (by omega)) (fun _ _ => rfl) ?_
  exact ora_nil _

theorem case20 {W : World} (h : laidMetH Tryz.prog laidL W) {a0 a1 a2 a3 a4 a5 a6 b7 b8 b9 b10 b11 b12 : Int} (hw : Wf a0 a1 a2 a3 a4 a5 a6) (hm : Made a2 a4 a5 b7 b8 b9 b10 b11 b12) (g0 : (2) ≤ a2) (g1 : a2 ≤ 8) (g2 : b7 = a2 + 2) (g3 : b7 ≤ a0) (g4 : a0 ≤ 32) (g5 : (1) ≤ a4) (g6 : a4 ≤ 32) (g7 : (0) ≤ a5) (g8 : a5 ≤ 512) (g9 : b10 = a4 + a5 + 32) (g10 : b12 = 2 * a4 + 2 * a5 + 64) (g11 : b10 ≤ a1) (g12 : a1 ≤ 8192) (g13 : b12 ≤ a3) (g14 : a3 ≤ 65536) (g15 : (1) ≤ a6) (g16 : a6 ≤ 2) (g17 : a0 = 10) :
    Calls Tryz.prog 3 #[.agg #[.int .i64 a0, .int .i64 a1, .int .i64 a2, .int .i64 a3, .int .i64 a4, .int .i64 a5, .int .i64 a6]] W fun e w' => e = .returned (.bool true) ∧ (∀ B, B < W.heap.size → w'.heap[B]? = W.heap[B]?) ∧ ∀ may, W.keptBut w' may := by
  obtain ⟨w0, w1, w2, w3, w4, w5, w6⟩ := hw
  subst g17
  refine top_trueg (xp_ok _ _) (xp_fns _ _) mixed (QmT _) (l := QL20) (by rw [nGlob]; exact QT20) (globs h) (by unfold QL20; exact List.mem_cons_self ..) (vs := [.agg #[.int .i64 10, .int .i64 a1, .int .i64 a2, .int .i64 a3, .int .i64 a4, .int .i64 a5, .int .i64 a6]]) (sy 10 a1 a2 a3 a4 a5 a6 b7 b8 b9 b10 b11 b12) (ora20 hm (by omega) (by omega) (by omega) (by omega) (by omega) (by omega) (by omega) (by omega) (by omega) (by omega) (by omega) (by omega) (by omega) (by omega) (by omega) (by omega) (by omega) (by omega)) ?_
  exact cvs_mk (cvAgg (cvs_mk rfl (cvs_mk (rng_cv rfl (by omega)) (cvs_mk (rng_cv rfl (by omega)) (cvs_mk (rng_cv rfl (by omega)) (cvs_mk (rng_cv rfl (by omega)) (cvs_mk (rng_cv rfl (by omega)) (cvs_mk (rng_cv rfl (by omega)) rfl)))))))) rfl

theorem ora21 {NG : Nat} {W : World} {a0 a1 a2 a3 a4 a5 a6 b7 b8 b9 b10 b11 b12 : Int} (hm : Made a2 a4 a5 b7 b8 b9 b10 b11 b12) (g0 : (2) ≤ a2) (g1 : a2 ≤ 8) (g2 : b7 = a2 + 2) (g3 : b7 ≤ a0) (g4 : a0 ≤ 32) (g5 : (1) ≤ a4) (g6 : a4 ≤ 32) (g7 : (0) ≤ a5) (g8 : a5 ≤ 512) (g9 : b10 = a4 + a5 + 32) (g10 : b12 = 2 * a4 + 2 * a5 + 64) (g11 : b10 ≤ a1) (g12 : a1 ≤ 8192) (g13 : b12 ≤ a3) (g14 : a3 ≤ 65536) (g15 : (1) ≤ a6) (g16 : a6 ≤ 2) (g17 : a0 = 11) : OraOk QO21 (env0 NG W (sy a0 a1 a2 a3 a4 a5 a6 b7 b8 b9 b10 b11 b12)).sy := by
  unfold QO21
  refine ora_cons .i64 a2 .i64 (2) (.int .i64 (fwrap .i64 (iAdd a2 (2)))) rfl rfl rfl (fun e he => res_is (sy := (env0 NG W (sy a0 a1 a2 a3 a4 a5 a6 b7 b8 b9 b10 b11 b12)).sy) (i := 14) he rfl hm.h7) ?_
  refine ora_cons .i64 (16) .i64 a4 (.int .i64 (fwrap .i64 (iAdd (16) a4))) rfl rfl rfl (fun e he => res_is (sy := (env0 NG W (sy a0 a1 a2 a3 a4 a5 a6 b7 b8 b9 b10 b11 b12)).sy) (i := 16) he rfl hm.h8) ?_
  refine ora_cons .i64 b8 .i64 a5 (.int .i64 (fwrap .i64 (iAdd b8 a5))) rfl rfl rfl (fun e he => res_is (sy := (env0 NG W (sy a0 a1 a2 a3 a4 a5 a6 b7 b8 b9 b10 b11 b12)).sy) (i := 18) he rfl hm.h9) ?_
  refine ora_cons .i64 (16) .i64 b9 (.int .i64 (fwrap .i64 (iAdd (16) b9))) rfl rfl rfl (fun e he => res_is (sy := (env0 NG W (sy a0 a1 a2 a3 a4 a5 a6 b7 b8 b9 b10 b11 b12)).sy) (i := 20) he rfl hm.h10) ?_
  refine ora_cons .i64 b9 .i64 (16) (.int .i64 (fwrap .i64 (iAdd b9 (16)))) rfl rfl rfl (fun e he => res_is (sy := (env0 NG W (sy a0 a1 a2 a3 a4 a5 a6 b7 b8 b9 b10 b11 b12)).sy) (i := 22) he rfl hm.h11) ?_
  refine ora_cons .i64 (2) .i64 b11 (.int .i64 (fwrap .i64 ((2) * b11))) rfl rfl rfl (fun e he => res_is (sy := (env0 NG W (sy a0 a1 a2 a3 a4 a5 a6 b7 b8 b9 b10 b11 b12)).sy) (i := 24) he rfl hm.h12) ?_
  refine ora_cons .i64 (11) .i64 b7 (.bool false) rfl rfl (lss_f (by omega)) (fun _ _ => rfl) ?_
  refine ora_cons .i64 a1 .i64 b10 (.bool false) rfl rfl (lss_f (by omega)) (fun _ _ => rfl) ?_
  refine ora_cons .i64 a3 .i64 b12 (.bool false) rfl rfl (lss_f (by omega)) (fun _ _ => rfl) ?_
  refine ora_cons .i64 (11) .i64 b7 (.bool true) rfl rfl (geq_t (by omega)) (fun _ _ => rfl) ?_
  refine ora_cons .i64 a1 .i64 b10 (.bool true) rfl rfl (geq_t (by omega)) (fun _ _ => rfl) ?_
  refine ora_cons .i64 a3 .i64 b12 (.bool true) rfl rfl (geq_t (by omega)) (fun _ _ => rfl) ?_
  exact ora_nil _

theorem case21 {W : World} (h : laidMetH Tryz.prog laidL W) {a0 a1 a2 a3 a4 a5 a6 b7 b8 b9 b10 b11 b12 : Int} (hw : Wf a0 a1 a2 a3 a4 a5 a6) (hm : Made a2 a4 a5 b7 b8 b9 b10 b11 b12) (g0 : (2) ≤ a2) (g1 : a2 ≤ 8) (g2 : b7 = a2 + 2) (g3 : b7 ≤ a0) (g4 : a0 ≤ 32) (g5 : (1) ≤ a4) (g6 : a4 ≤ 32) (g7 : (0) ≤ a5) (g8 : a5 ≤ 512) (g9 : b10 = a4 + a5 + 32) (g10 : b12 = 2 * a4 + 2 * a5 + 64) (g11 : b10 ≤ a1) (g12 : a1 ≤ 8192) (g13 : b12 ≤ a3) (g14 : a3 ≤ 65536) (g15 : (1) ≤ a6) (g16 : a6 ≤ 2) (g17 : a0 = 11) :
    Calls Tryz.prog 3 #[.agg #[.int .i64 a0, .int .i64 a1, .int .i64 a2, .int .i64 a3, .int .i64 a4, .int .i64 a5, .int .i64 a6]] W fun e w' => e = .returned (.bool true) ∧ (∀ B, B < W.heap.size → w'.heap[B]? = W.heap[B]?) ∧ ∀ may, W.keptBut w' may := by
  obtain ⟨w0, w1, w2, w3, w4, w5, w6⟩ := hw
  subst g17
  refine top_trueg (xp_ok _ _) (xp_fns _ _) mixed (QmT _) (l := QL21) (by rw [nGlob]; exact QT21) (globs h) (by unfold QL21; exact List.mem_cons_self ..) (vs := [.agg #[.int .i64 11, .int .i64 a1, .int .i64 a2, .int .i64 a3, .int .i64 a4, .int .i64 a5, .int .i64 a6]]) (sy 11 a1 a2 a3 a4 a5 a6 b7 b8 b9 b10 b11 b12) (ora21 hm (by omega) (by omega) (by omega) (by omega) (by omega) (by omega) (by omega) (by omega) (by omega) (by omega) (by omega) (by omega) (by omega) (by omega) (by omega) (by omega) (by omega) (by omega)) ?_
  exact cvs_mk (cvAgg (cvs_mk rfl (cvs_mk (rng_cv rfl (by omega)) (cvs_mk (rng_cv rfl (by omega)) (cvs_mk (rng_cv rfl (by omega)) (cvs_mk (rng_cv rfl (by omega)) (cvs_mk (rng_cv rfl (by omega)) (cvs_mk (rng_cv rfl (by omega)) rfl)))))))) rfl

theorem ora22 {NG : Nat} {W : World} {a0 a1 a2 a3 a4 a5 a6 b7 b8 b9 b10 b11 b12 : Int} (hm : Made a2 a4 a5 b7 b8 b9 b10 b11 b12) (g0 : (2) ≤ a2) (g1 : a2 ≤ 8) (g2 : b7 = a2 + 2) (g3 : b7 ≤ a0) (g4 : a0 ≤ 32) (g5 : (1) ≤ a4) (g6 : a4 ≤ 32) (g7 : (0) ≤ a5) (g8 : a5 ≤ 512) (g9 : b10 = a4 + a5 + 32) (g10 : b12 = 2 * a4 + 2 * a5 + 64) (g11 : b10 ≤ a1) (g12 : a1 ≤ 8192) (g13 : b12 ≤ a3) (g14 : a3 ≤ 65536) (g15 : (1) ≤ a6) (g16 : a6 ≤ 2) (g17 : a0 = 12) : OraOk QO22 (env0 NG W (sy a0 a1 a2 a3 a4 a5 a6 b7 b8 b9 b10 b11 b12)).sy := by
  unfold QO22
  refine ora_cons .i64 a2 .i64 (2) (.int .i64 (fwrap .i64 (iAdd a2 (2)))) rfl rfl rfl (fun e he => res_is (sy := (env0 NG W (sy a0 a1 a2 a3 a4 a5 a6 b7 b8 b9 b10 b11 b12)).sy) (i := 14) he rfl hm.h7) ?_
  refine ora_cons .i64 (16) .i64 a4 (.int .i64 (fwrap .i64 (iAdd (16) a4))) rfl rfl rfl (fun e he => res_is (sy := (env0 NG W (sy a0 a1 a2 a3 a4 a5 a6 b7 b8 b9 b10 b11 b12)).sy) (i := 16) he rfl hm.h8) ?_
  refine ora_cons .i64 b8 .i64 a5 (.int .i64 (fwrap .i64 (iAdd b8 a5))) rfl rfl rfl (fun e he => res_is (sy := (env0 NG W (sy a0 a1 a2 a3 a4 a5 a6 b7 b8 b9 b10 b11 b12)).sy) (i := 18) he rfl hm.h9) ?_
  refine ora_cons .i64 (16) .i64 b9 (.int .i64 (fwrap .i64 (iAdd (16) b9))) rfl rfl rfl (fun e he => res_is (sy := (env0 NG W (sy a0 a1 a2 a3 a4 a5 a6 b7 b8 b9 b10 b11 b12)).sy) (i := 20) he rfl hm.h10) ?_
  refine ora_cons .i64 b9 .i64 (16) (.int .i64 (fwrap .i64 (iAdd b9 (16)))) rfl rfl rfl (fun e he => res_is (sy := (env0 NG W (sy a0 a1 a2 a3 a4 a5 a6 b7 b8 b9 b10 b11 b12)).sy) (i := 22) he rfl hm.h11) ?_
  refine ora_cons .i64 (2) .i64 b11 (.int .i64 (fwrap .i64 ((2) * b11))) rfl rfl rfl (fun e he => res_is (sy := (env0 NG W (sy a0 a1 a2 a3 a4 a5 a6 b7 b8 b9 b10 b11 b12)).sy) (i := 24) he rfl hm.h12) ?_
  refine ora_cons .i64 (12) .i64 b7 (.bool false) rfl rfl (lss_f (by omega)) (fun _ _ => rfl) ?_
  refine ora_cons .i64 a1 .i64 b10 (.bool false) rfl rfl (lss_f (by omega)) (fun _ _ => rfl) ?_
  refine ora_cons .i64 a3 .i64 b12 (.bool false) rfl rfl (lss_f (by omega)) (fun _ _ => rfl) ?_
  refine ora_cons .i64 (12) .i64 b7 (.bool true) rfl rfl (geq_t (by omega)) (fun _ _ => rfl) ?_
  refine ora_cons .i64 a1 .i64 b10 (.bool true) rfl rfl (geq_t (by omega)) (fun _ _ => rfl) ?_
  refine ora_cons .i64 a3 .i64 b12 (.bool true) rfl rfl (geq_t (by omega)) (fun _ _ => rfl) ?_
  exact ora_nil _

theorem case22 {W : World} (h : laidMetH Tryz.prog laidL W) {a0 a1 a2 a3 a4 a5 a6 b7 b8 b9 b10 b11 b12 : Int} (hw : Wf a0 a1 a2 a3 a4 a5 a6) (hm : Made a2 a4 a5 b7 b8 b9 b10 b11 b12) (g0 : (2) ≤ a2) (g1 : a2 ≤ 8) (g2 : b7 = a2 + 2) (g3 : b7 ≤ a0) (g4 : a0 ≤ 32) (g5 : (1) ≤ a4) (g6 : a4 ≤ 32) (g7 : (0) ≤ a5) (g8 : a5 ≤ 512) (g9 : b10 = a4 + a5 + 32) (g10 : b12 = 2 * a4 + 2 * a5 + 64) (g11 : b10 ≤ a1) (g12 : a1 ≤ 8192) (g13 : b12 ≤ a3) (g14 : a3 ≤ 65536) (g15 : (1) ≤ a6) (g16 : a6 ≤ 2) (g17 : a0 = 12) :
    Calls Tryz.prog 3 #[.agg #[.int .i64 a0, .int .i64 a1, .int .i64 a2, .int .i64 a3, .int .i64 a4, .int .i64 a5, .int .i64 a6]] W fun e w' => e = .returned (.bool true) ∧ (∀ B, B < W.heap.size → w'.heap[B]? = W.heap[B]?) ∧ ∀ may, W.keptBut w' may := by
  obtain ⟨w0, w1, w2, w3, w4, w5, w6⟩ := hw
  subst g17
  refine top_trueg (xp_ok _ _) (xp_fns _ _) mixed (QmT _) (l := QL22) (by rw [nGlob]; exact QT22) (globs h) (by unfold QL22; exact List.mem_cons_self ..) (vs := [.agg #[.int .i64 12, .int .i64 a1, .int .i64 a2, .int .i64 a3, .int .i64 a4, .int .i64 a5, .int .i64 a6]]) (sy 12 a1 a2 a3 a4 a5 a6 b7 b8 b9 b10 b11 b12) (ora22 hm (by omega) (by omega) (by omega) (by omega) (by omega) (by omega) (by omega) (by omega) (by omega) (by omega) (by omega) (by omega) (by omega) (by omega) (by omega) (by omega) (by omega) (by omega)) ?_
  exact cvs_mk (cvAgg (cvs_mk rfl (cvs_mk (rng_cv rfl (by omega)) (cvs_mk (rng_cv rfl (by omega)) (cvs_mk (rng_cv rfl (by omega)) (cvs_mk (rng_cv rfl (by omega)) (cvs_mk (rng_cv rfl (by omega)) (cvs_mk (rng_cv rfl (by omega)) rfl)))))))) rfl

theorem ora23 {NG : Nat} {W : World} {a0 a1 a2 a3 a4 a5 a6 b7 b8 b9 b10 b11 b12 : Int} (hm : Made a2 a4 a5 b7 b8 b9 b10 b11 b12) (g0 : (2) ≤ a2) (g1 : a2 ≤ 8) (g2 : b7 = a2 + 2) (g3 : b7 ≤ a0) (g4 : a0 ≤ 32) (g5 : (1) ≤ a4) (g6 : a4 ≤ 32) (g7 : (0) ≤ a5) (g8 : a5 ≤ 512) (g9 : b10 = a4 + a5 + 32) (g10 : b12 = 2 * a4 + 2 * a5 + 64) (g11 : b10 ≤ a1) (g12 : a1 ≤ 8192) (g13 : b12 ≤ a3) (g14 : a3 ≤ 65536) (g15 : (1) ≤ a6) (g16 : a6 ≤ 2) (g17 : a0 = 13) : OraOk QO23 (env0 NG W (sy a0 a1 a2 a3 a4 a5 a6 b7 b8 b9 b10 b11 b12)).sy := by
  unfold QO23
  refine ora_cons .i64 a2 .i64 (2) (.int .i64 (fwrap .i64 (iAdd a2 (2)))) rfl rfl rfl (fun e he => res_is (sy := (env0 NG W (sy a0 a1 a2 a3 a4 a5 a6 b7 b8 b9 b10 b11 b12)).sy) (i := 14) he rfl hm.h7) ?_
  refine ora_cons .i64 (16) .i64 a4 (.int .i64 (fwrap .i64 (iAdd (16) a4))) rfl rfl rfl (fun e he => res_is (sy := (env0 NG W (sy a0 a1 a2 a3 a4 a5 a6 b7 b8 b9 b10 b11 b12)).sy) (i := 16) he rfl hm.h8) ?_
  refine ora_cons .i64 b8 .i64 a5 (.int .i64 (fwrap .i64 (iAdd b8 a5))) rfl rfl rfl (fun e he => res_is (sy := (env0 NG W (sy a0 a1 a2 a3 a4 a5 a6 b7 b8 b9 b10 b11 b12)).sy) (i := 18) he rfl hm.h9) ?_
  refine ora_cons .i64 (16) .i64 b9 (.int .i64 (fwrap .i64 (iAdd (16) b9))) rfl rfl rfl (fun e he => res_is (sy := (env0 NG W (sy a0 a1 a2 a3 a4 a5 a6 b7 b8 b9 b10 b11 b12)).sy) (i := 20) he rfl hm.h10) ?_
  refine ora_cons .i64 b9 .i64 (16) (.int .i64 (fwrap .i64 (iAdd b9 (16)))) rfl rfl rfl (fun e he => res_is (sy := (env0 NG W (sy a0 a1 a2 a3 a4 a5 a6 b7 b8 b9 b10 b11 b12)).sy) (i := 22) he rfl hm.h11) ?_
  refine ora_cons .i64 (2) .i64 b11 (.int .i64 (fwrap .i64 ((2) * b11))) rfl rfl rfl (fun e he => res_is (sy := (env0 NG W (sy a0 a1 a2 a3 a4 a5 a6 b7 b8 b9 b10 b11 b12)).sy) (i := 24) he rfl hm.h12) ?_
  refine ora_cons .i64 (13) .i64 b7 (.bool false) rfl rfl (lss_f (by omega)) (fun _ _ => rfl) ?_
  refine ora_cons .i64 a1 .i64 b10 (.bool false) rfl rfl (lss_f (by omega)) (fun _ _ => rfl) ?_
  refine ora_cons .i64 a3 .i64 b12 (.bool false) rfl rfl (lss_f (by omega)) (fun _ _ => rfl) ?_
  refine ora_cons .i64 (13) .i64 b7 (.bool true) rfl rfl (geq_t (by omega)) (fun _ _ => rfl) ?_
  refine ora_cons .i64 a1 .i64 b10 (.bool true) rfl rfl (geq_t (by omega)) (fun _ _ => rfl) ?_
  refine ora_cons .i64 a3 .i64 b12 (.bool true) rfl rfl (geq_t (by omega)) (fun _ _ => rfl) ?_
  exact ora_nil _

theorem case23 {W : World} (h : laidMetH Tryz.prog laidL W) {a0 a1 a2 a3 a4 a5 a6 b7 b8 b9 b10 b11 b12 : Int} (hw : Wf a0 a1 a2 a3 a4 a5 a6) (hm : Made a2 a4 a5 b7 b8 b9 b10 b11 b12) (g0 : (2) ≤ a2) (g1 : a2 ≤ 8) (g2 : b7 = a2 + 2) (g3 : b7 ≤ a0) (g4 : a0 ≤ 32) (g5 : (1) ≤ a4) (g6 : a4 ≤ 32) (g7 : (0) ≤ a5) (g8 : a5 ≤ 512) (g9 : b10 = a4 + a5 + 32) (g10 : b12 = 2 * a4 + 2 * a5 + 64) (g11 : b10 ≤ a1) (g12 : a1 ≤ 8192) (g13 : b12 ≤ a3) (g14 : a3 ≤ 65536) (g15 : (1) ≤ a6) (g16 : a6 ≤ 2) (g17 : a0 = 13) :
    Calls Tryz.prog 3 #[.agg #[.int .i64 a0, .int .i64 a1, .int .i64 a2, .int .i64 a3, .int .i64 a4, .int .i64 a5, .int .i64 a6]] W fun e w' => e = .returned (.bool true) ∧ (∀ B, B < W.heap.size → w'.heap[B]? = W.heap[B]?) ∧ ∀ may, W.keptBut w' may := by
  obtain ⟨w0, w1, w2, w3, w4, w5, w6⟩ := hw
  subst g17
  refine top_trueg (xp_ok _ _) (xp_fns _ _) mixed (QmT _) (l := QL23) (by rw [nGlob]; exact QT23) (globs h) (by unfold QL23; exact List.mem_cons_self ..) (vs := [.agg #[.int .i64 13, .int .i64 a1, .int .i64 a2, .int .i64 a3, .int .i64 a4, .int .i64 a5, .int .i64 a6]]) (sy 13 a1 a2 a3 a4 a5 a6 b7 b8 b9 b10 b11 b12) (ora23 hm (by omega) (by omega) (by omega) (by omega) (by omega) (by omega) (by omega) (by omega) (by omega) (by omega) (by omega) (by omega) (by omega) (by omega) (by omega) (by omega) (by omega) (by omega)) ?_
  exact cvs_mk (cvAgg (cvs_mk rfl (cvs_mk (rng_cv rfl (by omega)) (cvs_mk (rng_cv rfl (by omega)) (cvs_mk (rng_cv rfl (by omega)) (cvs_mk (rng_cv rfl (by omega)) (cvs_mk (rng_cv rfl (by omega)) (cvs_mk (rng_cv rfl (by omega)) rfl)))))))) rfl

theorem ora24 {NG : Nat} {W : World} {a0 a1 a2 a3 a4 a5 a6 b7 b8 b9 b10 b11 b12 : Int} (hm : Made a2 a4 a5 b7 b8 b9 b10 b11 b12) (g0 : (2) ≤ a2) (g1 : a2 ≤ 8) (g2 : b7 = a2 + 2) (g3 : b7 ≤ a0) (g4 : a0 ≤ 32) (g5 : (1) ≤ a4) (g6 : a4 ≤ 32) (g7 : (0) ≤ a5) (g8 : a5 ≤ 512) (g9 : b10 = a4 + a5 + 32) (g10 : b12 = 2 * a4 + 2 * a5 + 64) (g11 : b10 ≤ a1) (g12 : a1 ≤ 8192) (g13 : b12 ≤ a3) (g14 : a3 ≤ 65536) (g15 : (1) ≤ a6) (g16 : a6 ≤ 2) (g17 : a0 = 14) : OraOk QO24 (env0 NG W (sy a0 a1 a2 a3 a4 a5 a6 b7 b8 b9 b10 b11 b12)).sy := by
  unfold QO24
  refine ora_cons .i64 a2 .i64 (2) (.int .i64 (fwrap .i64 (iAdd a2 (2)))) rfl rfl rfl (fun e he => res_is (sy := (env0 NG W (sy a0 a1 a2 a3 a4 a5 a6 b7 b8 b9 b10 b11 b12)).sy) (i := 14) he rfl hm.h7) ?_
  refine ora_cons .i64 (16) .i64 a4 (.int .i64 (fwrap .i64 (iAdd (16) a4))) rfl rfl rfl (fun e he => res_is (sy := (env0 NG W (sy a0 a1 a2 a3 a4 a5 a6 b7 b8 b9 b10 b11 b12)).sy) (i := 16) he rfl hm.h8) ?_
  refine ora_cons .i64 b8 .i64 a5 (.int .i64 (fwrap .i64 (iAdd b8 a5))) rfl rfl rfl (fun e he => res_is (sy := (env0 NG W (sy a0 a1 a2 a3 a4 a5 a6 b7 b8 b9 b10 b11 b12)).sy) (i := 18) he rfl hm.h9) ?_
  refine ora_cons .i64 (16) .i64 b9 (.int .i64 (fwrap .i64 (iAdd (16) b9))) rfl rfl rfl (fun e he => res_is (sy := (env0 NG W (sy a0 a1 a2 a3 a4 a5 a6 b7 b8 b9 b10 b11 b12)).sy) (i := 20) he rfl hm.h10) ?_
  refine ora_cons .i64 b9 .i64 (16) (.int .i64 (fwrap .i64 (iAdd b9 (16)))) rfl rfl rfl (fun e he => res_is (sy := (env0 NG W (sy a0 a1 a2 a3 a4 a5 a6 b7 b8 b9 b10 b11 b12)).sy) (i := 22) he rfl hm.h11) ?_
  refine ora_cons .i64 (2) .i64 b11 (.int .i64 (fwrap .i64 ((2) * b11))) rfl rfl rfl (fun e he => res_is (sy := (env0 NG W (sy a0 a1 a2 a3 a4 a5 a6 b7 b8 b9 b10 b11 b12)).sy) (i := 24) he rfl hm.h12) ?_
  refine ora_cons .i64 (14) .i64 b7 (.bool false) rfl rfl (lss_f (by omega)) (fun _ _ => rfl) ?_
  refine ora_cons .i64 a1 .i64 b10 (.bool false) rfl rfl (lss_f (by omega)) (fun _ _ => rfl) ?_
  refine ora_cons .i64 a3 .i64 b12 (.bool false) rfl rfl (lss_f (by omega)) (fun _ _ => rfl) ?_
  refine ora_cons .i64 (14) .i64 b7 (.bool true) rfl rfl (geq_t (by omega)) (fun _ _ => rfl) ?_
  refine ora_cons .i64 a1 .i64 b10 (.bool true) rfl rfl (geq_t (by omega)) (fun _ _ => rfl) ?_
  refine ora_cons .i64 a3 .i64 b12 (.bool true) rfl rfl (geq_t (by omega)) (fun _ _ => rfl) ?_
  exact ora_nil _

theorem case24 {W : World} (h : laidMetH Tryz.prog laidL W) {a0 a1 a2 a3 a4 a5 a6 b7 b8 b9 b10 b11 b12 : Int} (hw : Wf a0 a1 a2 a3 a4 a5 a6) (hm : Made a2 a4 a5 b7 b8 b9 b10 b11 b12) (g0 : (2) ≤ a2) (g1 : a2 ≤ 8) (g2 : b7 = a2 + 2) (g3 : b7 ≤ a0) (g4 : a0 ≤ 32) (g5 : (1) ≤ a4) (g6 : a4 ≤ 32) (g7 : (0) ≤ a5) (g8 : a5 ≤ 512) (g9 : b10 = a4 + a5 + 32) (g10 : b12 = 2 * a4 + 2 * a5 + 64) (g11 : b10 ≤ a1) (g12 : a1 ≤ 8192) (g13 : b12 ≤ a3) (g14 : a3 ≤ 65536) (g15 : (1) ≤ a6) (g16 : a6 ≤ 2) (g17 : a0 = 14) :
    Calls Tryz.prog 3 #[.agg #[.int .i64 a0, .int .i64 a1, .int .i64 a2, .int .i64 a3, .int .i64 a4, .int .i64 a5, .int .i64 a6]] W fun e w' => e = .returned (.bool true) ∧ (∀ B, B < W.heap.size → w'.heap[B]? = W.heap[B]?) ∧ ∀ may, W.keptBut w' may := by
  obtain ⟨w0, w1, w2, w3, w4, w5, w6⟩ := hw
  subst g17
  refine top_trueg (xp_ok _ _) (xp_fns _ _) mixed (QmT _) (l := QL24) (by rw [nGlob]; exact QT24) (globs h) (by unfold QL24; exact List.mem_cons_self ..) (vs := [.agg #[.int .i64 14, .int .i64 a1, .int .i64 a2, .int .i64 a3, .int .i64 a4, .int .i64 a5, .int .i64 a6]]) (sy 14 a1 a2 a3 a4 a5 a6 b7 b8 b9 b10 b11 b12) (ora24 hm (by omega) (by omega) (by omega) (by omega) (by omega) (by omega) (by omega) (by omega) (by omega) (by omega) (by omega) (by omega) (by omega) (by omega) (by omega) (by omega) (by omega) (by omega)) ?_
  exact cvs_mk (cvAgg (cvs_mk rfl (cvs_mk (rng_cv rfl (by omega)) (cvs_mk (rng_cv rfl (by omega)) (cvs_mk (rng_cv rfl (by omega)) (cvs_mk (rng_cv rfl (by omega)) (cvs_mk (rng_cv rfl (by omega)) (cvs_mk (rng_cv rfl (by omega)) rfl)))))))) rfl

theorem ora25 {NG : Nat} {W : World} {a0 a1 a2 a3 a4 a5 a6 b7 b8 b9 b10 b11 b12 : Int} (hm : Made a2 a4 a5 b7 b8 b9 b10 b11 b12) (g0 : (2) ≤ a2) (g1 : a2 ≤ 8) (g2 : b7 = a2 + 2) (g3 : b7 ≤ a0) (g4 : a0 ≤ 32) (g5 : (1) ≤ a4) (g6 : a4 ≤ 32) (g7 : (0) ≤ a5) (g8 : a5 ≤ 512) (g9 : b10 = a4 + a5 + 32) (g10 : b12 = 2 * a4 + 2 * a5 + 64) (g11 : b10 ≤ a1) (g12 : a1 ≤ 8192) (g13 : b12 ≤ a3) (g14 : a3 ≤ 65536) (g15 : (1) ≤ a6) (g16 : a6 ≤ 2) (g17 : a0 = 15) : OraOk QO25 (env0 NG W (sy a0 a1 a2 a3 a4 a5 a6 b7 b8 b9 b10 b11 b12)).sy := by
  unfold QO25
  refine ora_cons .i64 a2 .i64 (2) (.int .i64 (fwrap .i64 (iAdd a2 (2)))) rfl rfl rfl (fun e he => res_is (sy := (env0 NG W (sy a0 a1 a2 a3 a4 a5 a6 b7 b8 b9 b10 b11 b12)).sy) (i := 14) he rfl hm.h7) ?_
  refine ora_cons .i64 (16) .i64 a4 (.int .i64 (fwrap .i64 (iAdd (16) a4))) rfl rfl rfl (fun e he => res_is (sy := (env0 NG W (sy a0 a1 a2 a3 a4 a5 a6 b7 b8 b9 b10 b11 b12)).sy) (i := 16) he rfl hm.h8) ?_
  refine ora_cons .i64 b8 .i64 a5 (.int .i64 (fwrap .i64 (iAdd b8 a5))) rfl rfl rfl (fun e he => res_is (sy := (env0 NG W (sy a0 a1 a2 a3 a4 a5 a6 b7 b8 b9 b10 b11 b12)).sy) (i := 18) he rfl hm.h9) ?_
  refine ora_cons .i64 (16) .i64 b9 (.int .i64 (fwrap .i64 (iAdd (16) b9))) rfl rfl rfl (fun e he => res_is (sy := (env0 NG W (sy a0 a1 a2 a3 a4 a5 a6 b7 b8 b9 b10 b11 b12)).sy) (i := 20) he rfl hm.h10) ?_
  refine ora_cons .i64 b9 .i64 (16) (.int .i64 (fwrap .i64 (iAdd b9 (16)))) rfl rfl rfl (fun e he => res_is (sy := (env0 NG W (sy a0 a1 a2 a3 a4 a5 a6 b7 b8 b9 b10 b11 b12)).sy) (i := 22) he rfl hm.h11) ?_
  refine ora_cons .i64 (2) .i64 b11 (.int .i64 (fwrap .i64 ((2) * b11))) rfl rfl rfl (fun e he => res_is (sy := (env0 NG W (sy a0 a1 a2 a3 a4 a5 a6 b7 b8 b9 b10 b11 b12)).sy) (i := 24) he rfl hm.h12) ?_
  refine ora_cons .i64 (15) .i64 b7 (.bool false) rfl rfl (lss_f (by omega)) (fun _ _ => rfl) ?_
  refine ora_cons .i64 a1 .i64 b10 (.bool false) rfl rfl (lss_f (by omega)) (fun _ _ => rfl) ?_
  refine ora_cons .i64 a3 .i64 b12 (.bool false) rfl rfl (lss_f (by omega)) (fun _ _ => rfl) ?_
  refine ora_cons .i64 (15) .i64 b7 (.bool true) rfl rfl (geq_t (by omega)) (fun _ _ => rfl) ?_
  refine ora_cons .i64 a1 .i64 b10 (.bool true) rfl rfl (geq_t (by omega)) (fun _ _ => rfl) ?_
  refine ora_cons .i64 a3 .i64 b12 (.bool true) rfl rfl (geq_t (by omega)) (fun _ _ => rfl) ?_
  exact ora_nil _

theorem case25 {W : World} (h : laidMetH Tryz.prog laidL W) {a0 a1 a2 a3 a4 a5 a6 b7 b8 b9 b10 b11 b12 : Int} (hw : Wf a0 a1 a2 a3 a4 a5 a6) (hm : Made a2 a4 a5 b7 b8 b9 b10 b11 b12) (g0 : (2) ≤ a2) (g1 : a2 ≤ 8) (g2 : b7 = a2 + 2) (g3 : b7 ≤ a0) (g4 : a0 ≤ 32) (g5 : (1) ≤ a4) (g6 : a4 ≤ 32) (g7 : (0) ≤ a5) (g8 : a5 ≤ 512) (g9 : b10 = a4 + a5 + 32) (g10 : b12 = 2 * a4 + 2 * a5 + 64) (g11 : b10 ≤ a1) (g12 : a1 ≤ 8192) (g13 : b12 ≤ a3) (g14 : a3 ≤ 65536) (g15 : (1) ≤ a6) (g16 : a6 ≤ 2) (g17 : a0 = 15) :
    Calls Tryz.prog 3 #[.agg #[.int .i64 a0, .int .i64 a1, .int .i64 a2, .int .i64 a3, .int .i64 a4, .int .i64 a5, .int .i64 a6]] W fun e w' => e = .returned (.bool true) ∧ (∀ B, B < W.heap.size → w'.heap[B]? = W.heap[B]?) ∧ ∀ may, W.keptBut w' may := by
  obtain ⟨w0, w1, w2, w3, w4, w5, w6⟩ := hw
  subst g17
  refine top_trueg (xp_ok _ _) (xp_fns _ _) mixed (QmT _) (l := QL25) (by rw [nGlob]; exact QT25) (globs h) (by unfold QL25; exact List.mem_cons_self ..) (vs := [.agg #[.int .i64 15, .int .i64 a1, .int .i64 a2, .int .i64 a3, .int .i64 a4, .int .i64 a5, .int .i64 a6]]) (sy 15 a1 a2 a3 a4 a5 a6 b7 b8 b9 b10 b11 b12) (ora25 hm (by omega) (by omega) (by omega) (by omega) (by omega) (by omega) (by omega) (by omega) (by omega) (by omega) (by omega) (by omega) (by omega) (by omega) (by omega) (by omega) (by omega) (by omega)) ?_
  exact cvs_mk (cvAgg (cvs_mk rfl (cvs_mk (rng_cv rfl (by omega)) (cvs_mk (rng_cv rfl (by omega)) (cvs_mk (rng_cv rfl (by omega)) (cvs_mk (rng_cv rfl (by omega)) (cvs_mk (rng_cv rfl (by omega)) (cvs_mk (rng_cv rfl (by omega)) rfl)))))))) rfl

theorem ora26 {NG : Nat} {W : World} {a0 a1 a2 a3 a4 a5 a6 b7 b8 b9 b10 b11 b12 : Int} (hm : Made a2 a4 a5 b7 b8 b9 b10 b11 b12) (g0 : (2) ≤ a2) (g1 : a2 ≤ 8) (g2 : b7 = a2 + 2) (g3 : b7 ≤ a0) (g4 : a0 ≤ 32) (g5 : (1) ≤ a4) (g6 : a4 ≤ 32) (g7 : (0) ≤ a5) (g8 : a5 ≤ 512) (g9 : b10 = a4 + a5 + 32) (g10 : b12 = 2 * a4 + 2 * a5 + 64) (g11 : b10 ≤ a1) (g12 : a1 ≤ 8192) (g13 : b12 ≤ a3) (g14 : a3 ≤ 65536) (g15 : (1) ≤ a6) (g16 : a6 ≤ 2) (g17 : a0 = 16) : OraOk QO26 (env0 NG W (sy a0 a1 a2 a3 a4 a5 a6 b7 b8 b9 b10 b11 b12)).sy := by
  unfold QO26
  refine ora_cons .i64 a2 .i64 (2) (.int .i64 (fwrap .i64 (iAdd a2 (2)))) rfl rfl rfl (fun e he => res_is (sy := (env0 NG W (sy a0 a1 a2 a3 a4 a5 a6 b7 b8 b9 b10 b11 b12)).sy) (i := 14) he rfl hm.h7) ?_
  refine ora_cons .i64 (16) .i64 a4 (.int .i64 (fwrap .i64 (iAdd (16) a4))) rfl rfl rfl (fun e he => res_is (sy := (env0 NG W (sy a0 a1 a2 a3 a4 a5 a6 b7 b8 b9 b10 b11 b12)).sy) (i := 16) he rfl hm.h8) ?_
  refine ora_cons .i64 b8 .i64 a5 (.int .i64 (fwrap .i64 (iAdd b8 a5))) rfl rfl rfl (fun e he => res_is (sy := (env0 NG W (sy a0 a1 a2 a3 a4 a5 a6 b7 b8 b9 b10 b11 b12)).sy) (i := 18) he rfl hm.h9) ?_
  refine ora_cons .i64 (16) .i64 b9 (.int .i64 (fwrap .i64 (iAdd (16) b9))) rfl rfl rfl (fun e he => res_is (sy := (env0 NG W (sy a0 a1 a2 a3 a4 a5 a6 b7 b8 b9 b10 b11 b12)).sy) (i := 20) he rfl hm.h10) ?_
  refine ora_cons .i64 b9 .i64 (16) (.int .i64 (fwrap .i64 (iAdd b9 (16)))) rfl rfl rfl (fun e he => res_is (sy := (env0 NG W (sy a0 a1 a2 a3 a4 a5 a6 b7 b8 b9 b10 b11 b12)).sy) (i := 22) he rfl hm.h11) ?_
  refine ora_cons .i64 (2) .i64 b11 (.int .i64 (fwrap .i64 ((2) * b11))) rfl rfl rfl (fun e he => res_is (sy := (env0 NG W (sy a0 a1 a2 a3 a4 a5 a6 b7 b8 b9 b10 b11 b12)).sy) (i := 24) he rfl hm.h12) ?_
  refine ora_cons .i64 (16) .i64 b7 (.bool false) rfl rfl (lss_f (by omega)) (fun _ _ => rfl) ?_
  refine ora_cons .i64 a1 .i64 b10 (.bool false) rfl rfl (lss_f (by omega)) (fun _ _ => rfl) ?_
  refine ora_cons .i64 a3 .i64 b12 (.bool false) rfl rfl (lss_f (by omega)) (fun _ _ => rfl) ?_
  refine ora_cons .i64 (16) .i64 b7 (.bool true) rfl rfl (geq_t (by omega)) (fun _ _ => rfl) ?_
  refine ora_cons .i64 a1 .i64 b10 (.bool true) rfl rfl (geq_t (by omega)) (fun _ _ => rfl) ?_
  refine ora_cons .i64 a3 .i64 b12 (.bool true) rfl rfl (geq_t (by omega)) (fun _ _ => rfl) ?_
  exact ora_nil _

theorem case26 {W : World} (h : laidMetH Tryz.prog laidL W) {a0 a1 a2 a3 a4 a5 a6 b7 b8 b9 b10 b11 b12 : Int} (hw : Wf a0 a1 a2 a3 a4 a5 a6) (hm : Made a2 a4 a5 b7 b8 b9 b10 b11 b12) (g0 : (2) ≤ a2) (g1 : a2 ≤ 8) (g2 : b7 = a2 + 2) (g3 : b7 ≤ a0) (g4 : a0 ≤ 32) (g5 : (1) ≤ a4) (g6 : a4 ≤ 32) (g7 : (0) ≤ a5) (g8 : a5 ≤ 512) (g9 : b10 = a4 + a5 + 32) (g10 : b12 = 2 * a4 + 2 * a5 + 64) (g11 : b10 ≤ a1) (g12 : a1 ≤ 8192) (g13 : b12 ≤ a3) (g14 : a3 ≤ 65536) (g15 : (1) ≤ a6) (g16 : a6 ≤ 2) (g17 : a0 = 16) :
    Calls Tryz.prog 3 #[.agg #[.int .i64 a0, .int .i64 a1, .int .i64 a2, .int .i64 a3, .int .i64 a4, .int .i64 a5, .int .i64 a6]] W fun e w' => e = .returned (.bool true) ∧ (∀ B, B < W.heap.size → w'.heap[B]? = W.heap[B]?) ∧ ∀ may, W.keptBut w' may := by
  obtain ⟨w0, w1, w2, w3, w4, w5, w6⟩ := hw
  subst g17
  refine top_trueg (xp_ok _ _) (xp_fns _ _) mixed (QmT _) (l := QL26) (by rw [nGlob]; exact QT26) (globs h) (by unfold QL26; exact List.mem_cons_self ..) (vs := [.agg #[.int .i64 16, .int .i64 a1, .int .i64 a2, .int .i64 a3, .int .i64 a4, .int .i64 a5, .int .i64 a6]]) (sy 16 a1 a2 a3 a4 a5 a6 b7 b8 b9 b10 b11 b12) (ora26 hm (by omega) (by omega) (by omega) (by omega) (by omega) (by omega) (by omega) (by omega) (by omega) (by omega) (by omega) (by omega) (by omega) (by omega) (by omega) (by omega) (by omega) (by omega)) ?_
  exact cvs_mk (cvAgg (cvs_mk rfl (cvs_mk (rng_cv rfl (by omega)) (cvs_mk (rng_cv rfl (by omega)) (cvs_mk (rng_cv rfl (by omega)) (cvs_mk (rng_cv rfl (by omega)) (cvs_mk (rng_cv rfl (by omega)) (cvs_mk (rng_cv rfl (by omega)) rfl)))))))) rfl

theorem ora27 {NG : Nat} {W : World} {a0 a1 a2 a3 a4 a5 a6 b7 b8 b9 b10 b11 b12 : Int} (hm : Made a2 a4 a5 b7 b8 b9 b10 b11 b12) (g0 : (2) ≤ a2) (g1 : a2 ≤ 8) (g2 : b7 = a2 + 2) (g3 : b7 ≤ a0) (g4 : a0 ≤ 32) (g5 : (1) ≤ a4) (g6 : a4 ≤ 32) (g7 : (0) ≤ a5) (g8 : a5 ≤ 512) (g9 : b10 = a4 + a5 + 32) (g10 : b12 = 2 * a4 + 2 * a5 + 64) (g11 : b10 ≤ a1) (g12 : a1 ≤ 8192) (g13 : b12 ≤ a3) (g14 : a3 ≤ 65536) (g15 : (1) ≤ a6) (g16 : a6 ≤ 2) (g17 : a0 = 17) : OraOk QO27 (env0 NG W (sy a0 a1 a2 a3 a4 a5 a6 b7 b8 b9 b10 b11 b12)).sy := by
  unfold QO27
  refine ora_cons .i64 a2 .i64 (2) (.int .i64 (fwrap .i64 (iAdd a2 (2)))) rfl rfl rfl (fun e he => res_is (sy := (env0 NG W (sy a0 a1 a2 a3 a4 a5 a6 b7 b8 b9 b10 b11 b12)).sy) (i := 14) he rfl hm.h7) ?_
  refine ora_cons .i64 (16) .i64 a4 (.int .i64 (fwrap .i64 (iAdd (16) a4))) rfl rfl rfl (fun e he => res_is (sy := (env0 NG W (sy a0 a1 a2 a3 a4 a5 a6 b7 b8 b9 b10 b11 b12)).sy) (i := 16) he rfl hm.h8) ?_
  refine ora_cons .i64 b8 .i64 a5 (.int .i64 (fwrap .i64 (iAdd b8 a5))) rfl rfl rfl (fun e he => res_is (sy := (env0 NG W (sy a0 a1 a2 a3 a4 a5 a6 b7 b8 b9 b10 b11 b12)).sy) (i := 18) he rfl hm.h9) ?_
  refine ora_cons .i64 (16) .i64 b9 (.int .i64 (fwrap .i64 (iAdd (16) b9))) rfl rfl rfl (fun e he => res_is (sy := (env0 NG W (sy a0 a1 a2 a3 a4 a5 a6 b7 b8 b9 b10 b11 b12)).sy) (i := 20) he rfl hm.h10) ?_
  refine ora_cons .i64 b9 .i64 (16) (.int .i64 (fwrap .i64 (iAdd b9 (16)))) rfl rfl rfl (fun e he => res_is (sy := (env0 NG W (sy a0 a1 a2 a3 a4 a5 a6 b7 b8 b9 b10 b11 b12)).sy) (i := 22) he rfl hm.h11) ?_
  refine ora_cons .i64 (2) .i64 b11 (.int .i64 (fwrap .i64 ((2) * b11))) rfl rfl rfl (fun e he => res_is (sy := (env0 NG W (sy a0 a1 a2 a3 a4 a5 a6 b7 b8 b9 b10 b11 b12)).sy) (i := 24) he rfl hm.h12) ?_
  refine ora_cons .i64 (17) .i64 b7 (.bool false) rfl rfl (lss_f (by omega)) (fun _ _ => rfl) ?_
  refine ora_cons .i64 a1 .i64 b10 (.bool false) rfl rfl (lss_f (by omega)) (fun _ _ => rfl) ?_
  refine ora_cons .i64 a3 .i64 b12 (.bool false) rfl rfl (lss_f (by omega)) (fun _ _ => rfl) ?_
  refine ora_cons .i64 (17) .i64 b7 (.bool true) rfl rfl (geq_t (by omega)) (fun _ _ => rfl) ?_
  refine ora_cons .i64 a1 .i64 b10 (.bool true) rfl rfl (geq_t (by omega)) (fun _ _ => rfl) ?_
  refine ora_cons .i64 a3 .i64 b12 (.bool true) rfl rfl (geq_t (by omega)) (fun _ _ => rfl) ?_
  exact ora_nil _

theorem case27 {W : World} (h : laidMetH Tryz.prog laidL W) {a0 a1 a2 a3 a4 a5 a6 b7 b8 b9 b10 b11 b12 : Int} (hw : Wf a0 a1 a2 a3 a4 a5 a6) (hm : Made a2 a4 a5 b7 b8 b9 b10 b11 b12) (g0 : (2) ≤ a2) (g1 : a2 ≤ 8) (g2 : b7 = a2 + 2) (g3 : b7 ≤ a0) (g4 : a0 ≤ 32) (g5 : (1) ≤ a4) (g6 : a4 ≤ 32) (g7 : (0) ≤ a5) (g8 : a5 ≤ 512) (g9 : b10 = a4 + a5 + 32) (g10 : b12 = 2 * a4 + 2 * a5 + 64) (g11 : b10 ≤ a1) (g12 : a1 ≤ 8192) (g13 : b12 ≤ a3) (g14 : a3 ≤ 65536) (g15 : (1) ≤ a6) (g16 : a6 ≤ 2) (g17 : a0 = 17) :
    Calls Tryz.prog 3 #[.agg #[.int .i64 a0, .int .i64 a1, .int .i64 a2, .int .i64 a3, .int .i64 a4, .int .i64 a5, .int .i64 a6]] W fun e w' => e = .returned (.bool true) ∧ (∀ B, B < W.heap.size → w'.heap[B]? = W.heap[B]?) ∧ ∀ may, W.keptBut w' may := by
  obtain ⟨w0, w1, w2, w3, w4, w5, w6⟩ := hw
  subst g17
  refine top_trueg (xp_ok _ _) (xp_fns _ _) mixed (QmT _) (l := QL27) (by rw [nGlob]; exact QT27) (globs h) (by unfold QL27; exact List.mem_cons_self ..) (vs := [.agg #[.int .i64 17, .int .i64 a1, .int .i64 a2, .int .i64 a3, .int .i64 a4, .int .i64 a5, .int .i64 a6]]) (sy 17 a1 a2 a3 a4 a5 a6 b7 b8 b9 b10 b11 b12) (ora27 hm (by omega) (by omega) (by omega) (by omega) (by omega) (by omega) (by omega) (by omega) (by omega) (by omega) (by omega) (by omega) (by omega) (by omega) (by omega) (by omega) (by omega) (by omega)) ?_
  exact cvs_mk (cvAgg (cvs_mk rfl (cvs_mk (rng_cv rfl (by omega)) (cvs_mk (rng_cv rfl (by omega)) (cvs_mk (rng_cv rfl (by omega)) (cvs_mk (rng_cv rfl (by omega)) (cvs_mk (rng_cv rfl (by omega)) (cvs_mk (rng_cv rfl (by omega)) rfl)))))))) rfl

theorem ora28 {NG : Nat} {W : World} {a0 a1 a2 a3 a4 a5 a6 b7 b8 b9 b10 b11 b12 : Int} (hm : Made a2 a4 a5 b7 b8 b9 b10 b11 b12) (g0 : (2) ≤ a2) (g1 : a2 ≤ 8) (g2 : b7 = a2 + 2) (g3 : b7 ≤ a0) (g4 : a0 ≤ 32) (g5 : (1) ≤ a4) (g6 : a4 ≤ 32) (g7 : (0) ≤ a5) (g8 : a5 ≤ 512) (g9 : b10 = a4 + a5 + 32) (g10 : b12 = 2 * a4 + 2 * a5 + 64) (g11 : b10 ≤ a1) (g12 : a1 ≤ 8192) (g13 : b12 ≤ a3) (g14 : a3 ≤ 65536) (g15 : (1) ≤ a6) (g16 : a6 ≤ 2) (g17 : a0 = 18) : OraOk QO28 (env0 NG W (sy a0 a1 a2 a3 a4 a5 a6 b7 b8 b9 b10 b11 b12)).sy := by
  unfold QO28
  refine ora_cons .i64 a2 .i64 (2) (.int .i64 (fwrap .i64 (iAdd a2 (2)))) rfl rfl rfl (fun e he => res_is (sy := (env0 NG W (sy a0 a1 a2 a3 a4 a5 a6 b7 b8 b9 b10 b11 b12)).sy) (i := 14) he rfl hm.h7) ?_
  refine ora_cons .i64 (16) .i64 a4 (.int .i64 (fwrap .i64 (iAdd (16) a4))) rfl rfl rfl (fun e he => res_is (sy := (env0 NG W (sy a0 a1 a2 a3 a4 a5 a6 b7 b8 b9 b10 b11 b12)).sy) (i := 16) he rfl hm.h8) ?_
  refine ora_cons .i64 b8 .i64 a5 (.int .i64 (fwrap .i64 (iAdd b8 a5))) rfl rfl rfl (fun e he => res_is (sy := (env0 NG W (sy a0 a1 a2 a3 a4 a5 a6 b7 b8 b9 b10 b11 b12)).sy) (i := 18) he rfl hm.h9) ?_
  refine ora_cons .i64 (16) .i64 b9 (.int .i64 (fwrap .i64 (iAdd (16) b9))) rfl rfl rfl (fun e he => res_is (sy := (env0 NG W (sy a0 a1 a2 a3 a4 a5 a6 b7 b8 b9 b10 b11 b12)).sy) (i := 20) he rfl hm.h10) ?_
  refine ora_cons .i64 b9 .i64 (16) (.int .i64 (fwrap .i64 (iAdd b9 (16)))) rfl rfl rfl (fun e he => res_is (sy := (env0 NG W (sy a0 a1 a2 a3 a4 a5 a6 b7 b8 b9 b10 b11 b12)).sy) (i := 22) he rfl hm.h11) ?_
  refine ora_cons .i64 (2) .i64 b11 (.int .i64 (fwrap .i64 ((2) * b11))) rfl rfl rfl (fun e he => res_is (sy := (env0 NG W (sy a0 a1 a2 a3 a4 a5 a6 b7 b8 b9 b10 b11 b12)).sy) (i := 24) he rfl hm.h12) ?_
  refine ora_cons .i64 (18) .i64 b7 (.bool false) rfl rfl (lss_f (by omega)) (fun _ _ => rfl) ?_
  refine ora_cons .i64 a1 .i64 b10 (.bool false) rfl rfl (lss_f (by omega)) (fun _ _ => rfl) ?_
  refine ora_cons .i64 a3 .i64 b12 (.bool false) rfl rfl (lss_f (by omega)) (fun _ _ => rfl) ?_
  refine ora_cons .i64 (18) .i64 b7 (.bool true) rfl rfl (geq_t (by omega)) (fun _ _ => rfl) ?_
  refine ora_cons .i64 a1 .i64 b10 (.bool true) rfl rfl (geq_t (by omega)) (fun _ _ => rfl) ?_
  refine ora_cons .i64 a3 .i64 b12 (.bool true) rfl rfl (geq_t (by omega)) (fun _ _ => rfl) ?_
  exact ora_nil _

theorem case28 {W : World} (h : laidMetH Tryz.prog laidL W) {a0 a1 a2 a3 a4 a5 a6 b7 b8 b9 b10 b11 b12 : Int} (hw : Wf a0 a1 a2 a3 a4 a5 a6) (hm : Made a2 a4 a5 b7 b8 b9 b10 b11 b12) (g0 : (2) ≤ a2) (g1 : a2 ≤ 8) (g2 : b7 = a2 + 2) (g3 : b7 ≤ a0) (g4 : a0 ≤ 32) (g5 : (1) ≤ a4) (g6 : a4 ≤ 32) (g7 : (0) ≤ a5) (g8 : a5 ≤ 512) (g9 : b10 = a4 + a5 + 32) (g10 : b12 = 2 * a4 + 2 * a5 + 64) (g11 : b10 ≤ a1) (g12 : a1 ≤ 8192) (g13 : b12 ≤ a3) (g14 : a3 ≤ 65536) (g15 : (1) ≤ a6) (g16 : a6 ≤ 2) (g17 : a0 = 18) :
    Calls Tryz.prog 3 #[.agg #[.int .i64 a0, .int .i64 a1, .int .i64 a2, .int .i64 a3, .int .i64 a4, .int .i64 a5, .int .i64 a6]] W fun e w' => e = .returned (.bool true) ∧ (∀ B, B < W.heap.size → w'.heap[B]? = W.heap[B]?) ∧ ∀ may, W.keptBut w' may := by
  obtain ⟨w0, w1, w2, w3, w4, w5, w6⟩ := hw
  subst g17
  refine top_trueg (xp_ok _ _) (xp_fns _ _) mixed (QmT _) (l := QL28) (by rw [nGlob]; exact QT28) (globs h) (by unfold QL28; exact List.mem_cons_self ..) (vs := [.agg #[.int .i64 18, .int .i64 a1, .int .i64 a2, .int .i64 a3, .int .i64 a4, .int .i64 a5, .int .i64 a6]]) (sy 18 a1 a2 a3 a4 a5 a6 b7 b8 b9 b10 b11 b12) (ora28 hm (by omega) (by omega) (by omega) (by omega) (by omega) (by omega) (by omega) (by omega) (by omega) (by omega) (by omega) (by omega) (by omega) (by omega) (by omega) (by omega) (by omega) (by omega)) ?_
  exact cvs_mk (cvAgg (cvs_mk rfl (cvs_mk (rng_cv rfl (by omega)) (cvs_mk (rng_cv rfl (by omega)) (cvs_mk (rng_cv rfl (by omega)) (cvs_mk (rng_cv rfl (by omega)) (cvs_mk (rng_cv rfl (by omega)) (cvs_mk (rng_cv rfl (by omega)) rfl)))))))) rfl

theorem ora29 {NG : Nat} {W : World} {a0 a1 a2 a3 a4 a5 a6 b7 b8 b9 b10 b11 b12 : Int} (hm : Made a2 a4 a5 b7 b8 b9 b10 b11 b12) (g0 : (2) ≤ a2) (g1 : a2 ≤ 8) (g2 : b7 = a2 + 2) (g3 : b7 ≤ a0) (g4 : a0 ≤ 32) (g5 : (1) ≤ a4) (g6 : a4 ≤ 32) (g7 : (0) ≤ a5) (g8 : a5 ≤ 512) (g9 : b10 = a4 + a5 + 32) (g10 : b12 = 2 * a4 + 2 * a5 + 64) (g11 : b10 ≤ a1) (g12 : a1 ≤ 8192) (g13 : b12 ≤ a3) (g14 : a3 ≤ 65536) (g15 : (1) ≤ a6) (g16 : a6 ≤ 2) (g17 : a0 = 19) : OraOk QO29 (env0 NG W (sy a0 a1 a2 a3 a4 a5 a6 b7 b8 b9 b10 b11 b12)).sy := by
  unfold QO29
  refine ora_cons .i64 a2 .i64 (2) (.int .i64 (fwrap .i64 (iAdd a2 (2)))) rfl rfl rfl (fun e he => res_is (sy := (env0 NG W (sy a0 a1 a2 a3 a4 a5 a6 b7 b8 b9 b10 b11 b12)).sy) (i := 14) he rfl hm.h7) ?_
  refine ora_cons .i64 (16) .i64 a4 (.int .i64 (fwrap .i64 (iAdd (16) a4))) rfl rfl rfl (fun e he => res_is (sy := (env0 NG W (sy a0 a1 a2 a3 a4 a5 a6 b7 b8 b9 b10 b11 b12)).sy) (i := 16) he rfl hm.h8) ?_
  refine ora_cons .i64 b8 .i64 a5 (.int .i64 (fwrap .i64 (iAdd b8 a5))) rfl rfl rfl (fun e he => res_is (sy := (env0 NG W (sy a0 a1 a2 a3 a4 a5 a6 b7 b8 b9 b10 b11 b12)).sy) (i := 18) he rfl hm.h9) ?_
  refine ora_cons .i64 (16) .i64 b9 (.int .i64 (fwrap .i64 (iAdd (16) b9))) rfl rfl rfl (fun e he => res_is (sy := (env0 NG W (sy a0 a1 a2 a3 a4 a5 a6 b7 b8 b9 b10 b11 b12)).sy) (i := 20) he rfl hm.h10) ?_
  refine ora_cons .i64 b9 .i64 (16) (.int .i64 (fwrap .i64 (iAdd b9 (16)))) rfl rfl rfl (fun e he => res_is (sy := (env0 NG W (sy a0 a1 a2 a3 a4 a5 a6 b7 b8 b9 b10 b11 b12)).sy) (i := 22) he rfl hm.h11) ?_
  refine ora_cons .i64 (2) .i64 b11 (.int .i64 (fwrap .i64 ((2) * b11))) rfl rfl rfl (fun e he => res_is (sy := (env0 NG W (sy a0 a1 a2 a3 a4 a5 a6 b7 b8 b9 b10 b11 b12)).sy) (i := 24) he rfl hm.h12) ?_
  refine ora_cons .i64 (19) .i64 b7 (.bool false) rfl rfl (lss_f (by omega)) (fun _ _ => rfl) ?_
  refine ora_cons .i64 a1 .i64 b10 (.bool false) rfl rfl (lss_f (by omega)) (fun _ _ => rfl) ?_
  refine ora_cons .i64 a3 .i64 b12 (.bool false) rfl rfl (lss_f (by omega)) (fun _ _ => rfl) ?_
  refine ora_cons .i64 (19) .i64 b7 (.bool true) rfl rfl (geq_t (by omega)) (fun _ _ => rfl) ?_
  refine ora_cons .i64 a1 .i64 b10 (.bool true) rfl rfl (geq_t (by omega)) (fun _ _ => rfl) ?_
  refine ora_cons .i64 a3 .i64 b12 (.bool true) rfl rfl (geq_t (by omega)) (fun _ _ => rfl) ?_
  exact ora_nil _

theorem case29 {W : World} (h : laidMetH Tryz.prog laidL W) {a0 a1 a2 a3 a4 a5 a6 b7 b8 b9 b10 b11 b12 : Int} (hw : Wf a0 a1 a2 a3 a4 a5 a6) (hm : Made a2 a4 a5 b7 b8 b9 b10 b11 b12) (g0 : (2) ≤ a2) (g1 : a2 ≤ 8) (g2 : b7 = a2 + 2) (g3 : b7 ≤ a0) (g4 : a0 ≤ 32) (g5 : (1) ≤ a4) (g6 : a4 ≤ 32) (g7 : (0) ≤ a5) (g8 : a5 ≤ 512) (g9 : b10 = a4 + a5 + 32) (g10 : b12 = 2 * a4 + 2 * a5 + 64) (g11 : b10 ≤ a1) (g12 : a1 ≤ 8192) (g13 : b12 ≤ a3) (g14 : a3 ≤ 65536) (g15 : (1) ≤ a6) (g16 : a6 ≤ 2) (g17 : a0 = 19) :
    Calls Tryz.prog 3 #[.agg #[.int .i64 a0, .int .i64 a1, .int .i64 a2, .int .i64 a3, .int .i64 a4, .int .i64 a5, .int .i64 a6]] W fun e w' => e = .returned (.bool true) ∧ (∀ B, B < W.heap.size → w'.heap[B]? = W.heap[B]?) ∧ ∀ may, W.keptBut w' may := by
  obtain ⟨w0, w1, w2, w3, w4, w5, w6⟩ := hw
  subst g17
  refine top_trueg (xp_ok _ _) (xp_fns _ _) mixed (QmT _) (l := QL29) (by rw [nGlob]; exact QT29) (globs h) (by unfold QL29; exact List.mem_cons_self ..) (vs := [.agg #[.int .i64 19, .int .i64 a1, .int .i64 a2, .int .i64 a3, .int .i64 a4, .int .i64 a5, .int .i64 a6]]) (sy 19 a1 a2 a3 a4 a5 a6 b7 b8 b9 b10 b11 b12) (ora29 hm (by omega) (by omega) (by omega) (by omega) (by omega) (by omega) (by omega) (by omega) (by omega) (by omega) (by omega) (by omega) (by omega) (by omega) (by omega) (by omega) (by omega) (by omega)) ?_
  exact cvs_mk (cvAgg (cvs_mk rfl (cvs_mk (rng_cv rfl (by omega)) (cvs_mk (rng_cv rfl (by omega)) (cvs_mk (rng_cv rfl (by omega)) (cvs_mk (rng_cv rfl (by omega)) (cvs_mk (rng_cv rfl (by omega)) (cvs_mk (rng_cv rfl (by omega)) rfl)))))))) rfl

theorem ora30 {NG : Nat} {W : World} {a0 a1 a2 a3 a4 a5 a6 b7 b8 b9 b10 b11 b12 : Int} (hm : Made a2 a4 a5 b7 b8 b9 b10 b11 b12) (g0 : (2) ≤ a2) (g1 : a2 ≤ 8) (g2 : b7 = a2 + 2) (g3 : b7 ≤ a0) (g4 : a0 ≤ 32) (g5 : (1) ≤ a4) (g6 : a4 ≤ 32) (g7 : (0) ≤ a5) (g8 : a5 ≤ 512) (g9 : b10 = a4 + a5 + 32) (g10 : b12 = 2 * a4 + 2 * a5 + 64) (g11 : b10 ≤ a1) (g12 : a1 ≤ 8192) (g13 : b12 ≤ a3) (g14 : a3 ≤ 65536) (g15 : (1) ≤ a6) (g16 : a6 ≤ 2) (g17 : a0 = 20) : OraOk QO30 (env0 NG W (sy a0 a1 a2 a3 a4 a5 a6 b7 b8 b9 b10 b11 b12)).sy := by
  unfold QO30
  refine ora_cons .i64 a2 .i64 (2) (.int .i64 (fwrap .i64 (iAdd a2 (2)))) rfl rfl rfl (fun e he => res_is (sy := (env0 NG W (sy a0 a1 a2 a3 a4 a5 a6 b7 b8 b9 b10 b11 b12)).sy) (i := 14) he rfl hm.h7) ?_
  refine ora_cons .i64 (16) .i64 a4 (.int .i64 (fwrap .i64 (iAdd (16) a4))) rfl rfl rfl (fun e he => res_is (sy := (env0 NG W (sy a0 a1 a2 a3 a4 a5 a6 b7 b8 b9 b10 b11 b12)).sy) (i := 16) he rfl hm.h8) ?_
  refine ora_cons .i64 b8 .i64 a5 (.int .i64 (fwrap .i64 (iAdd b8 a5))) rfl rfl rfl (fun e he => res_is (sy := (env0 NG W (sy a0 a1 a2 a3 a4 a5 a6 b7 b8 b9 b10 b11 b12)).sy) (i := 18) he rfl hm.h9) ?_
  refine ora_cons .i64 (16) .i64 b9 (.int .i64 (fwrap .i64 (iAdd (16) b9))) rfl rfl rfl (fun e he => res_is (sy := (env0 NG W (sy a0 a1 a2 a3 a4 a5 a6 b7 b8 b9 b10 b11 b12)).sy) (i := 20) he rfl hm.h10) ?_
  refine ora_cons .i64 b9 .i64 (16) (.int .i64 (fwrap .i64 (iAdd b9 (16)))) rfl rfl rfl (fun e he => res_is (sy := (env0 NG W (sy a0 a1 a2 a3 a4 a5 a6 b7 b8 b9 b10 b11 b12)).sy) (i := 22) he rfl hm.h11) ?_
  refine ora_cons .i64 (2) .i64 b11 (.int .i64 (fwrap .i64 ((2) * b11))) rfl rfl rfl (fun e he => res_is (sy := (env0 NG W (sy a0 a1 a2 a3 a4 a5 a6 b7 b8 b9 b10 b11 b12)).sy) (i := 24) he rfl hm.h12) ?_
  refine ora_cons .i64 (20) .i64 b7 (.bool false) rfl rfl (lss_f (by omega)) (fun _ _ => rfl) ?_
  refine ora_cons .i64 a1 .i64 b10 (.bool false) rfl rfl (lss_f (by omega)) (fun _ _ => rfl) ?_
  refine ora_cons .i64 a3 .i64 b12 (.bool false) rfl rfl (lss_f (by omega)) (fun _ _ => rfl) ?_
  refine ora_cons .i64 (20) .i64 b7 (.bool true) rfl rfl (geq_t (by omega)) (fun _ _ => rfl) ?_
  refine ora_cons .i64 a1 .i64 b10 (.bool true) rfl rfl (geq_t (by omega)) (fun _ _ => rfl) ?_
  refine ora_cons .i64 a3 .i64 b12 (.bool true) rfl rfl (geq_t (by omega)) (fun _ _ => rfl) ?_
  exact ora_nil _

theorem case30 {W : World} (h : laidMetH Tryz.prog laidL W) {a0 a1 a2 a3 a4 a5 a6 b7 b8 b9 b10 b11 b12 : Int} (hw : Wf a0 a1 a2 a3 a4 a5 a6) (hm : Made a2 a4 a5 b7 b8 b9 b10 b11 b12) (g0 : (2) ≤ a2) (g1 : a2 ≤ 8) (g2 : b7 = a2 + 2) (g3 : b7 ≤ a0) (g4 : a0 ≤ 32) (g5 : (1) ≤ a4) (g6 : a4 ≤ 32) (g7 : (0) ≤ a5) (g8 : a5 ≤ 512) (g9 : b10 = a4 + a5 + 32) (g10 : b12 = 2 * a4 + 2 * a5 + 64) (g11 : b10 ≤ a1) (g12 : a1 ≤ 8192) (g13 : b12 ≤ a3) (g14 : a3 ≤ 65536) (g15 : (1) ≤ a6) (g16 : a6 ≤ 2) (g17 : a0 = 20) :
    Calls Tryz.prog 3 #[.agg #[.int .i64 a0, .int .i64 a1, .int .i64 a2, .int .i64 a3, .int .i64 a4, .int .i64 a5, .int .i64 a6]] W fun e w' => e = .returned (.bool true) ∧ (∀ B, B < W.heap.size → w'.heap[B]? = W.heap[B]?) ∧ ∀ may, W.keptBut w' may := by
  obtain ⟨w0, w1, w2, w3, w4, w5, w6⟩ := hw
  subst g17
  refine top_trueg (xp_ok _ _) (xp_fns _ _) mixed (QmT _) (l := QL30) (by rw [nGlob]; exact QT30) (globs h) (by unfold QL30; exact List.mem_cons_self ..) (vs := [.agg #[.int .i64 20, .int .i64 a1, .int .i64 a2, .int .i64 a3, .int .i64 a4, .int .i64 a5, .int .i64 a6]]) (sy 20 a1 a2 a3 a4 a5 a6 b7 b8 b9 b10 b11 b12) (ora30 hm (by omega) (by omega) (by omega) (by omega) (by omega) (by omega) (by omega) (by omega) (by omega) (by omega) (by omega) (by omega) (by omega) (by omega) (by omega) (by omega) (by omega) (by omega)) ?_
  exact cvs_mk (cvAgg (cvs_mk rfl (cvs_mk (rng_cv rfl (by omega)) (cvs_mk (rng_cv rfl (by omega)) (cvs_mk (rng_cv rfl (by omega)) (cvs_mk (rng_cv rfl (by omega)) (cvs_mk (rng_cv rfl (by omega)) (cvs_mk (rng_cv rfl (by omega)) rfl)))))))) rfl

theorem ora31 {NG : Nat} {W : World} {a0 a1 a2 a3 a4 a5 a6 b7 b8 b9 b10 b11 b12 : Int} (hm : Made a2 a4 a5 b7 b8 b9 b10 b11 b12) (g0 : (2) ≤ a2) (g1 : a2 ≤ 8) (g2 : b7 = a2 + 2) (g3 : b7 ≤ a0) (g4 : a0 ≤ 32) (g5 : (1) ≤ a4) (g6 : a4 ≤ 32) (g7 : (0) ≤ a5) (g8 : a5 ≤ 512) (g9 : b10 = a4 + a5 + 32) (g10 : b12 = 2 * a4 + 2 * a5 + 64) (g11 : b10 ≤ a1) (g12 : a1 ≤ 8192) (g13 : b12 ≤ a3) (g14 : a3 ≤ 65536) (g15 : (1) ≤ a6) (g16 : a6 ≤ 2) (g17 : a0 = 21) : OraOk QO31 (env0 NG W (sy a0 a1 a2 a3 a4 a5 a6 b7 b8 b9 b10 b11 b12)).sy := by
  unfold QO31
  refine ora_cons .i64 a2 .i64 (2) (.int .i64 (fwrap .i64 (iAdd a2 (2)))) rfl rfl rfl (fun e he => res_is (sy := (env0 NG W (sy a0 a1 a2 a3 a4 a5 a6 b7 b8 b9 b10 b11 b12)).sy) (i := 14) he rfl hm.h7) ?_
  refine ora_cons .i64 (16) .i64 a4 (.int .i64 (fwrap .i64 (iAdd (16) a4))) rfl rfl rfl (fun e he => res_is (sy := (env0 NG W (sy a0 a1 a2 a3 a4 a5 a6 b7 b8 b9 b10 b11 b12)).sy) (i := 16) he rfl hm.h8) ?_
  refine ora_cons .i64 b8 .i64 a5 (.int .i64 (fwrap .i64 (iAdd b8 a5))) rfl rfl rfl (fun e he => res_is (sy := (env0 NG W (sy a0 a1 a2 a3 a4 a5 a6 b7 b8 b9 b10 b11 b12)).sy) (i := 18) he rfl hm.h9) ?_
  refine ora_cons .i64 (16) .i64 b9 (.int .i64 (fwrap .i64 (iAdd (16) b9))) rfl rfl rfl (fun e he => res_is (sy := (env0 NG W (sy a0 a1 a2 a3 a4 a5 a6 b7 b8 b9 b10 b11 b12)).sy) (i := 20) he rfl hm.h10) ?_
  refine ora_cons .i64 b9 .i64 (16) (.int .i64 (fwrap .i64 (iAdd b9 (16)))) rfl rfl rfl (fun e he => res_is (sy := (env0 NG W (sy a0 a1 a2 a3 a4 a5 a6 b7 b8 b9 b10 b11 b12)).sy) (i := 22) he rfl hm.h11) ?_
  refine ora_cons .i64 (2) .i64 b11 (.int .i64 (fwrap .i64 ((2) * b11))) rfl rfl rfl (fun e he => res_is (sy := (env0 NG W (sy a0 a1 a2 a3 a4 a5 a6 b7 b8 b9 b10 b11 b12)).sy) (i := 24) he rfl hm.h12) ?_
  refine ora_cons .i64 (21) .i64 b7 (.bool false) rfl rfl (lss_f (by omega)) (fun _ _ => rfl) ?_
  refine ora_cons .i64 a1 .i64 b10 (.bool false) rfl rfl (lss_f (by omega)) (fun _ _ => rfl) ?_
  refine ora_cons .i64 a3 .i64 b12 (.bool false) rfl rfl (lss_f (by omega)) (fun _ _ => rfl) ?_
  refine ora_cons .i64 (21) .i64 b7 (.bool true) rfl rfl (geq_t (by omega)) (fun _ _ => rfl) ?_
  refine ora_cons .i64 a1 .i64 b10 (.bool true) rfl rfl (geq_t (by omega)) (fun _ _ => rfl) ?_
  refine ora_cons .i64 a3 .i64 b12 (.bool true) rfl rfl (geq_t (by omega)) (fun _ _ => rfl) ?_
  exact ora_nil _

theorem case31 {W : World} (h : laidMetH Tryz.prog laidL W) {a0 a1 a2 a3 a4 a5 a6 b7 b8 b9 b10 b11 b12 : Int} (hw : Wf a0 a1 a2 a3 a4 a5 a6) (hm : Made a2 a4 a5 b7 b8 b9 b10 b11 b12) (g0 : (2) ≤ a2) (g1 : a2 ≤ 8) (g2 : b7 = a2 + 2) (g3 : b7 ≤ a0) (g4 : a0 ≤ 32) (g5 : (1) ≤ a4) (g6 : a4 ≤ 32) (g7 : (0) ≤ a5) (g8 : a5 ≤ 512) (g9 : b10 = a4 + a5 + 32) (g10 : b12 = 2 * a4 + 2 * a5 + 64) (g11 : b10 ≤ a1) (g12 : a1 ≤ 8192) (g13 : b12 ≤ a3) (g14 : a3 ≤ 65536) (g15 : (1) ≤ a6) (g16 : a6 ≤ 2) (g17 : a0 = 21) :
    Calls Tryz.prog 3 #[.agg #[.int .i64 a0, .int .i64 a1, .int .i64 a2, .int .i64 a3, .int .i64 a4, .int .i64 a5, .int .i64 a6]] W fun e w' => e = .returned (.bool true) ∧ (∀ B, B < W.heap.size → w'.heap[B]? = W.heap[B]?) ∧ ∀ may, W.keptBut w' may := by
  obtain ⟨w0, w1, w2, w3, w4, w5, w6⟩ := hw
  subst g17
  refine top_trueg (xp_ok _ _) (xp_fns _ _) mixed (QmT _) (l := QL31) (by rw [nGlob]; exact QT31) (globs h) (by unfold QL31; exact List.mem_cons_self ..) (vs := [.agg #[.int .i64 21, .int .i64 a1, .int .i64 a2, .int .i64 a3, .int .i64 a4, .int .i64 a5, .int .i64 a6]]) (sy 21 a1 a2 a3 a4 a5 a6 b7 b8 b9 b10 b11 b12) (ora31 hm (by omega) (by omega) (by omega) (by omega) (by omega) (by omega) (by omega) (by omega) (by omega) (by omega) (by omega) (by omega) (by omega) (by omega) (by omega) (by omega) (by omega) (by omega)) ?_
  exact cvs_mk (cvAgg (cvs_mk rfl (cvs_mk (rng_cv rfl (by omega)) (cvs_mk (rng_cv rfl (by omega)) (cvs_mk (rng_cv rfl (by omega)) (cvs_mk (rng_cv rfl (by omega)) (cvs_mk (rng_cv rfl (by omega)) (cvs_mk (rng_cv rfl (by omega)) rfl)))))))) rfl

theorem ora32 {NG : Nat} {W : World} {a0 a1 a2 a3 a4 a5 a6 b7 b8 b9 b10 b11 b12 : Int} (hm : Made a2 a4 a5 b7 b8 b9 b10 b11 b12) (g0 : (2) ≤ a2) (g1 : a2 ≤ 8) (g2 : b7 = a2 + 2) (g3 : b7 ≤ a0) (g4 : a0 ≤ 32) (g5 : (1) ≤ a4) (g6 : a4 ≤ 32) (g7 : (0) ≤ a5) (g8 : a5 ≤ 512) (g9 : b10 = a4 + a5 + 32) (g10 : b12 = 2 * a4 + 2 * a5 + 64) (g11 : b10 ≤ a1) (g12 : a1 ≤ 8192) (g13 : b12 ≤ a3) (g14 : a3 ≤ 65536) (g15 : (1) ≤ a6) (g16 : a6 ≤ 2) (g17 : a0 = 22) : OraOk QO32 (env0 NG W (sy a0 a1 a2 a3 a4 a5 a6 b7 b8 b9 b10 b11 b12)).sy := by
  unfold QO32
  refine ora_cons .i64 a2 .i64 (2) (.int .i64 (fwrap .i64 (iAdd a2 (2)))) rfl rfl rfl (fun e he => res_is (sy := (env0 NG W (sy a0 a1 a2 a3 a4 a5 a6 b7 b8 b9 b10 b11 b12)).sy) (i := 14) he rfl hm.h7) ?_
  refine ora_cons .i64 (16) .i64 a4 (.int .i64 (fwrap .i64 (iAdd (16) a4))) rfl rfl rfl (fun e he => res_is (sy := (env0 NG W (sy a0 a1 a2 a3 a4 a5 a6 b7 b8 b9 b10 b11 b12)).sy) (i := 16) he rfl hm.h8) ?_
  refine ora_cons .i64 b8 .i64 a5 (.int .i64 (fwrap .i64 (iAdd b8 a5))) rfl rfl rfl (fun e he => res_is (sy := (env0 NG W (sy a0 a1 a2 a3 a4 a5 a6 b7 b8 b9 b10 b11 b12)).sy) (i := 18) he rfl hm.h9) ?_
  refine ora_cons .i64 (16) .i64 b9 (.int .i64 (fwrap .i64 (iAdd (16) b9))) rfl rfl rfl (fun e he => res_is (sy := (env0 NG W (sy a0 a1 a2 a3 a4 a5 a6 b7 b8 b9 b10 b11 b12)).sy) (i := 20) he rfl hm.h10) ?_
  refine ora_cons .i64 b9 .i64 (16) (.int .i64 (fwrap .i64 (iAdd b9 (16)))) rfl rfl rfl (fun e he => res_is (sy := (env0 NG W (sy a0 a1 a2 a3 a4 a5 a6 b7 b8 b9 b10 b11 b12)).sy) (i := 22) he rfl hm.h11) ?_
  refine ora_cons .i64 (2) .i64 b11 (.int .i64 (fwrap .i64 ((2) * b11))) rfl rfl rfl (fun e he => res_is (sy := (env0 NG W (sy a0 a1 a2 a3 a4 a5 a6 b7 b8 b9 b10 b11 b12)).sy) (i := 24) he rfl hm.h12) ?_
  refine ora_cons .i64 (22) .i64 b7 (.bool false) rfl rfl (lss_f (by omega)) (fun _ _ => rfl) ?_
  refine ora_cons .i64 a1 .i64 b10 (.bool false) rfl rfl (lss_f (by omega)) (fun _ _ => rfl) ?_
  refine ora_cons .i64 a3 .i64 b12 (.bool false) rfl rfl (lss_f (by omega)) (fun _ _ => rfl) ?_
  refine ora_cons .i64 (22) .i64 b7 (.bool true) rfl rfl (geq_t (by omega)) (fun _ _ => rfl) ?_
  refine ora_cons .i64 a1 .i64 b10 (.bool true) rfl rfl (geq_t (by omega)) (fun _ _ => rfl) ?_
  refine ora_cons .i64 a3 .i64 b12 (.bool true) rfl rfl (geq_t (by omega)) (fun _ _ => rfl) ?_
  exact ora_nil _

theorem case32 {W : World} (h : laidMetH Tryz.prog laidL W) {a0 a1 a2 a3 a4 a5 a6 b7 b8 b9 b10 b11 b12 : Int} (hw : Wf a0 a1 a2 a3 a4 a5 a6) (hm : Made a2 a4 a5 b7 b8 b9 b10 b11 b12) (g0 : (2) ≤ a2) (g1 : a2 ≤ 8) (g2 : b7 = a2 + 2) (g3 : b7 ≤ a0) (g4 : a0 ≤ 32) (g5 : (1) ≤ a4) (g6 : a4 ≤ 32) (g7 : (0) ≤ a5) (g8 : a5 ≤ 512) (g9 : b10 = a4 + a5 + 32) (g10 : b12 = 2 * a4 + 2 * a5 + 64) (g11 : b10 ≤ a1) (g12 : a1 ≤ 8192) (g13 : b12 ≤ a3) (g14 : a3 ≤ 65536) (g15 : (1) ≤ a6) (g16 : a6 ≤ 2) (g17 : a0 = 22) :
    Calls Tryz.prog 3 #[.agg #[.int .i64 a0, .int .i64 a1, .int .i64 a2, .int .i64 a3, .int .i64 a4, .int .i64 a5, .int .i64 a6]] W fun e w' => e = .returned (.bool true) ∧ (∀ B, B < W.heap.size → w'.heap[B]? = W.heap[B]?) ∧ ∀ may, W.keptBut w' may := by
  obtain ⟨w0, w1, w2, w3, w4, w5, w6⟩ := hw
  subst g17
  refine top_trueg (xp_ok _ _) (xp_fns _ _) mixed (QmT _) (l := QL32) (by rw [nGlob]; exact QT32) (globs h) (by unfold QL32; exact List.mem_cons_self ..) (vs := [.agg #[.int .i64 22, .int .i64 a1, .int .i64 a2, .int .i64 a3, .int .i64 a4, .int .i64 a5, .int .i64 a6]]) (sy 22 a1 a2 a3 a4 a5 a6 b7 b8 b9 b10 b11 b12) (ora32 hm (by omega) (by omega) (by omega) (by omega) (by omega) (by omega) (by omega) (by omega) (by omega) (by omega) (by omega) (by omega) (by omega) (by omega) (by omega) (by omega) (by omega) (by omega)) ?_
  exact cvs_mk (cvAgg (cvs_mk rfl (cvs_mk (rng_cv rfl (by omega)) (cvs_mk (rng_cv rfl (by omega)) (cvs_mk (rng_cv rfl (by omega)) (cvs_mk (rng_cv rfl (by omega)) (cvs_mk (rng_cv rfl (by omega)) (cvs_mk (rng_cv rfl (by omega)) rfl)))))))) rfl

theorem ora33 {NG : Nat} {W : World} {a0 a1 a2 a3 a4 a5 a6 b7 b8 b9 b10 b11 b12 : Int} (hm : Made a2 a4 a5 b7 b8 b9 b10 b11 b12) (g0 : (2) ≤ a2) (g1 : a2 ≤ 8) (g2 : b7 = a2 + 2) (g3 : b7 ≤ a0) (g4 : a0 ≤ 32) (g5 : (1) ≤ a4) (g6 : a4 ≤ 32) (g7 : (0) ≤ a5) (g8 : a5 ≤ 512) (g9 : b10 = a4 + a5 + 32) (g10 : b12 = 2 * a4 + 2 * a5 + 64) (g11 : b10 ≤ a1) (g12 : a1 ≤ 8192) (g13 : b12 ≤ a3) (g14 : a3 ≤ 65536) (g15 : (1) ≤ a6) (g16 : a6 ≤ 2) (g17 : a0 = 23) : OraOk QO33 (env0 NG W (sy a0 a1 a2 a3 a4 a5 a6 b7 b8 b9 b10 b11 b12)).sy := by
  unfold QO33
  refine ora_cons .i64 a2 .i64 (2) (.int .i64 (fwrap .i64 (iAdd a2 (2)))) rfl rfl rfl (fun e he => res_is (sy := (env0 NG W (sy a0 a1 a2 a3 a4 a5 a6 b7 b8 b9 b10 b11 b12)).sy) (i := 14) he rfl hm.h7) ?_
  refine ora_cons .i64 (16) .i64 a4 (.int .i64 (fwrap .i64 (iAdd (16) a4))) rfl rfl rfl (fun e he => res_is (sy := (env0 NG W (sy a0 a1 a2 a3 a4 a5 a6 b7 b8 b9 b10 b11 b12)).sy) (i := 16) he rfl hm.h8) ?_
  refine ora_cons .i64 b8 .i64 a5 (.int .i64 (fwrap .i64 (iAdd b8 a5))) rfl rfl rfl (fun e he => res_is (sy := (env0 NG W (sy a0 a1 a2 a3 a4 a5 a6 b7 b8 b9 b10 b11 b12)).sy) (i := 18) he rfl hm.h9) ?_
  refine ora_cons .i64 (16) .i64 b9 (.int .i64 (fwrap .i64 (iAdd (16) b9))) rfl rfl rfl (fun e he => res_is (sy := (env0 NG W (sy a0 a1 a2 a3 a4 a5 a6 b7 b8 b9 b10 b11 b12)).sy) (i := 20) he rfl hm.h10) ?_
  refine ora_cons .i64 b9 .i64 (16) (.int .i64 (fwrap .i64 (iAdd b9 (16)))) rfl rfl rfl (fun e he => res_is (sy := (env0 NG W (sy a0 a1 a2 a3 a4 a5 a6 b7 b8 b9 b10 b11 b12)).sy) (i := 22) he rfl hm.h11) ?_
  refine ora_cons .i64 (2) .i64 b11 (.int .i64 (fwrap .i64 ((2) * b11))) rfl rfl rfl (fun e he => res_is (sy := (env0 NG W (sy a0 a1 a2 a3 a4 a5 a6 b7 b8 b9 b10 b11 b12)).sy) (i := 24) he rfl hm.h12) ?_
  refine ora_cons .i64 (23) .i64 b7 (.bool false) rfl rfl (lss_f (by omega)) (fun _ _ => rfl) ?_
  refine ora_cons .i64 a1 .i64 b10 (.bool false) rfl rfl (lss_f (by omega)) (fun _ _ => rfl) ?_
  refine ora_cons .i64 a3 .i64 b12 (.bool false) rfl rfl (lss_f (by omega)) (fun _ _ => rfl) ?_
  refine ora_cons .i64 (23) .i64 b7 (.bool true) rfl rfl (geq_t (by omega)) (fun _ _ => rfl) ?_
  refine ora_cons .i64 a1 .i64 b10 (.bool true) rfl rfl (geq_t (by omega)) (fun _ _ => rfl) ?_
  refine ora_cons .i64 a3 .i64 b12 (.bool true) rfl rfl (geq_t (by omega)) (fun _ _ => rfl) ?_
  exact ora_nil _

theorem case33 {W : World} (h : laidMetH Tryz.prog laidL W) {a0 a1 a2 a3 a4 a5 a6 b7 b8 b9 b10 b11 b12 : Int} (hw : Wf a0 a1 a2 a3 a4 a5 a6) (hm : Made a2 a4 a5 b7 b8 b9 b10 b11 b12) (g0 : (2) ≤ a2) (g1 : a2 ≤ 8) (g2 : b7 = a2 + 2) (g3 : b7 ≤ a0) (g4 : a0 ≤ 32) (g5 : (1) ≤ a4) (g6 : a4 ≤ 32) (g7 : (0) ≤ a5) (g8 : a5 ≤ 512) (g9 : b10 = a4 + a5 + 32) (g10 : b12 = 2 * a4 + 2 * a5 + 64) (g11 : b10 ≤ a1) (g12 : a1 ≤ 8192) (g13 : b12 ≤ a3) (g14 : a3 ≤ 65536) (g15 : (1) ≤ a6) (g16 : a6 ≤ 2) (g17 : a0 = 23) :
    Calls Tryz.prog 3 #[.agg #[.int .i64 a0, .int .i64 a1, .int .i64 a2, .int .i64 a3, .int .i64 a4, .int .i64 a5, .int .i64 a6]] W fun e w' => e = .returned (.bool true) ∧ (∀ B, B < W.heap.size → w'.heap[B]? = W.heap[B]?) ∧ ∀ may, W.keptBut w' may := by
  obtain ⟨w0, w1, w2, w3, w4, w5, w6⟩ := hw
  subst g17
  refine top_trueg (xp_ok _ _) (xp_fns _ _) mixed (QmT _) (l := QL33) (by rw [nGlob]; exact QT33) (globs h) (by unfold QL33; exact List.mem_cons_self ..) (vs := [.agg #[.int .i64 23, .int .i64 a1, .int .i64 a2, .int .i64 a3, .int .i64 a4, .int .i64 a5, .int .i64 a6]]) (sy 23 a1 a2 a3 a4 a5 a6 b7 b8 b9 b10 b11 b12) (ora33 hm (by omega) (by omega) (by omega) (by omega) (by omega) (by omega) (by omega) (by omega) (by omega) (by omega) (by omega) (by omega) (by omega) (by omega) (by omega) (by omega) (by omega) (by omega)) ?_
  exact cvs_mk (cvAgg (cvs_mk rfl (cvs_mk (rng_cv rfl (by omega)) (cvs_mk (rng_cv rfl (by omega)) (cvs_mk (rng_cv rfl (by omega)) (cvs_mk (rng_cv rfl (by omega)) (cvs_mk (rng_cv rfl (by omega)) (cvs_mk (rng_cv rfl (by omega)) rfl)))))))) rfl

theorem ora34 {NG : Nat} {W : World} {a0 a1 a2 a3 a4 a5 a6 b7 b8 b9 b10 b11 b12 : Int} (hm : Made a2 a4 a5 b7 b8 b9 b10 b11 b12) (g0 : (2) ≤ a2) (g1 : a2 ≤ 8) (g2 : b7 = a2 + 2) (g3 : b7 ≤ a0) (g4 : a0 ≤ 32) (g5 : (1) ≤ a4) (g6 : a4 ≤ 32) (g7 : (0) ≤ a5) (g8 : a5 ≤ 512) (g9 : b10 = a4 + a5 + 32) (g10 : b12 = 2 * a4 + 2 * a5 + 64) (g11 : b10 ≤ a1) (g12 : a1 ≤ 8192) (g13 : b12 ≤ a3) (g14 : a3 ≤ 65536) (g15 : (1) ≤ a6) (g16 : a6 ≤ 2) (g17 : a0 = 24) : OraOk QO34 (env0 NG W (sy a0 a1 a2 a3 a4 a5 a6 b7 b8 b9 b10 b11 b12)).sy := by
  unfold QO34
  refine ora_cons .i64 a2 .i64 (2) (.int .i64 (fwrap .i64 (iAdd a2 (2)))) rfl rfl rfl (fun e he => res_is (sy := (env0 NG W (sy a0 a1 a2 a3 a4 a5 a6 b7 b8 b9 b10 b11 b12)).sy) (i := 14) he rfl hm.h7) ?_
  refine ora_cons .i64 (16) .i64 a4 (.int .i64 (fwrap .i64 (iAdd (16) a4))) rfl rfl rfl (fun e he => res_is (sy := (env0 NG W (sy a0 a1 a2 a3 a4 a5 a6 b7 b8 b9 b10 b11 b12)).sy) (i := 16) he rfl hm.h8) ?_
  refine ora_cons .i64 b8 .i64 a5 (.int .i64 (fwrap .i64 (iAdd b8 a5))) rfl rfl rfl (fun e he => res_is (sy := (env0 NG W (sy a0 a1 a2 a3 a4 a5 a6 b7 b8 b9 b10 b11 b12)).sy) (i := 18) he rfl hm.h9) ?_
  refine ora_cons .i64 (16) .i64 b9 (.int .i64 (fwrap .i64 (iAdd (16) b9))) rfl rfl rfl (fun e he => res_is (sy := (env0 NG W (sy a0 a1 a2 a3 a4 a5 a6 b7 b8 b9 b10 b11 b12)).sy) (i := 20) he rfl hm.h10) ?_
  refine ora_cons .i64 b9 .i64 (16) (.int .i64 (fwrap .i64 (iAdd b9 (16)))) rfl rfl rfl (fun e he => res_is (sy := (env0 NG W (sy a0 a1 a2 a3 a4 a5 a6 b7 b8 b9 b10 b11 b12)).sy) (i := 22) he rfl hm.h11) ?_
  refine ora_cons .i64 (2) .i64 b11 (.int .i64 (fwrap .i64 ((2) * b11))) rfl rfl rfl (fun e he => res_is (sy := (env0 NG W (sy a0 a1 a2 a3 a4 a5 a6 b7 b8 b9 b10 b11 b12)).sy) (i := 24) he rfl hm.h12) ?_
  refine ora_cons .i64 (24) .i64 b7 (.bool false) rfl rfl (lss_f (by omega)) (fun _ _ => rfl) ?_
  refine ora_cons .i64 a1 .i64 b10 (.bool false) rfl rfl (lss_f (by omega)) (fun _ _ => rfl) ?_
  refine ora_cons .i64 a3 .i64 b12 (.bool false) rfl rfl (lss_f (by omega)) (fun _ _ => rfl) ?_
  refine ora_cons .i64 (24) .i64 b7 (.bool true) rfl rfl (geq_t (by omega)) (fun _ _ => rfl) ?_
  refine ora_cons .i64 a1 .i64 b10 (.bool true) rfl rfl (geq_t (by omega)) (fun _ _ => rfl) ?_
  refine ora_cons .i64 a3 .i64 b12 (.bool true) rfl rfl (geq_t (by omega)) (fun _ _ => rfl) ?_
  exact ora_nil _

theorem case34 {W : World} (h : laidMetH Tryz.prog laidL W) {a0 a1 a2 a3 a4 a5 a6 b7 b8 b9 b10 b11 b12 : Int} (hw : Wf a0 a1 a2 a3 a4 a5 a6) (hm : Made a2 a4 a5 b7 b8 b9 b10 b11 b12) (g0 : (2) ≤ a2) (g1 : a2 ≤ 8) (g2 : b7 = a2 + 2) (g3 : b7 ≤ a0) (g4 : a0 ≤ 32) (g5 : (1) ≤ a4) (g6 : a4 ≤ 32) (g7 : (0) ≤ a5) (g8 : a5 ≤ 512) (g9 : b10 = a4 + a5 + 32) (g10 : b12 = 2 * a4 + 2 * a5 + 64) (g11 : b10 ≤ a1) (g12 : a1 ≤ 8192) (g13 : b12 ≤ a3) (g14 : a3 ≤ 65536) (g15 : (1) ≤ a6) (g16 : a6 ≤ 2) (g17 : a0 = 24) :
    Calls Tryz.prog 3 #[.agg #[.int .i64 a0, .int .i64 a1, .int .i64 a2, .int .i64 a3, .int .i64 a4, .int .i64 a5, .int .i64 a6]] W fun e w' => e = .returned (.bool true) ∧ (∀ B, B < W.heap.size → w'.heap[B]? = W.heap[B]?) ∧ ∀ may, W.keptBut w' may := by
  obtain ⟨w0, w1, w2, w3, w4, w5, w6⟩ := hw
  subst g17
  refine top_trueg (xp_ok _ _) (xp_fns _ _) mixed (QmT _) (l := QL34) (by rw [nGlob]; exact QT34) (globs h) (by unfold QL34; exact List.mem_cons_self ..) (vs := [.agg #[.int .i64 24, .int .i64 a1, .int .i64 a2, .int .i64 a3, .int .i64 a4, .int .i64 a5, .int .i64 a6]]) (sy 24 a1 a2 a3 a4 a5 a6 b7 b8 b9 b10 b11 b12) (ora34 hm (by omega) (by omega) (by omega) (by omega) (by omega) (by omega) (by omega) (by omega) (by omega) (by omega) (by omega) (by omega) (by omega) (by omega) (by omega) (by omega) (by omega) (by omega)) ?_
  exact cvs_mk (cvAgg (cvs_mk rfl (cvs_mk (rng_cv rfl (by omega)) (cvs_mk (rng_cv rfl (by omega)) (cvs_mk (rng_cv rfl (by omega)) (cvs_mk (rng_cv rfl (by omega)) (cvs_mk (rng_cv rfl (by omega)) (cvs_mk (rng_cv rfl (by omega)) rfl)))))))) rfl

theorem ora35 {NG : Nat} {W : World} {a0 a1 a2 a3 a4 a5 a6 b7 b8 b9 b10 b11 b12 : Int} (hm : Made a2 a4 a5 b7 b8 b9 b10 b11 b12) (g0 : (2) ≤ a2) (g1 : a2 ≤ 8) (g2 : b7 = a2 + 2) (g3 : b7 ≤ a0) (g4 : a0 ≤ 32) (g5 : (1) ≤ a4) (g6 : a4 ≤ 32) (g7 : (0) ≤ a5) (g8 : a5 ≤ 512) (g9 : b10 = a4 + a5 + 32) (g10 : b12 = 2 * a4 + 2 * a5 + 64) (g11 : b10 ≤ a1) (g12 : a1 ≤ 8192) (g13 : b12 ≤ a3) (g14 : a3 ≤ 65536) (g15 : (1) ≤ a6) (g16 : a6 ≤ 2) (g17 : a0 = 25) : OraOk QO35 (env0 NG W (sy a0 a1 a2 a3 a4 a5 a6 b7 b8 b9 b10 b11 b12)).sy := by
  unfold QO35
  refine ora_cons .i64 a2 .i64 (2) (.int .i64 (fwrap .i64 (iAdd a2 (2)))) rfl rfl rfl (fun e he => res_is (sy := (env0 NG W (sy a0 a1 a2 a3 a4 a5 a6 b7 b8 b9 b10 b11 b12)).sy) (i := 14) he rfl hm.h7) ?_
  refine ora_cons .i64 (16) .i64 a4 (.int .i64 (fwrap .i64 (iAdd (16) a4))) rfl rfl rfl (fun e he => res_is (sy := (env0 NG W (sy a0 a1 a2 a3 a4 a5 a6 b7 b8 b9 b10 b11 b12)).sy) (i := 16) he rfl hm.h8) ?_
  refine ora_cons .i64 b8 .i64 a5 (.int .i64 (fwrap .i64 (iAdd b8 a5))) rfl rfl rfl (fun e he => res_is (sy := (env0 NG W (sy a0 a1 a2 a3 a4 a5 a6 b7 b8 b9 b10 b11 b12)).sy) (i := 18) he rfl hm.h9) ?_
  refine ora_cons .i64 (16) .i64 b9 (.int .i64 (fwrap .i64 (iAdd (16) b9))) rfl rfl rfl (fun e he => res_is (sy := (env0 NG W (sy a0 a1 a2 a3 a4 a5 a6 b7 b8 b9 b10 b11 b12)).sy) (i := 20) he rfl hm.h10) ?_
  refine ora_cons .i64 b9 .i64 (16) (.int .i64 (fwrap .i64 (iAdd b9 (16)))) rfl rfl rfl (fun e he => res_is (sy := (env0 NG W (sy a0 a1 a2 a3 a4 a5 a6 b7 b8 b9 b10 b11 b12)).sy) (i := 22) he rfl hm.h11) ?_
  refine ora_cons .i64 (2) .i64 b11 (.int .i64 (fwrap .i64 ((2) * b11))) rfl rfl rfl (fun e he => res_is (sy := (env0 NG W (sy a0 a1 a2 a3 a4 a5 a6 b7 b8 b9 b10 b11 b12)).sy) (i := 24) he rfl hm.h12) ?_
  refine ora_cons .i64 (25) .i64 b7 (.bool false) rfl rfl (lss_f (by omega)) (fun _ _ => rfl) ?_
  refine ora_cons .i64 a1 .i64 b10 (.bool false) rfl rfl (lss_f (by omega)) (fun _ _ => rfl) ?_
  refine ora_cons .i64 a3 .i64 b12 (.bool false) rfl rfl (lss_f (by omega)) (fun _ _ => rfl) ?_
  refine ora_cons .i64 (25) .i64 b7 (.bool true) rfl rfl (geq_t (by omega)) (fun _ _ => rfl) ?_
  refine ora_cons .i64 a1 .i64 b10 (.bool true) rfl rfl (geq_t (by omega)) (fun _ _ => rfl) ?_
  refine ora_cons .i64 a3 .i64 b12 (.bool true) rfl rfl (geq_t (by omega)) (fun _ _ => rfl) ?_
  exact ora_nil _

theorem case35 {W : World} (h : laidMetH Tryz.prog laidL W) {a0 a1 a2 a3 a4 a5 a6 b7 b8 b9 b10 b11 b12 : Int} (hw : Wf a0 a1 a2 a3 a4 a5 a6) (hm : Made a2 a4 a5 b7 b8 b9 b10 b11 b12) (g0 : (2) ≤ a2) (g1 : a2 ≤ 8) (g2 : b7 = a2 + 2) (g3 : b7 ≤ a0) (g4 : a0 ≤ 32) (g5 : (1) ≤ a4) (g6 : a4 ≤ 32) (g7 : (0) ≤ a5) (g8 : a5 ≤ 512) (g9 : b10 = a4 + a5 + 32) (g10 : b12 = 2 * a4 + 2 * a5 + 64) (g11 : b10 ≤ a1) (g12 : a1 ≤ 8192) (g13 : b12 ≤ a3) (g14 : a3 ≤ 65536) (g15 : (1) ≤ a6) (g16 : a6 ≤ 2) (g17 : a0 = 25) :
    Calls Tryz.prog 3 #[.agg #[.int .i64 a0, .int .i64 a1, .int .i64 a2, .int .i64 a3, .int .i64 a4, .int .i64 a5, .int .i64 a6]] W fun e w' => e = .returned (.bool true) ∧ (∀ B, B < W.heap.size → w'.heap[B]? = W.heap[B]?) ∧ ∀ may, W.keptBut w' may := by
  obtain ⟨w0, w1, w2, w3, w4, w5, w6⟩ := hw
  subst g17
  refine top_trueg (xp_ok _ _) (xp_fns _ _) mixed (QmT _) (l := QL35) (by rw [nGlob]; exact QT35) (globs h) (by unfold QL35; exact List.mem_cons_self ..) (vs := [.agg #[.int .i64 25, .int .i64 a1, .int .i64 a2, .int .i64 a3, .int .i64 a4, .int .i64 a5, .int .i64 a6]]) (sy 25 a1 a2 a3 a4 a5 a6 b7 b8 b9 b10 b11 b12) (ora35 hm (by omega) (by omega) (by omega) (by omega) (by omega) (by omega) (by omega) (by omega) (by omega) (by omega) (by omega) (by omega) (by omega) (by omega) (by omega) (by omega) (by omega) (by omega)) ?_
  exact cvs_mk (cvAgg (cvs_mk rfl (cvs_mk (rng_cv rfl (by omega)) (cvs_mk (rng_cv rfl (by omega)) (cvs_mk (rng_cv rfl (by omega)) (cvs_mk (rng_cv rfl (by omega)) (cvs_mk (rng_cv rfl (by omega)) (cvs_mk (rng_cv rfl (by omega)) rfl)))))))) rfl

theorem ora36 {NG : Nat} {W : World} {a0 a1 a2 a3 a4 a5 a6 b7 b8 b9 b10 b11 b12 : Int} (hm : Made a2 a4 a5 b7 b8 b9 b10 b11 b12) (g0 : (2) ≤ a2) (g1 : a2 ≤ 8) (g2 : b7 = a2 + 2) (g3 : b7 ≤ a0) (g4 : a0 ≤ 32) (g5 : (1) ≤ a4) (g6 : a4 ≤ 32) (g7 : (0) ≤ a5) (g8 : a5 ≤ 512) (g9 : b10 = a4 + a5 + 32) (g10 : b12 = 2 * a4 + 2 * a5 + 64) (g11 : b10 ≤ a1) (g12 : a1 ≤ 8192) (g13 : b12 ≤ a3) (g14 : a3 ≤ 65536) (g15 : (1) ≤ a6) (g16 : a6 ≤ 2) (g17 : a0 = 26) : OraOk QO36 (env0 NG W (sy a0 a1 a2 a3 a4 a5 a6 b7 b8 b9 b10 b11 b12)).sy := by
  unfold QO36
  refine ora_cons .i64 a2 .i64 (2) (.int .i64 (fwrap .i64 (iAdd a2 (2)))) rfl rfl rfl (fun e he => res_is (sy := (env0 NG W (sy a0 a1 a2 a3 a4 a5 a6 b7 b8 b9 b10 b11 b12)).sy) (i := 14) he rfl hm.h7) ?_
  refine ora_cons .i64 (16) .i64 a4 (.int .i64 (fwrap .i64 (iAdd (16) a4))) rfl rfl rfl (fun e he => res_is (sy := (env0 NG W (sy a0 a1 a2 a3 a4 a5 a6 b7 b8 b9 b10 b11 b12)).sy) (i := 16) he rfl hm.h8) ?_
  refine ora_cons .i64 b8 .i64 a5 (.int .i64 (fwrap .i64 (iAdd b8 a5))) rfl rfl rfl (fun e he => res_is (sy := (env0 NG W (sy a0 a1 a2 a3 a4 a5 a6 b7 b8 b9 b10 b11 b12)).sy) (i := 18) he rfl hm.h9) ?_
  refine ora_cons .i64 (16) .i64 b9 (.int .i64 (fwrap .i64 (iAdd (16) b9))) rfl rfl rfl (fun e he => res_is (sy := (env0 NG W (sy a0 a1 a2 a3 a4 a5 a6 b7 b8 b9 b10 b11 b12)).sy) (i := 20) he rfl hm.h10) ?_
  refine ora_cons .i64 b9 .i64 (16) (.int .i64 (fwrap .i64 (iAdd b9 (16)))) rfl rfl rfl (fun e he => res_is (sy := (env0 NG W (sy a0 a1 a2 a3 a4 a5 a6 b7 b8 b9 b10 b11 b12)).sy) (i := 22) he rfl hm.h11) ?_
  refine ora_cons .i64 (2) .i64 b11 (.int .i64 (fwrap .i64 ((2) * b11))) rfl rfl rfl (fun e he => res_is (sy := (env0 NG W (sy a0 a1 a2 a3 a4 a5 a6 b7 b8 b9 b10 b11 b12)).sy) (i := 24) he rfl hm.h12) ?_
  refine ora_cons .i64 (26) .i64 b7 (.bool false) rfl rfl (lss_f (by omega)) (fun _ _ => rfl) ?_
  refine ora_cons .i64 a1 .i64 b10 (.bool false) rfl rfl (lss_f (by omega)) (fun _ _ => rfl) ?_
  refine ora_cons .i64 a3 .i64 b12 (.bool false) rfl rfl (lss_f (by omega)) (fun _ _ => rfl) ?_
  refine ora_cons .i64 (26) .i64 b7 (.bool true) rfl rfl (geq_t (by omega)) (fun _ _ => rfl) ?_
  refine ora_cons .i64 a1 .i64 b10 (.bool true) rfl rfl (geq_t (by omega)) (fun _ _ => rfl) ?_
  refine ora_cons .i64 a3 .i64 b12 (.bool true) rfl rfl (geq_t (by omega)) (fun _ _ => rfl) ?_
  exact ora_nil _

theorem case36 {W : World} (h : laidMetH Tryz.prog laidL W) {a0 a1 a2 a3 a4 a5 a6 b7 b8 b9 b10 b11 b12 : Int} (hw : Wf a0 a1 a2 a3 a4 a5 a6) (hm : Made a2 a4 a5 b7 b8 b9 b10 b11 b12) (g0 : (2) ≤ a2) (g1 : a2 ≤ 8) (g2 : b7 = a2 + 2) (g3 : b7 ≤ a0) (g4 : a0 ≤ 32) (g5 : (1) ≤ a4) (g6 : a4 ≤ 32) (g7 : (0) ≤ a5) (g8 : a5 ≤ 512) (g9 : b10 = a4 + a5 + 32) (g10 : b12 = 2 * a4 + 2 * a5 + 64) (g11 : b10 ≤ a1) (g12 : a1 ≤ 8192) (g13 : b12 ≤ a3) (g14 : a3 ≤ 65536) (g15 : (1) ≤ a6) (g16 : a6 ≤ 2) (g17 : a0 = 26) :
    Calls Tryz.prog 3 #[.agg #[.int .i64 a0, .int .i64 a1, .int .i64 a2, .int .i64 a3, .int .i64 a4, .int .i64 a5, .int .i64 a6]] W fun e w' => e = .returned (.bool true) ∧ (∀ B, B < W.heap.size → w'.heap[B]? = W.heap[B]?) ∧ ∀ may, W.keptBut w' may := by
  obtain ⟨w0, w1, w2, w3, w4, w5, w6⟩ := hw
  subst g17
  refine top_trueg (xp_ok _ _) (xp_fns _ _) mixed (QmT _) (l := QL36) (by rw [nGlob]; exact QT36) (globs h) (by unfold QL36; exact List.mem_cons_self ..) (vs := [.agg #[.int .i64 26, .int .i64 a1, .int .i64 a2, .int .i64 a3, .int .i64 a4, .int .i64 a5, .int .i64 a6]]) (sy 26 a1 a2 a3 a4 a5 a6 b7 b8 b9 b10 b11 b12) (ora36 hm (by omega) (by omega) (by omega) (by omega) (by omega) (by omega) (by omega) (by omega) (by omega) (by omega) (by omega) (by omega) (by omega) (by omega) (by omega) (by omega) (by omega) (by omega)) ?_
  exact cvs_mk (cvAgg (cvs_mk rfl (cvs_mk (rng_cv rfl (by omega)) (cvs_mk (rng_cv rfl (by omega)) (cvs_mk (rng_cv rfl (by omega)) (cvs_mk (rng_cv rfl (by omega)) (cvs_mk (rng_cv rfl (by omega)) (cvs_mk (rng_cv rfl (by omega)) rfl)))))))) rfl

theorem ora37 {NG : Nat} {W : World} {a0 a1 a2 a3 a4 a5 a6 b7 b8 b9 b10 b11 b12 : Int} (hm : Made a2 a4 a5 b7 b8 b9 b10 b11 b12) (g0 : (2) ≤ a2) (g1 : a2 ≤ 8) (g2 : b7 = a2 + 2) (g3 : b7 ≤ a0) (g4 : a0 ≤ 32) (g5 : (1) ≤ a4) (g6 : a4 ≤ 32) (g7 : (0) ≤ a5) (g8 : a5 ≤ 512) (g9 : b10 = a4 + a5 + 32) (g10 : b12 = 2 * a4 + 2 * a5 + 64) (g11 : b10 ≤ a1) (g12 : a1 ≤ 8192) (g13 : b12 ≤ a3) (g14 : a3 ≤ 65536) (g15 : (1) ≤ a6) (g16 : a6 ≤ 2) (g17 : a0 = 27) : OraOk QO37 (env0 NG W (sy a0 a1 a2 a3 a4 a5 a6 b7 b8 b9 b10 b11 b12)).sy := by
  unfold QO37
  refine ora_cons .i64 a2 .i64 (2) (.int .i64 (fwrap .i64 (iAdd a2 (2)))) rfl rfl rfl (fun e he => res_is (sy := (env0 NG W (sy a0 a1 a2 a3 a4 a5 a6 b7 b8 b9 b10 b11 b12)).sy) (i := 14) he rfl hm.h7) ?_
  refine ora_cons .i64 (16) .i64 a4 (.int .i64 (fwrap .i64 (iAdd (16) a4))) rfl rfl rfl (fun e he => res_is (sy := (env0 NG W (sy a0 a1 a2 a3 a4 a5 a6 b7 b8 b9 b10 b11 b12)).sy) (i := 16) he rfl hm.h8) ?_
  refine ora_cons .i64 b8 .i64 a5 (.int .i64 (fwrap .i64 (iAdd b8 a5))) rfl rfl rfl (fun e he => res_is (sy := (env0 NG W (sy a0 a1 a2 a3 a4 a5 a6 b7 b8 b9 b10 b11 b12)).sy) (i := 18) he rfl hm.h9) ?_
  refine ora_cons .i64 (16) .i64 b9 (.int .i64 (fwrap .i64 (iAdd (16) b9))) rfl rfl rfl (fun e he => res_is (sy := (env0 NG W (sy a0 a1 a2 a3 a4 a5 a6 b7 b8 b9 b10 b11 b12)).sy) (i := 20) he rfl hm.h10) ?_
  refine ora_cons .i64 b9 .i64 (16) (.int .i64 (fwrap .i64 (iAdd b9 (16)))) rfl rfl rfl (fun e he => res_is (sy := (env0 NG W (sy a0 a1 a2 a3 a4 a5 a6 b7 b8 b9 b10 b11 b12)).sy) (i := 22) he rfl hm.h11) ?_
  refine ora_cons .i64 (2) .i64 b11 (.int .i64 (fwrap .i64 ((2) * b11))) rfl rfl rfl (fun e he => res_is (sy := (env0 NG W (sy a0 a1 a2 a3 a4 a5 a6 b7 b8 b9 b10 b11 b12)).sy) (i := 24) he rfl hm.h12) ?_
  refine ora_cons .i64 (27) .i64 b7 (.bool false) rfl rfl (lss_f (by omega)) (fun _ _ => rfl) ?_
  refine ora_cons .i64 a1 .i64 b10 (.bool false) rfl rfl (lss_f (by omega)) (fun _ _ => rfl) ?_
  refine ora_cons .i64 a3 .i64 b12 (.bool false) rfl rfl (lss_f (by omega)) (fun _ _ => rfl) ?_
  refine ora_cons .i64 (27) .i64 b7 (.bool true) rfl rfl (geq_t (by omega)) (fun _ _ => rfl) ?_
  refine ora_cons .i64 a1 .i64 b10 (.bool true) rfl rfl (geq_t (by omega)) (fun _ _ => rfl) ?_
  refine ora_cons .i64 a3 .i64 b12 (.bool true) rfl rfl (geq_t (by omega)) (fun _ _ => rfl) ?_
  exact ora_nil _

theorem case37 {W : World} (h : laidMetH Tryz.prog laidL W) {a0 a1 a2 a3 a4 a5 a6 b7 b8 b9 b10 b11 b12 : Int} (hw : Wf a0 a1 a2 a3 a4 a5 a6) (hm : Made a2 a4 a5 b7 b8 b9 b10 b11 b12) (g0 : (2) ≤ a2) (g1 : a2 ≤ 8) (g2 : b7 = a2 + 2) (g3 : b7 ≤ a0) (g4 : a0 ≤ 32) (g5 : (1) ≤ a4) (g6 : a4 ≤ 32) (g7 : (0) ≤ a5) (g8 : a5 ≤ 512) (g9 : b10 = a4 + a5 + 32) (g10 : b12 = 2 * a4 + 2 * a5 + 64) (g11 : b10 ≤ a1) (g12 : a1 ≤ 8192) (g13 : b12 ≤ a3) (g14 : a3 ≤ 65536) (g15 : (1) ≤ a6) (g16 : a6 ≤ 2) (g17 : a0 = 27) :
    Calls Tryz.prog 3 #[.agg #[.int .i64 a0, .int .i64 a1, .int .i64 a2, .int .i64 a3, .int .i64 a4, .int .i64 a5, .int .i64 a6]] W fun e w' => e = .returned (.bool true) ∧ (∀ B, B < W.heap.size → w'.heap[B]? = W.heap[B]?) ∧ ∀ may, W.keptBut w' may := by
  obtain ⟨w0, w1, w2, w3, w4, w5, w6⟩ := hw
  subst g17
  refine top_trueg (xp_ok _ _) (xp_fns _ _) mixed (QmT _) (l := QL37) (by rw [nGlob]; exact QT37) (globs h) (by unfold QL37; exact List.mem_cons_self ..) (vs := [.agg #[.int .i64 27, .int .i64 a1, .int .i64 a2, .int .i64 a3, .int .i64 a4, .int .i64 a5, .int .i64 a6]]) (sy 27 a1 a2 a3 a4 a5 a6 b7 b8 b9 b10 b11 b12) (ora37 hm (by omega) (by omega) (by omega) (by omega) (by omega) (by omega) (by omega) (by omega) (by omega) (by omega) (by omega) (by omega) (by omega) (by omega) (by omega) (by omega) (by omega) (by omega)) ?_
  exact cvs_mk (cvAgg (cvs_mk rfl (cvs_mk (rng_cv rfl (by omega)) (cvs_mk (rng_cv rfl (by omega)) (cvs_mk (rng_cv rfl (by omega)) (cvs_mk (rng_cv rfl (by omega)) (cvs_mk (rng_cv rfl (by omega)) (cvs_mk (rng_cv rfl (by omega)) rfl)))))))) rfl

theorem ora38 {NG : Nat} {W : World} {a0 a1 a2 a3 a4 a5 a6 b7 b8 b9 b10 b11 b12 : Int} (hm : Made a2 a4 a5 b7 b8 b9 b10 b11 b12) (g0 : (2) ≤ a2) (g1 : a2 ≤ 8) (g2 : b7 = a2 + 2) (g3 : b7 ≤ a0) (g4 : a0 ≤ 32) (g5 : (1) ≤ a4) (g6 : a4 ≤ 32) (g7 : (0) ≤ a5) (g8 : a5 ≤ 512) (g9 : b10 = a4 + a5 + 32) (g10 : b12 = 2 * a4 + 2 * a5 + 64) (g11 : b10 ≤ a1) (g12 : a1 ≤ 8192) (g13 : b12 ≤ a3) (g14 : a3 ≤ 65536) (g15 : (1) ≤ a6) (g16 : a6 ≤ 2) (g17 : a0 = 28) : OraOk QO38 (env0 NG W (sy a0 a1 a2 a3 a4 a5 a6 b7 b8 b9 b10 b11 b12)).sy := by
  unfold QO38
  refine ora_cons .i64 a2 .i64 (2) (.int .i64 (fwrap .i64 (iAdd a2 (2)))) rfl rfl rfl (fun e he => res_is (sy := (env0 NG W (sy a0 a1 a2 a3 a4 a5 a6 b7 b8 b9 b10 b11 b12)).sy) (i := 14) he rfl hm.h7) ?_
  refine ora_cons .i64 (16) .i64 a4 (.int .i64 (fwrap .i64 (iAdd (16) a4))) rfl rfl rfl (fun e he => res_is (sy := (env0 NG W (sy a0 a1 a2 a3 a4 a5 a6 b7 b8 b9 b10 b11 b12)).sy) (i := 16) he rfl hm.h8) ?_
  refine ora_cons .i64 b8 .i64 a5 (.int .i64 (fwrap .i64 (iAdd b8 a5))) rfl rfl rfl (fun e he => res_is (sy := (env0 NG W (sy a0 a1 a2 a3 a4 a5 a6 b7 b8 b9 b10 b11 b12)).sy) (i := 18) he rfl hm.h9) ?_
  refine ora_cons .i64 (16) .i64 b9 (.int .i64 (fwrap .i64 (iAdd (16) b9))) rfl rfl rfl (fun e he => res_is (sy := (env0 NG W (sy a0 a1 a2 a3 a4 a5 a6 b7 b8 b9 b10 b11 b12)).sy) (i := 20) he rfl hm.h10) ?_
  refine ora_cons .i64 b9 .i64 (16) (.int .i64 (fwrap .i64 (iAdd b9 (16)))) rfl rfl rfl (fun e he => res_is (sy := (env0 NG W (sy a0 a1 a2 a3 a4 a5 a6 b7 b8 b9 b10 b11 b12)).sy) (i := 22) he rfl hm.h11) ?_
  refine ora_cons .i64 (2) .i64 b11 (.int .i64 (fwrap .i64 ((2) * b11))) rfl rfl rfl (fun e he => res_is (sy := (env0 NG W (sy a0 a1 a2 a3 a4 a5 a6 b7 b8 b9 b10 b11 b12)).sy) (i := 24) he rfl hm.h12) ?_
  refine ora_cons .i64 (28) .i64 b7 (.bool false) rfl rfl (lss_f (by omega)) (fun _ _ => rfl) ?_
  refine ora_cons .i64 a1 .i64 b10 (.bool false) rfl rfl (lss_f (by omega)) (fun _ _ => rfl) ?_
  refine ora_cons .i64 a3 .i64 b12 (.bool false) rfl rfl (lss_f (by omega)) (fun _ _ => rfl) ?_
  refine ora_cons .i64 (28) .i64 b7 (.bool true) rfl rfl (geq_t (by omega)) (fun _ _ => rfl) ?_
  refine ora_cons .i64 a1 .i64 b10 (.bool true) rfl rfl (geq_t (by omega)) (fun _ _ => rfl) ?_
  refine ora_cons .i64 a3 .i64 b12 (.bool true) rfl rfl (geq_t (by omega)) (fun _ _ => rfl) ?_
  exact ora_nil _

theorem case38 {W : World} (h : laidMetH Tryz.prog laidL W) {a0 a1 a2 a3 a4 a5 a6 b7 b8 b9 b10 b11 b12 : Int} (hw : Wf a0 a1 a2 a3 a4 a5 a6) (hm : Made a2 a4 a5 b7 b8 b9 b10 b11 b12) (g0 : (2) ≤ a2) (g1 : a2 ≤ 8) (g2 : b7 = a2 + 2) (g3 : b7 ≤ a0) (g4 : a0 ≤ 32) (g5 : (1) ≤ a4) (g6 : a4 ≤ 32) (g7 : (0) ≤ a5) (g8 : a5 ≤ 512) (g9 : b10 = a4 + a5 + 32) (g10 : b12 = 2 * a4 + 2 * a5 + 64) (g11 : b10 ≤ a1) (g12 : a1 ≤ 8192) (g13 : b12 ≤ a3) (g14 : a3 ≤ 65536) (g15 : (1) ≤ a6) (g16 : a6 ≤ 2) (g17 : a0 = 28) :
    Calls Tryz.prog 3 #[.agg #[.int .i64 a0, .int .i64 a1, .int .i64 a2, .int .i64 a3, .int .i64 a4, .int .i64 a5, .int .i64 a6]] W fun e w' => e = .returned (.bool true) ∧ (∀ B, B < W.heap.size → w'.heap[B]? = W.heap[B]?) ∧ ∀ may, W.keptBut w' may := by
  obtain ⟨w0, w1, w2, w3, w4, w5, w6⟩ := hw
  subst g17
  refine top_trueg (xp_ok _ _) (xp_fns _ _) mixed (QmT _) (l := QL38) (by rw [nGlob]; exact QT38) (globs h) (by unfold QL38; exact List.mem_cons_self ..) (vs := [.agg #[.int .i64 28, .int .i64 a1, .int .i64 a2, .int .i64 a3, .int .i64 a4, .int .i64 a5, .int .i64 a6]]) (sy 28 a1 a2 a3 a4 a5 a6 b7 b8 b9 b10 b11 b12) (ora38 hm (by omega) (by omega) (by omega) (by omega) (by omega) (by omega) (by omega) (by omega) (by omega) (by omega) (by omega) (by omega) (by omega) (by omega) (by omega) (by omega) (by omega) (by omega)) ?_
  exact cvs_mk (cvAgg (cvs_mk rfl (cvs_mk (rng_cv rfl (by omega)) (cvs_mk (rng_cv rfl (by omega)) (cvs_mk (rng_cv rfl (by omega)) (cvs_mk (rng_cv rfl (by omega)) (cvs_mk (rng_cv rfl (by omega)) (cvs_mk (rng_cv rfl (by omega)) rfl)))))))) rfl

theorem ora39 {NG : Nat} {W : World} {a0 a1 a2 a3 a4 a5 a6 b7 b8 b9 b10 b11 b12 : Int} (hm : Made a2 a4 a5 b7 b8 b9 b10 b11 b12) (g0 : (2) ≤ a2) (g1 : a2 ≤ 8) (g2 : b7 = a2 + 2) (g3 : b7 ≤ a0) (g4 : a0 ≤ 32) (g5 : (1) ≤ a4) (g6 : a4 ≤ 32) (g7 : (0) ≤ a5) (g8 : a5 ≤ 512) (g9 : b10 = a4 + a5 + 32) (g10 : b12 = 2 * a4 + 2 * a5 + 64) (g11 : b10 ≤ a1) (g12 : a1 ≤ 8192) (g13 : b12 ≤ a3) (g14 : a3 ≤ 65536) (g15 : (1) ≤ a6) (g16 : a6 ≤ 2) (g17 : a0 = 29) : OraOk QO39 (env0 NG W (sy a0 a1 a2 a3 a4 a5 a6 b7 b8 b9 b10 b11 b12)).sy := by
  unfold QO39
  refine ora_cons .i64 a2 .i64 (2) (.int .i64 (fwrap .i64 (iAdd a2 (2)))) rfl rfl rfl (fun e he => res_is (sy := (env0 NG W (sy a0 a1 a2 a3 a4 a5 a6 b7 b8 b9 b10 b11 b12)).sy) (i := 14) he rfl hm.h7) ?_
  refine ora_cons .i64 (16) .i64 a4 (.int .i64 (fwrap .i64 (iAdd (16) a4))) rfl rfl rfl (fun e he => res_is (sy := (env0 NG W (sy a0 a1 a2 a3 a4 a5 a6 b7 b8 b9 b10 b11 b12)).sy) (i := 16) he rfl hm.h8) ?_
  refine ora_cons .i64 b8 .i64 a5 (.int .i64 (fwrap .i64 (iAdd b8 a5))) rfl rfl rfl (fun e he => res_is (sy := (env0 NG W (sy a0 a1 a2 a3 a4 a5 a6 b7 b8 b9 b10 b11 b12)).sy) (i := 18) he rfl hm.h9) ?_
  refine ora_cons .i64 (16) .i64 b9 (.int .i64 (fwrap .i64 (iAdd (16) b9))) rfl rfl rfl (fun e he => res_is (sy := (env0 NG W (sy a0 a1 a2 a3 a4 a5 a6 b7 b8 b9 b10 b11 b12)).sy) (i := 20) he rfl hm.h10) ?_
  refine ora_cons .i64 b9 .i64 (16) (.int .i64 (fwrap .i64 (iAdd b9 (16)))) rfl rfl rfl (fun e he => res_is (sy := (env0 NG W (sy a0 a1 a2 a3 a4 a5 a6 b7 b8 b9 b10 b11 b12)).sy) (i := 22) he rfl hm.h11) ?_
  refine ora_cons .i64 (2) .i64 b11 (.int .i64 (fwrap .i64 ((2) * b11))) rfl rfl rfl (fun e he => res_is (sy := (env0 NG W (sy a0 a1 a2 a3 a4 a5 a6 b7 b8 b9 b10 b11 b12)).sy) (i := 24) he rfl hm.h12) ?_
  refine ora_cons .i64 (29) .i64 b7 (.bool false) rfl rfl (lss_f (by omega)) (fun _ _ => rfl) ?_
  refine ora_cons .i64 a1 .i64 b10 (.bool false) rfl rfl (lss_f (by omega)) (fun _ _ => rfl) ?_
  refine ora_cons .i64 a3 .i64 b12 (.bool false) rfl rfl (lss_f (by omega)) (fun _ _ => rfl) ?_
  refine ora_cons .i64 (29) .i64 b7 (.bool true) rfl rfl (geq_t (by omega)) (fun _ _ => rfl) ?_
  refine ora_cons .i64 a1 .i64 b10 (.bool true) rfl rfl (geq_t (by omega)) (fun _ _ => rfl) ?_
  refine ora_cons .i64 a3 .i64 b12 (.bool true) rfl rfl (geq_t (by omega)) (fun _ _ => rfl) ?_
  exact ora_nil _

theorem case39 {W : World} (h : laidMetH Tryz.prog laidL W) {a0 a1 a2 a3 a4 a5 a6 b7 b8 b9 b10 b11 b12 : Int} (hw : Wf a0 a1 a2 a3 a4 a5 a6) (hm : Made a2 a4 a5 b7 b8 b9 b10 b11 b12) (g0 : (2) ≤ a2) (g1 : a2 ≤ 8) (g2 : b7 = a2 + 2) (g3 : b7 ≤ a0) (g4 : a0 ≤ 32) (g5 : (1) ≤ a4) (g6 : a4 ≤ 32) (g7 : (0) ≤ a5) (g8 : a5 ≤ 512) (g9 : b10 = a4 + a5 + 32) (g10 : b12 = 2 * a4 + 2 * a5 + 64) (g11 : b10 ≤ a1) (g12 : a1 ≤ 8192) (g13 : b12 ≤ a3) (g14 : a3 ≤ 65536) (g15 : (1) ≤ a6) (g16 : a6 ≤ 2) (g17 : a0 = 29) :
    Calls Tryz.prog 3 #[.agg #[.int .i64 a0, .int .i64 a1, .int .i64 a2, .int .i64 a3, .int .i64 a4, .int .i64 a5, .int .i64 a6]] W fun e w' => e = .returned (.bool true) ∧ (∀ B, B < W.heap.size → w'.heap[B]? = W.heap[B]?) ∧ ∀ may, W.keptBut w' may := by
  obtain ⟨w0, w1, w2, w3, w4, w5, w6⟩ := hw
  subst g17
  refine top_trueg (xp_ok _ _) (xp_fns _ _) mixed (QmT _) (l := QL39) (by rw [nGlob]; exact QT39) (globs h) (by unfold QL39; exact List.mem_cons_self ..) (vs := [.agg #[.int .i64 29, .int .i64 a1, .int .i64 a2, .int .i64 a3, .int .i64 a4, .int .i64 a5, .int .i64 a6]]) (sy 29 a1 a2 a3 a4 a5 a6 b7 b8 b9 b10 b11 b12) (ora39 hm (by omega) (by omega) (by omega) (by omega) (by omega) (by omega) (by omega) (by omega) (by omega) (by omega) (by omega) (by omega) (by omega) (by omega) (by omega) (by omega) (by omega) (by omega)) ?_
  exact cvs_mk (cvAgg (cvs_mk rfl (cvs_mk (rng_cv rfl (by omega)) (cvs_mk (rng_cv rfl (by omega)) (cvs_mk (rng_cv rfl (by omega)) (cvs_mk (rng_cv rfl (by omega)) (cvs_mk (rng_cv rfl (by omega)) (cvs_mk (rng_cv rfl (by omega)) rfl)))))))) rfl

theorem ora40 {NG : Nat} {W : World} {a0 a1 a2 a3 a4 a5 a6 b7 b8 b9 b10 b11 b12 : Int} (hm : Made a2 a4 a5 b7 b8 b9 b10 b11 b12) (g0 : (2) ≤ a2) (g1 : a2 ≤ 8) (g2 : b7 = a2 + 2) (g3 : b7 ≤ a0) (g4 : a0 ≤ 32) (g5 : (1) ≤ a4) (g6 : a4 ≤ 32) (g7 : (0) ≤ a5) (g8 : a5 ≤ 512) (g9 : b10 = a4 + a5 + 32) (g10 : b12 = 2 * a4 + 2 * a5 + 64) (g11 : b10 ≤ a1) (g12 : a1 ≤ 8192) (g13 : b12 ≤ a3) (g14 : a3 ≤ 65536) (g15 : (1) ≤ a6) (g16 : a6 ≤ 2) (g17 : a0 = 30) : OraOk QO40 (env0 NG W (sy a0 a1 a2 a3 a4 a5 a6 b7 b8 b9 b10 b11 b12)).sy := by
  unfold QO40
  refine ora_cons .i64 a2 .i64 (2) (.int .i64 (fwrap .i64 (iAdd a2 (2)))) rfl rfl rfl (fun e he => res_is (sy := (env0 NG W (sy a0 a1 a2 a3 a4 a5 a6 b7 b8 b9 b10 b11 b12)).sy) (i := 14) he rfl hm.h7) ?_
  refine ora_cons .i64 (16) .i64 a4 (.int .i64 (fwrap .i64 (iAdd (16) a4))) rfl rfl rfl (fun e he => res_is (sy := (env0 NG W (sy a0 a1 a2 a3 a4 a5 a6 b7 b8 b9 b10 b11 b12)).sy) (i := 16) he rfl hm.h8) ?_
  refine ora_cons .i64 b8 .i64 a5 (.int .i64 (fwrap .i64 (iAdd b8 a5))) rfl rfl rfl (fun e he => res_is (sy := (env0 NG W (sy a0 a1 a2 a3 a4 a5 a6 b7 b8 b9 b10 b11 b12)).sy) (i := 18) he rfl hm.h9) ?_
  refine ora_cons .i64 (16) .i64 b9 (.int .i64 (fwrap .i64 (iAdd (16) b9))) rfl rfl rfl (fun e he => res_is (sy := (env0 NG W (sy a0 a1 a2 a3 a4 a5 a6 b7 b8 b9 b10 b11 b12)).sy) (i := 20) he rfl hm.h10) ?_
  refine ora_cons .i64 b9 .i64 (16) (.int .i64 (fwrap .i64 (iAdd b9 (16)))) rfl rfl rfl (fun e he => res_is (sy := (env0 NG W (sy a0 a1 a2 a3 a4 a5 a6 b7 b8 b9 b10 b11 b12)).sy) (i := 22) he rfl hm.h11) ?_
  refine ora_cons .i64 (2) .i64 b11 (.int .i64 (fwrap .i64 ((2) * b11))) rfl rfl rfl (fun e he => res_is (sy := (env0 NG W (sy a0 a1 a2 a3 a4 a5 a6 b7 b8 b9 b10 b11 b12)).sy) (i := 24) he rfl hm.h12) ?_
  refine ora_cons .i64 (30) .i64 b7 (.bool false) rfl rfl (lss_f (by omega)) (fun _ _ => rfl) ?_
  refine ora_cons .i64 a1 .i64 b10 (.bool false) rfl rfl (lss_f (by omega)) (fun _ _ => rfl) ?_
  refine ora_cons .i64 a3 .i64 b12 (.bool false) rfl rfl (lss_f (by omega)) (fun _ _ => rfl) ?_
  refine ora_cons .i64 (30) .i64 b7 (.bool true) rfl rfl (geq_t (by omega)) (fun _ _ => rfl) ?_
  refine ora_cons .i64 a1 .i64 b10 (.bool true) rfl rfl (geq_t (by omega)) (fun _ _ => rfl) ?_
  refine ora_cons .i64 a3 .i64 b12 (.bool true) rfl rfl (geq_t (by omega)) (fun _ _ => rfl) ?_
  exact ora_nil _

theorem case40 {W : World} (h : laidMetH Tryz.prog laidL W) {a0 a1 a2 a3 a4 a5 a6 b7 b8 b9 b10 b11 b12 : Int} (hw : Wf a0 a1 a2 a3 a4 a5 a6) (hm : Made a2 a4 a5 b7 b8 b9 b10 b11 b12) (g0 : (2) ≤ a2) (g1 : a2 ≤ 8) (g2 : b7 = a2 + 2) (g3 : b7 ≤ a0) (g4 : a0 ≤ 32) (g5 : (1) ≤ a4) (g6 : a4 ≤ 32) (g7 : (0) ≤ a5) (g8 : a5 ≤ 512) (g9 : b10 = a4 + a5 + 32) (g10 : b12 = 2 * a4 + 2 * a5 + 64) (g11 : b10 ≤ a1) (g12 : a1 ≤ 8192) (g13 : b12 ≤ a3) (g14 : a3 ≤ 65536) (g15 : (1) ≤ a6) (g16 : a6 ≤ 2) (g17 : a0 = 30) :
    Calls Tryz.prog 3 #[.agg #[.int .i64 a0, .int .i64 a1, .int .i64 a2, .int .i64 a3, .int .i64 a4, .int .i64 a5, .int .i64 a6]] W fun e w' => e = .returned (.bool true) ∧ (∀ B, B < W.heap.size → w'.heap[B]? = W.heap[B]?) ∧ ∀ may, W.keptBut w' may := by
  obtain ⟨w0, w1, w2, w3, w4, w5, w6⟩ := hw
  subst g17
  refine top_trueg (xp_ok _ _) (xp_fns _ _) mixed (QmT _) (l := QL40) (by rw [nGlob]; exact QT40) (globs h) (by unfold QL40; exact List.mem_cons_self ..) (vs := [.agg #[.int .i64 30, .int .i64 a1, .int .i64 a2, .int .i64 a3, .int .i64 a4, .int .i64 a5, .int .i64 a6]]) (sy 30 a1 a2 a3 a4 a5 a6 b7 b8 b9 b10 b11 b12) (ora40 hm (by omega) (by omega) (by omega) (by omega) (by omega) (by omega) (by omega) (by omega) (by omega) (by omega) (by omega) (by omega) (by omega) (by omega) (by omega) (by omega) (by omega) (by omega)) ?_
  exact cvs_mk (cvAgg (cvs_mk rfl (cvs_mk (rng_cv rfl (by omega)) (cvs_mk (rng_cv rfl (by omega)) (cvs_mk (rng_cv rfl (by omega)) (cvs_mk (rng_cv rfl (by omega)) (cvs_mk (rng_cv rfl (by omega)) (cvs_mk (rng_cv rfl (by omega)) rfl)))))))) rfl

theorem ora41 {NG : Nat} {W : World} {a0 a1 a2 a3 a4 a5 a6 b7 b8 b9 b10 b11 b12 : Int} (hm : Made a2 a4 a5 b7 b8 b9 b10 b11 b12) (g0 : (2) ≤ a2) (g1 : a2 ≤ 8) (g2 : b7 = a2 + 2) (g3 : b7 ≤ a0) (g4 : a0 ≤ 32) (g5 : (1) ≤ a4) (g6 : a4 ≤ 32) (g7 : (0) ≤ a5) (g8 : a5 ≤ 512) (g9 : b10 = a4 + a5 + 32) (g10 : b12 = 2 * a4 + 2 * a5 + 64) (g11 : b10 ≤ a1) (g12 : a1 ≤ 8192) (g13 : b12 ≤ a3) (g14 : a3 ≤ 65536) (g15 : (1) ≤ a6) (g16 : a6 ≤ 2) (g17 : a0 = 31) : OraOk QO41 (env0 NG W (sy a0 a1 a2 a3 a4 a5 a6 b7 b8 b9 b10 b11 b12)).sy := by
  unfold QO41
  refine ora_cons .i64 a2 .i64 (2) (.int .i64 (fwrap .i64 (iAdd a2 (2)))) rfl rfl rfl (fun e he => res_is (sy := (env0 NG W (sy a0 a1 a2 a3 a4 a5 a6 b7 b8 b9 b10 b11 b12)).sy) (i := 14) he rfl hm.h7) ?_
  refine ora_cons .i64 (16) .i64 a4 (.int .i64 (fwrap .i64 (iAdd (16) a4))) rfl rfl rfl (fun e he => res_is (sy := (env0 NG W (sy a0 a1 a2 a3 a4 a5 a6 b7 b8 b9 b10 b11 b12)).sy) (i := 16) he rfl hm.h8) ?_
  refine ora_cons .i64 b8 .i64 a5 (.int .i64 (fwrap .i64 (iAdd b8 a5))) rfl rfl rfl (fun e he => res_is (sy := (env0 NG W (sy a0 a1 a2 a3 a4 a5 a6 b7 b8 b9 b10 b11 b12)).sy) (i := 18) he rfl hm.h9) ?_
  refine ora_cons .i64 (16) .i64 b9 (.int .i64 (fwrap .i64 (iAdd (16) b9))) rfl rfl rfl (fun e he => res_is (sy := (env0 NG W (sy a0 a1 a2 a3 a4 a5 a6 b7 b8 b9 b10 b11 b12)).sy) (i := 20) he rfl hm.h10) ?_
  refine ora_cons .i64 b9 .i64 (16) (.int .i64 (fwrap .i64 (iAdd b9 (16)))) rfl rfl rfl (fun e he => res_is (sy := (env0 NG W (sy a0 a1 a2 a3 a4 a5 a6 b7 b8 b9 b10 b11 b12)).sy) (i := 22) he rfl hm.h11) ?_
  refine ora_cons .i64 (2) .i64 b11 (.int .i64 (fwrap .i64 ((2) * b11))) rfl rfl rfl (fun e he => res_is (sy := (env0 NG W (sy a0 a1 a2 a3 a4 a5 a6 b7 b8 b9 b10 b11 b12)).sy) (i := 24) he rfl hm.h12) ?_
  refine ora_cons .i64 (31) .i64 b7 (.bool false) rfl rfl (lss_f (by omega)) (fun _ _ => rfl) ?_
  refine ora_cons .i64 a1 .i64 b10 (.bool false) rfl rfl (lss_f (by omega)) (fun _ _ => rfl) ?_
  refine ora_cons .i64 a3 .i64 b12 (.bool false) rfl rfl (lss_f (by omega)) (fun _ _ => rfl) ?_
  refine ora_cons .i64 (31) .i64 b7 (.bool true) rfl rfl (geq_t (by omega)) (fun _ _ => rfl) ?_
  refine ora_cons .i64 a1 .i64 b10 (.bool true) rfl rfl (geq_t (by omega)) (fun _ _ => rfl) ?_
  refine ora_cons .i64 a3 .i64 b12 (.bool true) rfl rfl (geq_t (by omega)) (fun _ _ => rfl) ?_
  exact ora_nil _

theorem case41 {W : World} (h : laidMetH Tryz.prog laidL W) {a0 a1 a2 a3 a4 a5 a6 b7 b8 b9 b10 b11 b12 : Int} (hw : Wf a0 a1 a2 a3 a4 a5 a6) (hm : Made a2 a4 a5 b7 b8 b9 b10 b11 b12) (g0 : (2) ≤ a2) (g1 : a2 ≤ 8) (g2 : b7 = a2 + 2) (g3 : b7 ≤ a0) (g4 : a0 ≤ 32) (g5 : (1) ≤ a4) (g6 : a4 ≤ 32) (g7 : (0) ≤ a5) (g8 : a5 ≤ 512) (g9 : b10 = a4 + a5 + 32) (g10 : b12 = 2 * a4 + 2 * a5 + 64) (g11 : b10 ≤ a1) (g12 : a1 ≤ 8192) (g13 : b12 ≤ a3) (g14 : a3 ≤ 65536) (g15 : (1) ≤ a6) (g16 : a6 ≤ 2) (g17 : a0 = 31) :
    Calls Tryz.prog 3 #[.agg #[.int .i64 a0, .int .i64 a1, .int .i64 a2, .int .i64 a3, .int .i64 a4, .int .i64 a5, .int .i64 a6]] W fun e w' => e = .returned (.bool true) ∧ (∀ B, B < W.heap.size → w'.heap[B]? = W.heap[B]?) ∧ ∀ may, W.keptBut w' may := by
  obtain ⟨w0, w1, w2, w3, w4, w5, w6⟩ := hw
  subst g17
  refine top_trueg (xp_ok _ _) (xp_fns _ _) mixed (QmT _) (l := QL41) (by rw [nGlob]; exact QT41) (globs h) (by unfold QL41; exact List.mem_cons_self ..) (vs := [.agg #[.int .i64 31, .int .i64 a1, .int .i64 a2, .int .i64 a3, .int .i64 a4, .int .i64 a5, .int .i64 a6]]) (sy 31 a1 a2 a3 a4 a5 a6 b7 b8 b9 b10 b11 b12) (ora41 hm (by omega) (by omega) (by omega) (by omega) (by omega) (by omega) (by omega) (by omega) (by omega) (by omega) (by omega) (by omega) (by omega) (by omega) (by omega) (by omega) (by omega) (by omega)) ?_
  exact cvs_mk (cvAgg (cvs_mk rfl (cvs_mk (rng_cv rfl (by omega)) (cvs_mk (rng_cv rfl (by omega)) (cvs_mk (rng_cv rfl (by omega)) (cvs_mk (rng_cv rfl (by omega)) (cvs_mk (rng_cv rfl (by omega)) (cvs_mk (rng_cv rfl (by omega)) rfl)))))))) rfl

theorem ora42 {NG : Nat} {W : World} {a0 a1 a2 a3 a4 a5 a6 b7 b8 b9 b10 b11 b12 : Int} (hm : Made a2 a4 a5 b7 b8 b9 b10 b11 b12) (g0 : (2) ≤ a2) (g1 : a2 ≤ 8) (g2 : b7 = a2 + 2) (g3 : b7 ≤ a0) (g4 : a0 ≤ 32) (g5 : (1) ≤ a4) (g6 : a4 ≤ 32) (g7 : (0) ≤ a5) (g8 : a5 ≤ 512) (g9 : b10 = a4 + a5 + 32) (g10 : b12 = 2 * a4 + 2 * a5 + 64) (g11 : b10 ≤ a1) (g12 : a1 ≤ 8192) (g13 : b12 ≤ a3) (g14 : a3 ≤ 65536) (g15 : (1) ≤ a6) (g16 : a6 ≤ 2) (g17 : a0 = 32) : OraOk QO42 (env0 NG W (sy a0 a1 a2 a3 a4 a5 a6 b7 b8 b9 b10 b11 b12)).sy := by
  unfold QO42
  refine ora_cons .i64 a2 .i64 (2) (.int .i64 (fwrap .i64 (iAdd a2 (2)))) rfl rfl rfl (fun e he => res_is (sy := (env0 NG W (sy a0 a1 a2 a3 a4 a5 a6 b7 b8 b9 b10 b11 b12)).sy) (i := 14) he rfl hm.h7) ?_
  refine ora_cons .i64 (16) .i64 a4 (.int .i64 (fwrap .i64 (iAdd (16) a4))) rfl rfl rfl (fun e he => res_is (sy := (env0 NG W (sy a0 a1 a2 a3 a4 a5 a6 b7 b8 b9 b10 b11 b12)).sy) (i := 16) he rfl hm.h8) ?_
  refine ora_cons .i64 b8 .i64 a5 (.int .i64 (fwrap .i64 (iAdd b8 a5))) rfl rfl rfl (fun e he => res_is (sy := (env0 NG W (sy a0 a1 a2 a3 a4 a5 a6 b7 b8 b9 b10 b11 b12)).sy) (i := 18) he rfl hm.h9) ?_
  refine ora_cons .i64 (16) .i64 b9 (.int .i64 (fwrap .i64 (iAdd (16) b9))) rfl rfl rfl (fun e he => res_is (sy := (env0 NG W (sy a0 a1 a2 a3 a4 a5 a6 b7 b8 b9 b10 b11 b12)).sy) (i := 20) he rfl hm.h10) ?_
  refine ora_cons .i64 b9 .i64 (16) (.int .i64 (fwrap .i64 (iAdd b9 (16)))) rfl rfl rfl (fun e he => res_is (sy := (env0 NG W (sy a0 a1 a2 a3 a4 a5 a6 b7 b8 b9 b10 b11 b12)).sy) (i := 22) he rfl hm.h11) ?_
  refine ora_cons .i64 (2) .i64 b11 (.int .i64 (fwrap .i64 ((2) * b11))) rfl rfl rfl (fun e he => res_is (sy := (env0 NG W (sy a0 a1 a2 a3 a4 a5 a6 b7 b8 b9 b10 b11 b12)).sy) (i := 24) he rfl hm.h12) ?_
  refine ora_cons .i64 (32) .i64 b7 (.bool false) rfl rfl (lss_f (by omega)) (fun _ _ => rfl) ?_
  refine ora_cons .i64 a1 .i64 b10 (.bool false) rfl rfl (lss_f (by omega)) (fun _ _ => rfl) ?_
  refine ora_cons .i64 a3 .i64 b12 (.bool false) rfl rfl (lss_f (by omega)) (fun _ _ => rfl) ?_
  refine ora_cons .i64 (32) .i64 b7 (.bool true) rfl rfl (geq_t (by omega)) (fun _ _ => rfl) ?_
  refine ora_cons .i64 a1 .i64 b10 (.bool true) rfl rfl (geq_t (by omega)) (fun _ _ => rfl) ?_
  refine ora_cons .i64 a3 .i64 b12 (.bool true) rfl rfl (geq_t (by omega)) (fun _ _ => rfl) ?_
  exact ora_nil _

theorem case42 {W : World} (h : laidMetH Tryz.prog laidL W) {a0 a1 a2 a3 a4 a5 a6 b7 b8 b9 b10 b11 b12 : Int} (hw : Wf a0 a1 a2 a3 a4 a5 a6) (hm : Made a2 a4 a5 b7 b8 b9 b10 b11 b12) (g0 : (2) ≤ a2) (g1 : a2 ≤ 8) (g2 : b7 = a2 + 2) (g3 : b7 ≤ a0) (g4 : a0 ≤ 32) (g5 : (1) ≤ a4) (g6 : a4 ≤ 32) (g7 : (0) ≤ a5) (g8 : a5 ≤ 512) (g9 : b10 = a4 + a5 + 32) (g10 : b12 = 2 * a4 + 2 * a5 + 64) (g11 : b10 ≤ a1) (g12 : a1 ≤ 8192) (g13 : b12 ≤ a3) (g14 : a3 ≤ 65536) (g15 : (1) ≤ a6) (g16 : a6 ≤ 2) (g17 : a0 = 32) :
    Calls Tryz.prog 3 #[.agg #[.int .i64 a0, .int .i64 a1, .int .i64 a2, .int .i64 a3, .int .i64 a4, .int .i64 a5, .int .i64 a6]] W fun e w' => e = .returned (.bool true) ∧ (∀ B, B < W.heap.size → w'.heap[B]? = W.heap[B]?) ∧ ∀ may, W.keptBut w' may := by
  obtain ⟨w0, w1, w2, w3, w4, w5, w6⟩ := hw
  subst g17
  refine top_trueg (xp_ok _ _) (xp_fns _ _) mixed (QmT _) (l := QL42) (by rw [nGlob]; exact QT42) (globs h) (by unfold QL42; exact List.mem_cons_self ..) (vs := [.agg #[.int .i64 32, .int .i64 a1, .int .i64 a2, .int .i64 a3, .int .i64 a4, .int .i64 a5, .int .i64 a6]]) (sy 32 a1 a2 a3 a4 a5 a6 b7 b8 b9 b10 b11 b12) (ora42 hm (by omega) (by omega) (by omega) (by omega) (by omega) (by omega) (by omega) (by omega) (by omega) (by omega) (by omega) (by omega) (by omega) (by omega) (by omega) (by omega) (by omega) (by omega)) ?_
  exact cvs_mk (cvAgg (cvs_mk rfl (cvs_mk (rng_cv rfl (by omega)) (cvs_mk (rng_cv rfl (by omega)) (cvs_mk (rng_cv rfl (by omega)) (cvs_mk (rng_cv rfl (by omega)) (cvs_mk (rng_cv rfl (by omega)) (cvs_mk (rng_cv rfl (by omega)) rfl)))))))) rfl

theorem walk {W : World} (h : laidMetH Tryz.prog laidL W) {a0 a1 a2 a3 a4 a5 a6 : Int} (hw : Wf a0 a1 a2 a3 a4 a5 a6) : Calls Tryz.prog 3 #[.agg #[.int .i64 a0, .int .i64 a1, .int .i64 a2, .int .i64 a3, .int .i64 a4, .int .i64 a5, .int .i64 a6]] W fun e w' => e = .returned (.bool true) ∧ (∀ B, B < W.heap.size → w'.heap[B]? = W.heap[B]?) ∧ ∀ may, W.keptBut w' may := by
  have hw' := hw
  obtain ⟨w0, w1, w2, w3, w4, w5, w6⟩ := hw'
  obtain ⟨b7, b8, b9, b10, b11, b12, hm⟩ : ∃ b7 b8 b9 b10 b11 b12, Made a2 a4 a5 b7 b8 b9 b10 b11 b12 := ⟨_, _, _, _, _, _, rfl, rfl, rfl, rfl, rfl, rfl⟩
  by_cases c0 : a2 ≤ 1
  · exact case0 h hw hm c0
  by_cases c1 : (9) ≤ a2
  · exact case1 h hw hm c1
  have r7 : b7 = a2 + 2 := by
    rw [hm.h7, iAdd_eq, wrap_id (by omega)]
  by_cases c2 : a0 < b7
  · exact case2 h hw hm (by omega) (by omega) r7 c2
  by_cases c3 : (33) ≤ a0
  · exact case3 h hw hm (by omega) (by omega) r7 c3
  by_cases c4 : a4 ≤ 0
  · exact case4 h hw hm (by omega) (by omega) r7 (by omega) (by omega) c4
  by_cases c5 : (33) ≤ a4
  · exact case5 h hw hm (by omega) (by omega) r7 (by omega) (by omega) c5
  by_cases c6 : a5 ≤ -1
  · exact case6 h hw hm (by omega) (by omega) r7 (by omega) (by omega) (by omega) (by omega) c6
  by_cases c7 : (513) ≤ a5
  · exact case7 h hw hm (by omega) (by omega) r7 (by omega) (by omega) (by omega) (by omega) c7
  have r8 : b8 = 16 + a4 := by rw [hm.h8, iAdd_eq, wrap_id (by omega)]
  have r9 : b9 = b8 + a5 := by rw [hm.h9, iAdd_eq, wrap_id (by omega)]
  have r10' : b10 = 16 + b9 := by rw [hm.h10, iAdd_eq, wrap_id (by omega)]
  have r11 : b11 = b9 + 16 := by rw [hm.h11, iAdd_eq, wrap_id (by omega)]
  have r12' : b12 = 2 * b11 := by rw [hm.h12, wrap_id (by omega)]
  have r10 : b10 = a4 + a5 + 32 := by omega
  have r12 : b12 = 2 * a4 + 2 * a5 + 64 := by omega
  by_cases c8 : a1 < b10
  · exact case8 h hw hm (by omega) (by omega) r7 (by omega) (by omega) (by omega) (by omega) (by omega) (by omega) r10 r12 c8
  by_cases c9 : (8193) ≤ a1
  · exact case9 h hw hm (by omega) (by omega) r7 (by omega) (by omega) (by omega) (by omega) (by omega) (by omega) r10 r12 c9
  by_cases c10 : a3 < b12
  · exact case10 h hw hm (by omega) (by omega) r7 (by omega) (by omega) (by omega) (by omega) (by omega) (by omega) r10 r12 (by omega) (by omega) c10
  by_cases c11 : (65537) ≤ a3
  · exact case11 h hw hm (by omega) (by omega) r7 (by omega) (by omega) (by omega) (by omega) (by omega) (by omega) r10 r12 (by omega) (by omega) c11
  by_cases c12 : a6 ≤ 0
  · exact case12 h hw hm (by omega) (by omega) r7 (by omega) (by omega) (by omega) (by omega) (by omega) (by omega) r10 r12 (by omega) (by omega) (by omega) (by omega) c12
  by_cases c13 : (3) ≤ a6
  · exact case13 h hw hm (by omega) (by omega) r7 (by omega) (by omega) (by omega) (by omega) (by omega) (by omega) r10 r12 (by omega) (by omega) (by omega) (by omega) c13
  have hs : a0 = 4 ∨ a0 = 5 ∨ a0 = 6 ∨ a0 = 7 ∨ a0 = 8 ∨ a0 = 9 ∨ a0 = 10 ∨ a0 = 11 ∨ a0 = 12 ∨ a0 = 13 ∨ a0 = 14 ∨ a0 = 15 ∨ a0 = 16 ∨ a0 = 17 ∨ a0 = 18 ∨ a0 = 19 ∨ a0 = 20 ∨ a0 = 21 ∨ a0 = 22 ∨ a0 = 23 ∨ a0 = 24 ∨ a0 = 25 ∨ a0 = 26 ∨ a0 = 27 ∨ a0 = 28 ∨ a0 = 29 ∨ a0 = 30 ∨ a0 = 31 ∨ a0 = 32 := by omega
  rcases hs with hs | hs | hs | hs | hs | hs | hs | hs | hs | hs | hs | hs | hs | hs | hs | hs | hs | hs | hs | hs | hs | hs | hs | hs | hs | hs | hs | hs | hs
  · exact case14 h hw hm (by omega) (by omega) r7 (by omega) (by omega) (by omega) (by omega) (by omega) (by omega) r10 r12 (by omega) (by omega) (by omega) (by omega) (by omega) (by omega) hs
  · exact case15 h hw hm (by omega) (by omega) r7 (by omega) (by omega) (by omega) (by omega) (by omega) (by omega) r10 r12 (by omega) (by omega) (by omega) (by omega) (by omega) (by omega) hs
  · exact case16 h hw hm (by omega) (by omega) r7 (by omega) (by omega) (by omega) (by omega) (by omega) (by omega) r10 r12 (by omega) (by omega) (by omega) (by omega) (by omega) (by omega) hs
  · exact case17 h hw hm (by omega) (by omega) r7 (by omega) (by omega) (by omega) (by omega) (by omega) (by omega) r10 r12 (by omega) (by omega) (by omega) (by omega) (by omega) (by omega) hs
  · exact case18 h hw hm (by omega) (by omega) r7 (by omega) (by omega) (by omega) (by omega) (by omega) (by omega) r10 r12 (by omega) (by omega) (by omega) (by omega) (by omega) (by omega) hs
  · exact case19 h hw hm (by omega) (by omega) r7 (by omega) (by omega) (by omega) (by omega) (by omega) (by omega) r10 r12 (by omega) (by omega) (by omega) (by omega) (by omega) (by omega) hs
  · exact case20 h hw hm (by omega) (by omega) r7 (by omega) (by omega) (by omega) (by omega) (by omega) (by omega) r10 r12 (by omega) (by omega) (by omega) (by omega) (by omega) (by omega) hs
  · exact case21 h hw hm (by omega) (by omega) r7 (by omega) (by omega) (by omega) (by omega) (by omega) (by omega) r10 r12 (by omega) (by omega) (by omega) (by omega) (by omega) (by omega) hs
  · exact case22 h hw hm (by omega) (by omega) r7 (by omega) (by omega) (by omega) (by omega) (by omega) (by omega) r10 r12 (by omega) (by omega) (by omega) (by omega) (by omega) (by omega) hs
  · exact case23 h hw hm (by omega) (by omega) r7 (by omega) (by omega) (by omega) (by omega) (by omega) (by omega) r10 r12 (by omega) (by omega) (by omega) (by omega) (by omega) (by omega) hs
  · exact case24 h hw hm (by omega) (by omega) r7 (by omega) (by omega) (by omega) (by omega) (by omega) (by omega) r10 r12 (by omega) (by omega) (by omega) (by omega) (by omega) (by omega) hs
  · exact case25 h hw hm (by omega) (by omega) r7 (by omega) (by omega) (by omega) (by omega) (by omega) (by omega) r10 r12 (by omega) (by omega) (by omega) (by omega) (by omega) (by omega) hs
  · exact case26 h hw hm (by omega) (by omega) r7 (by omega) (by omega) (by omega) (by omega) (by omega) (by omega) r10 r12 (by omega) (by omega) (by omega) (by omega) (by omega) (by omega) hs
  · exact case27 h hw hm (by omega) (by omega) r7 (by omega) (by omega) (by omega) (by omega) (by omega) (by omega) r10 r12 (by omega) (by omega) (by omega) (by omega) (by omega) (by omega) hs
  · exact case28 h hw hm (by omega) (by omega) r7 (by omega) (by omega) (by omega) (by omega) (by omega) (by omega) r10 r12 (by omega) (by omega) (by omega) (by omega) (by omega) (by omega) hs
  · exact case29 h hw hm (by omega) (by omega) r7 (by omega) (by omega) (by omega) (by omega) (by omega) (by omega) r10 r12 (by omega) (by omega) (by omega) (by omega) (by omega) (by omega) hs
  · exact case30 h hw hm (by omega) (by omega) r7 (by omega) (by omega) (by omega) (by omega) (by omega) (by omega) r10 r12 (by omega) (by omega) (by omega) (by omega) (by omega) (by omega) hs
  · exact case31 h hw hm (by omega) (by omega) r7 (by omega) (by omega) (by omega) (by omega) (by omega) (by omega) r10 r12 (by omega) (by omega) (by omega) (by omega) (by omega) (by omega) hs
  · exact case32 h hw hm (by omega) (by omega) r7 (by omega) (by omega) (by omega) (by omega) (by omega) (by omega) r10 r12 (by omega) (by omega) (by omega) (by omega) (by omega) (by omega) hs
  · exact case33 h hw hm (by omega) (by omega) r7 (by omega) (by omega) (by omega) (by omega) (by omega) (by omega) r10 r12 (by omega) (by omega) (by omega) (by omega) (by omega) (by omega) hs
  · exact case34 h hw hm (by omega) (by omega) r7 (by omega) (by omega) (by omega) (by omega) (by omega) (by omega) r10 r12 (by omega) (by omega) (by omega) (by omega) (by omega) (by omega) hs
  · exact case35 h hw hm (by omega) (by omega) r7 (by omega) (by omega) (by omega) (by omega) (by omega) (by omega) r10 r12 (by omega) (by omega) (by omega) (by omega) (by omega) (by omega) hs
  · exact case36 h hw hm (by omega) (by omega) r7 (by omega) (by omega) (by omega) (by omega) (by omega) (by omega) r10 r12 (by omega) (by omega) (by omega) (by omega) (by omega) (by omega) hs
  · exact case37 h hw hm (by omega) (by omega) r7 (by omega) (by omega) (by omega) (by omega) (by omega) (by omega) r10 r12 (by omega) (by omega) (by omega) (by omega) (by omega) (by omega) hs
  · exact case38 h hw hm (by omega) (by omega) r7 (by omega) (by omega) (by omega) (by omega) (by omega) (by omega) r10 r12 (by omega) (by omega) (by omega) (by omega) (by omega) (by omega) hs
  · exact case39 h hw hm (by omega) (by omega) r7 (by omega) (by omega) (by omega) (by omega) (by omega) (by omega) r10 r12 (by omega) (by omega) (by omega) (by omega) (by omega) (by omega) hs
  · exact case40 h hw hm (by omega) (by omega) r7 (by omega) (by omega) (by omega) (by omega) (by omega) (by omega) r10 r12 (by omega) (by omega) (by omega) (by omega) (by omega) (by omega) hs
  · exact case41 h hw hm (by omega) (by omega) r7 (by omega) (by omega) (by omega) (by omega) (by omega) (by omega) r10 r12 (by omega) (by omega) (by omega) (by omega) (by omega) (by omega) hs
  · exact case42 h hw hm (by omega) (by omega) r7 (by omega) (by omega) (by omega) (by omega) (by omega) (by omega) r10 r12 (by omega) (by omega) (by omega) (by omega) (by omega) (by omega) hs

theorem i64_of {n : Int} (h : (Lit.int .i64 n).wf = true) : (-9223372036854775808) ≤ n ∧ n ≤ 9223372036854775807 := by
  have h2 : (decide (IntKind.i64.min ≤ n) && decide (n ≤ IntKind.i64.max)) = true := h
  simp only [Bool.and_eq_true, decide_eq_true_eq] at h2
  have h0 : IntKind.i64.min = (-9223372036854775808) := by decide
  have h1 : IntKind.i64.max = 9223372036854775807 := by decide
  omega

theorem list7 {l : List Value} {x0 x1 x2 x3 x4 x5 x6 : Value} (hl : l.length = 7) (h0 : l[0]? = some x0) (h1 : l[1]? = some x1) (h2 : l[2]? = some x2) (h3 : l[3]? = some x3) (h4 : l[4]? = some x4) (h5 : l[5]? = some x5) (h6 : l[6]? = some x6) : l = [x0, x1, x2, x3, x4, x5, x6] := by
  match l, hl with
  | [y0, y1, y2, y3, y4, y5, y6], _ => simp at h0 h1 h2 h3 h4 h5 h6; simp [h0, h1, h2, h3, h4, h5, h6]


theorem lifted (os : Os) (started : os.Started) (H : Type) (enc : TypeId × Value → H) :
    ReturnsInHanded {} Tryz.checked os 3 .any (fun w args => (Rows.mergeNewsSpec.pre enc Tryz.prog Tryz.f3 [] false w args ∧ laidMetH Tryz.prog laidL w) ∧ sizedMet enc Tryz.prog Tryz.f3 (OpenSpec.ofChange Rows.mergeNewsSpec) false w args)
      (Rows.mergeNewsSpec.post enc Tryz.prog Tryz.f3 false true false false) := by
  refine returnsInHanded_of_change_and (C := Tryz.checked) (X := fun w _ => laidMetH Tryz.prog laidL w) (fun _ _ _ hh h => h.of_heap hh) own started (by kernel_rfl) Tryz.func3
    (ChangeSpec.witness_shaped (enc := enc) (C := Tryz.checked) (os := os) (X := fun w _ => laidMetH Tryz.prog laidL w) false (World.doorLaid Tryz.prog 400 os) #[.agg #[.int .i64 0, .int .i64 0, .int .i64 0, .int .i64 0, .int .i64 0, .int .i64 0, .int .i64 0]] 8 rfl (World.shaped_of_RefB (by kernel_rfl) (by kernel_rfl)) (by kernel_rfl) (by kernel_rfl) (by kernel_rfl) (door_met os _)) ?_
  intro W base args ds gs before hval0 hW _ _ hL _
  have hval : ∀ (j : Nat) t v, Tryz.f3.params[j]? = some t → args[j]? = some v → Value.okWide Tryz.prog W .any base t v := hval0
  have hW' := hW
  obtain ⟨p, q, hA0, hV, rfl, hfz, hnd⟩ := hW
  have hA : DataW.TrodAll enc Tryz.prog W 0 (fun _ => true) true Tryz.f3.params.toList args.toList ds p := hA0
  have hA1 := hA0
  rw [Tryz.params3] at hA hval
  obtain ⟨v0, d0, rfl, rfl, h0⟩ := trodAll_one hA
  obtain ⟨rfl, rfl⟩ := trodVars_none hV
  obtain ⟨cs, rfl, hsz⟩ := okWide_struct Tryz.underlying23 (hval 0 _ v0 rfl rfl)
  obtain ⟨fu, h0⟩ := h0
  have hsz' : cs.toList.length = 7 := by rw [Array.length_toList, hsz]; kernel_rfl
  obtain ⟨a0, e0, f0⟩ := fld_int (i := 0) Tryz.underlying23 rfl rfl rfl Tryz.underlying3 (by kernel_rfl) h0
  obtain ⟨a1, e1, f1⟩ := fld_int (i := 1) Tryz.underlying23 rfl rfl rfl Tryz.underlying3 (by kernel_rfl) h0
  obtain ⟨a2, e2, f2⟩ := fld_int (i := 2) Tryz.underlying23 rfl rfl rfl Tryz.underlying3 (by kernel_rfl) h0
  obtain ⟨a3, e3, f3⟩ := fld_int (i := 3) Tryz.underlying23 rfl rfl rfl Tryz.underlying3 (by kernel_rfl) h0
  obtain ⟨a4, e4, f4⟩ := fld_int (i := 4) Tryz.underlying23 rfl rfl rfl Tryz.underlying3 (by kernel_rfl) h0
  obtain ⟨a5, e5, f5⟩ := fld_int (i := 5) Tryz.underlying23 rfl rfl rfl Tryz.underlying3 (by kernel_rfl) h0
  obtain ⟨a6, e6, f6⟩ := fld_int (i := 6) Tryz.underlying23 rfl rfl rfl Tryz.underlying3 (by kernel_rfl) h0
  have hcs := list7 hsz' e0 e1 e2 e3 e4 e5 e6
  obtain ⟨l⟩ := cs
  simp only at hcs
  subst hcs
  clear hval0
  simp only [List.append_nil] at hW'
  refine (walk hL ⟨i64_of f0, i64_of f1, i64_of f2, i64_of f3, i64_of f4, i64_of f5, i64_of f6⟩).mono fun e W' ⟨he, hkp, hk⟩ => ?_
  subst he
  refine ⟨_, rfl, _, _, _, [], p, [], hW', ?_, ?_, ?_, hk _, fun h => by cases h⟩
  · exact trodAll_mk1 (shut_bool Tryz.underlying4 true)
  · exact DataW.TrodAll.respare kids full (by rw [Tryz.params3]; decide +kernel) (trodAll_keep hkp hA1) (fun q hq => by simpa using DataW.TrodAll.lt hA1 q hq)
  · rfl

end Go.Proofs.YtffklfjhcdggkaaGreatDoor.mergeNews
