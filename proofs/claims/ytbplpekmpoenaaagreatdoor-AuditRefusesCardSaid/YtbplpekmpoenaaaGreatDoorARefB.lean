/- AuditRefuses returns true for every configuration by numbers and both other numbers, at every world whose package variables are as the program's text lays them; no condition beside the row's own. -/
import Derived.Test.YtbplpekmpoenaaaGreatDoorARefA
import Derived.Test.YtbplpekmpoenaaaGreatDoorDxTbYZ
import Derived.Test.YtbplpekmpoenaaaGreatDoorE13
import Derived.Test.YtbplpekmpoenaaaGreatDoorARefT
import Derived.Test.YtbplpekmpoenaaaGreatDoorCards
namespace Go.Proofs.YtbplpekmpoenaaaGreatDoor.auditRefuses
open Go.ChangeShapes Go.WideShapes Go.ChangeAt Go.RowKit Go.X
set_option linter.unusedVariables false
set_option maxRecDepth 100000
set_option maxHeartbeats 40000000

noncomputable section
/-- the numbers -/
structure Nm where
  a0 : Nat
  a1 : Nat
  a2 : Nat
  a3 : Nat
  a4 : Nat
  a5 : Nat
  a6 : Nat
  fa : Nat
  wh : Nat
noncomputable def sy (x : Nm) (c0 c1 : Nat) : Nat → Value
  | 0 => .int .u8 (Int.ofNat x.a0)
  | 1 => .int .u8 (Int.ofNat x.a1)
  | 2 => .int .u8 (Int.ofNat x.a2)
  | 3 => .int .u8 (Int.ofNat x.a3)
  | 4 => .int .u8 (Int.ofNat x.a4)
  | 5 => .int .u8 (Int.ofNat x.a5)
  | 6 => .int .u8 (Int.ofNat x.a6)
  | 7 => .int .u16 (Int.ofNat x.fa)
  | 8 => .int .u8 (Int.ofNat x.wh)
  | 9 => .int .u8 (Int.ofNat (x.a1 % 5))
  | 10 => .int .i64 (Int.ofNat (2 + (x.a1 % 5)))
  | 11 => .int .u8 (Int.ofNat (x.a2 % 24))
  | 12 => .int .u8 (Int.ofNat (x.a3 % 2))
  | 13 => .int .i64 (Int.ofNat (1 + (x.a3 % 2)))
  | 14 => .int .i64 (Int.ofNat (16 + (2 + (x.a1 % 5))))
  | 15 => .int .i64 (Int.ofNat ((16 + (2 + (x.a1 % 5))) + (x.a2 % 24)))
  | 16 => .int .i64 (Int.ofNat (16 + ((16 + (2 + (x.a1 % 5))) + (x.a2 % 24))))
  | 17 => .int .i64 (Int.ofNat ((16 + ((16 + (2 + (x.a1 % 5))) + (x.a2 % 24))) + x.a5))
  | 18 => .int .i64 (Int.ofNat (((16 + (2 + (x.a1 % 5))) + (x.a2 % 24)) + 16))
  | 19 => .int .i64 (Int.ofNat (2 * (((16 + (2 + (x.a1 % 5))) + (x.a2 % 24)) + 16)))
  | 20 => .int .i64 (Int.ofNat ((2 * (((16 + (2 + (x.a1 % 5))) + (x.a2 % 24)) + 16)) + x.a6))
  | 21 => .int .i64 (((1 : Nat) : Int) - ((x.fa : Nat) : Int))
  | 24 => .int .i64 ((((1 : Nat) : Int) - ((x.fa : Nat) : Int)) + ((2 : Nat) : Int))
  | 25 => .int .i64 (Int.ofNat (((2 * (((16 + (2 + (x.a1 % 5))) + (x.a2 % 24)) + 16)) + x.a6) + ((16 + (2 + (x.a1 % 5))) + (x.a2 % 24))))
  | 26 => .int .i64 (Int.ofNat ((((2 * (((16 + (2 + (x.a1 % 5))) + (x.a2 % 24)) + 16)) + x.a6) + ((16 + (2 + (x.a1 % 5))) + (x.a2 % 24))) + 16))
  | 27 => .int .i64 ((-1) - ((x.fa : Nat) : Int))
  | 28 => .int .i64 (Int.ofNat (8193 + x.fa))
  | 22 => .int .u32 (Int.ofNat c0)
  | 23 => .int .u32 (Int.ofNat c1)
  | 29 => .int .u32 (Int.ofNat c0)
  | 30 => .int .u32 (Int.ofNat c1)
  | _ => .bool false
structure Bd (x : Nm) : Prop where
  b0 : x.a0 ≤ 255
  b1 : x.a1 ≤ 255
  b2 : x.a2 ≤ 255
  b3 : x.a3 ≤ 255
  b4 : x.a4 ≤ 255
  b5 : x.a5 ≤ 255
  b6 : x.a6 ≤ 255
  b7 : x.fa ≤ 65535
  b8 : x.wh ≤ 255
def base1 : List OraE := [⟨.rem, (.res 2 (.rng .u8 (0) (255))), (.int .u8 (5)), (.res 18 (.rng .u8 (0) (4))), none⟩, ⟨.add, (.int .i64 (2)), (.res 18 (.nat .i64 .full 0 4)), (.res 20 (.rng .i64 (2) (6))), none⟩, ⟨.rem, (.res 4 (.rng .u8 (0) (255))), (.int .u8 (24)), (.res 22 (.rng .u8 (0) (23))), none⟩, ⟨.rem, (.res 6 (.rng .u8 (0) (255))), (.int .u8 (2)), (.res 24 (.rng .u8 (0) (1))), none⟩, ⟨.add, (.int .i64 (1)), (.res 24 (.nat .i64 .full 0 1)), (.res 26 (.rng .i64 (1) (2))), none⟩, ⟨.add, (.int .i64 (16)), (.res 20 (.rng .i64 (2) (6))), (.res 28 (.rng .i64 (18) (22))), none⟩, ⟨.add, (.res 28 (.rng .i64 (18) (22))), (.res 22 (.nat .i64 .full 0 23)), (.res 30 (.rng .i64 (18) (45))), none⟩, ⟨.add, (.int .i64 (16)), (.res 30 (.rng .i64 (18) (45))), (.res 32 (.rng .i64 (34) (61))), none⟩, ⟨.add, (.res 32 (.rng .i64 (34) (61))), (.res 10 (.nat .i64 .full 0 255)), (.res 34 (.rng .i64 (34) (316))), none⟩, ⟨.add, (.res 30 (.rng .i64 (18) (45))), (.int .i64 (16)), (.res 36 (.rng .i64 (34) (61))), none⟩, ⟨.mul, (.int .i64 (2)), (.res 36 (.rng .i64 (34) (61))), (.res 38 (.rng .i64 (68) (122))), none⟩, ⟨.add, (.res 38 (.rng .i64 (68) (122))), (.res 12 (.nat .i64 .full 0 255)), (.res 40 (.rng .i64 (68) (377))), none⟩, ⟨.sub, (.int .i64 (1)), (.res 14 (.nat .i64 .full 0 65535)), (.res 42 (.rng .i64 (-65534) (1))), none⟩, ⟨.lss, (.res 34 (.rng .i64 (34) (316))), (.res 32 (.rng .i64 (34) (61))), (.bool false), none⟩, ⟨.lss, (.res 40 (.rng .i64 (68) (377))), (.res 38 (.rng .i64 (68) (122))), (.bool false), none⟩]
theorem base1_ok {W : World} {x : Nm} {c0 c1 : Nat} (hb : Bd x) : OraOk base1 (env0 Tryz.prog.globals.size W (sy x c0 c1)).sy := by
  obtain ⟨b0, b1, b2, b3, b4, b5, b6, b7, b8⟩ := hb
  unfold base1
  refine ora_rem (m := x.a1) (n := 5) (by decide) rfl rfl rfl (by constructor <;> (first | omega | (simp only [Int.ofNat_eq_natCast]; omega))) ?_
  refine ora_add rfl rfl rfl (by constructor <;> (first | omega | (simp only [Int.ofNat_eq_natCast]; omega))) (by constructor <;> simp only [kLo, kHi] <;> (first | omega | (simp only [Int.ofNat_eq_natCast]; omega))) ?_
  refine ora_rem (m := x.a2) (n := 24) (by decide) rfl rfl rfl (by constructor <;> (first | omega | (simp only [Int.ofNat_eq_natCast]; omega))) ?_
  refine ora_rem (m := x.a3) (n := 2) (by decide) rfl rfl rfl (by constructor <;> (first | omega | (simp only [Int.ofNat_eq_natCast]; omega))) ?_
  refine ora_add rfl rfl rfl (by constructor <;> (first | omega | (simp only [Int.ofNat_eq_natCast]; omega))) (by constructor <;> simp only [kLo, kHi] <;> (first | omega | (simp only [Int.ofNat_eq_natCast]; omega))) ?_
  refine ora_add rfl rfl rfl (by constructor <;> (first | omega | (simp only [Int.ofNat_eq_natCast]; omega))) (by constructor <;> simp only [kLo, kHi] <;> (first | omega | (simp only [Int.ofNat_eq_natCast]; omega))) ?_
  refine ora_add rfl rfl rfl (by constructor <;> (first | omega | (simp only [Int.ofNat_eq_natCast]; omega))) (by constructor <;> simp only [kLo, kHi] <;> (first | omega | (simp only [Int.ofNat_eq_natCast]; omega))) ?_
  refine ora_add rfl rfl rfl (by constructor <;> (first | omega | (simp only [Int.ofNat_eq_natCast]; omega))) (by constructor <;> simp only [kLo, kHi] <;> (first | omega | (simp only [Int.ofNat_eq_natCast]; omega))) ?_
  refine ora_add rfl rfl rfl (by constructor <;> (first | omega | (simp only [Int.ofNat_eq_natCast]; omega))) (by constructor <;> simp only [kLo, kHi] <;> (first | omega | (simp only [Int.ofNat_eq_natCast]; omega))) ?_
  refine ora_add rfl rfl rfl (by constructor <;> (first | omega | (simp only [Int.ofNat_eq_natCast]; omega))) (by constructor <;> simp only [kLo, kHi] <;> (first | omega | (simp only [Int.ofNat_eq_natCast]; omega))) ?_
  refine ora_mul rfl rfl rfl (by constructor <;> (first | omega | (simp only [Int.ofNat_eq_natCast]; omega))) (by constructor <;> simp only [kLo, kHi] <;> (first | omega | (simp only [Int.ofNat_eq_natCast]; omega))) ?_
  refine ora_add rfl rfl rfl (by constructor <;> (first | omega | (simp only [Int.ofNat_eq_natCast]; omega))) (by constructor <;> simp only [kLo, kHi] <;> (first | omega | (simp only [Int.ofNat_eq_natCast]; omega))) ?_
  refine ora_sub rfl rfl rfl (by constructor <;> (first | omega | (simp only [Int.ofNat_eq_natCast]; omega))) (by constructor <;> simp only [kLo, kHi] <;> (first | omega | (simp only [Int.ofNat_eq_natCast]; omega))) ?_
  refine ora_lss rfl rfl (decide_eq_false (by first | omega | (simp only [Int.ofNat_eq_natCast]; omega))) ?_
  refine ora_lss rfl rfl (decide_eq_false (by first | omega | (simp only [Int.ofNat_eq_natCast]; omega))) ?_
  exact ora_nil _
def base2 : List OraE := [⟨.add, (.res 42 (.rng .i64 (-65534) (1))), (.int .i64 (2)), (.res 48 (.rng .i64 (-65532) (3))), none⟩, ⟨.add, (.res 40 (.rng .i64 (68) (377))), (.res 30 (.rng .i64 (18) (45))), (.res 50 (.rng .i64 (86) (422))), none⟩, ⟨.add, (.res 50 (.rng .i64 (86) (422))), (.int .i64 (16)), (.res 52 (.rng .i64 (102) (438))), none⟩, ⟨.sub, (.int .i64 (-1)), (.res 14 (.nat .i64 .full 0 65535)), (.res 54 (.rng .i64 (-65536) (-1))), none⟩, ⟨.add, (.int .i64 (8193)), (.res 14 (.nat .i64 .full 0 65535)), (.res 56 (.rng .i64 (8193) (73728))), none⟩]
theorem base2_ok {W : World} {x : Nm} {c0 c1 : Nat} (hb : Bd x) : OraOk base2 (env0 Tryz.prog.globals.size W (sy x c0 c1)).sy := by
  obtain ⟨b0, b1, b2, b3, b4, b5, b6, b7, b8⟩ := hb
  unfold base2
  refine ora_add rfl rfl rfl (by constructor <;> (first | omega | (simp only [Int.ofNat_eq_natCast]; omega))) (by constructor <;> simp only [kLo, kHi] <;> (first | omega | (simp only [Int.ofNat_eq_natCast]; omega))) ?_
  refine ora_add rfl rfl rfl (by constructor <;> (first | omega | (simp only [Int.ofNat_eq_natCast]; omega))) (by constructor <;> simp only [kLo, kHi] <;> (first | omega | (simp only [Int.ofNat_eq_natCast]; omega))) ?_
  refine ora_add rfl rfl rfl (by constructor <;> (first | omega | (simp only [Int.ofNat_eq_natCast]; omega))) (by constructor <;> simp only [kLo, kHi] <;> (first | omega | (simp only [Int.ofNat_eq_natCast]; omega))) ?_
  refine ora_sub rfl rfl rfl (by constructor <;> (first | omega | (simp only [Int.ofNat_eq_natCast]; omega))) (by constructor <;> simp only [kLo, kHi] <;> (first | omega | (simp only [Int.ofNat_eq_natCast]; omega))) ?_
  refine ora_add rfl rfl rfl (by constructor <;> (first | omega | (simp only [Int.ofNat_eq_natCast]; omega))) (by constructor <;> simp only [kLo, kHi] <;> (first | omega | (simp only [Int.ofNat_eq_natCast]; omega))) ?_
  exact ora_nil _
def cs (e S R : Nat) : List AV := kBytes [68, 82, 85, 77, e, 0, 0, 0, 0, 0, 0, 0, S, 0, 0, 0] ++ ([(.res 34 (.nat .u8 (.byt 0) 34 316)), (.res 34 (.nat .u8 (.byt 1) 34 316))] ++ (kBytes [0, 0, R, 0, 0, 0] ++ ([(.res 40 (.nat .u8 (.byt 0) 68 377)), (.res 40 (.nat .u8 (.byt 1) 68 377))] ++ (kBytes [0, 0] ++ ([(.res 20 (.nat .u8 (.byt 0) 2 6))] ++ (kBytes [0, 0, 0] ++ ([(.res 22 (.nat .u8 (.byt 0) 0 23))] ++ (kBytes [0, 0, 0] ++ ([(.res 26 (.nat .u8 (.byt 0) 1 2))] ++ (kBytes (List.replicate 23 0)))))))))))
def bs (e S R : Nat) (x : Nm) : List Nat := [68, 82, 85, 77, e, 0, 0, 0, 0, 0, 0, 0, S, 0, 0, 0] ++ ([(((16 + ((16 + (2 + (x.a1 % 5))) + (x.a2 % 24))) + x.a5) / 2 ^ (8 * 0) % 256), (((16 + ((16 + (2 + (x.a1 % 5))) + (x.a2 % 24))) + x.a5) / 2 ^ (8 * 1) % 256)] ++ ([0, 0, R, 0, 0, 0] ++ ([(((2 * (((16 + (2 + (x.a1 % 5))) + (x.a2 % 24)) + 16)) + x.a6) / 2 ^ (8 * 0) % 256), (((2 * (((16 + (2 + (x.a1 % 5))) + (x.a2 % 24)) + 16)) + x.a6) / 2 ^ (8 * 1) % 256)] ++ ([0, 0] ++ ([((2 + (x.a1 % 5)) / 2 ^ (8 * 0) % 256)] ++ ([0, 0, 0] ++ ([((x.a2 % 24) / 2 ^ (8 * 0) % 256)] ++ ([0, 0, 0] ++ ([((1 + (x.a3 % 2)) / 2 ^ (8 * 0) % 256)] ++ ((List.replicate 23 0)))))))))))
theorem cs_cv {W : World} {x : Nm} {c0 c1 u S R : Nat} (hb : Bd x) : ∀ e : Env, e.sy = (env0 Tryz.prog.globals.size W (sy x c0 c1)).sy → cvs e (cs u S R) = some ((bs u S R x).map fun b => .int .u8 (Int.ofNat b)) := by
  obtain ⟨b0, b1, b2, b3, b4, b5, b6, b7, b8⟩ := hb
  intro e he
  exact (cvs_app_bytes (cvs_bytes e _) (cvs_app_bytes (cvs_mk (byt_cv (n := ((16 + ((16 + (2 + (x.a1 % 5))) + (x.a2 % 24))) + x.a5)) (k := .i64) ((congrFun he 34).trans rfl) (by constructor <;> omega)) (cvs_mk (byt_cv (n := ((16 + ((16 + (2 + (x.a1 % 5))) + (x.a2 % 24))) + x.a5)) (k := .i64) ((congrFun he 34).trans rfl) (by constructor <;> omega)) rfl)) (cvs_app_bytes (cvs_bytes e _) (cvs_app_bytes (cvs_mk (byt_cv (n := ((2 * (((16 + (2 + (x.a1 % 5))) + (x.a2 % 24)) + 16)) + x.a6)) (k := .i64) ((congrFun he 40).trans rfl) (by constructor <;> omega)) (cvs_mk (byt_cv (n := ((2 * (((16 + (2 + (x.a1 % 5))) + (x.a2 % 24)) + 16)) + x.a6)) (k := .i64) ((congrFun he 40).trans rfl) (by constructor <;> omega)) rfl)) (cvs_app_bytes (cvs_bytes e _) (cvs_app_bytes (cvs_mk (byt_cv (n := (2 + (x.a1 % 5))) (k := .i64) ((congrFun he 20).trans rfl) (by constructor <;> omega)) rfl) (cvs_app_bytes (cvs_bytes e _) (cvs_app_bytes (cvs_mk (byt_cv (n := (x.a2 % 24)) (k := .u8) ((congrFun he 22).trans rfl) (by constructor <;> omega)) rfl) (cvs_app_bytes (cvs_bytes e _) (cvs_app_bytes (cvs_mk (byt_cv (n := (1 + (x.a3 % 2))) (k := .i64) ((congrFun he 26).trans rfl) (by constructor <;> omega)) rfl) (cvs_bytes e _)))))))))))
theorem bs_lt {e S R : Nat} (he : e < 256) (hS : S < 256) (hR : R < 256) (x : Nm) : ∀ b ∈ bs e S R x, b < 256 :=
  (List.forall_mem_append.2 ⟨(by intro b hb; simp at hb; omega), (List.forall_mem_append.2 ⟨(List.forall_mem_cons.2 ⟨Nat.mod_lt _ (by decide), (List.forall_mem_cons.2 ⟨Nat.mod_lt _ (by decide), (fun _ h => by cases h)⟩)⟩), (List.forall_mem_append.2 ⟨(by intro b hb; simp at hb; omega), (List.forall_mem_append.2 ⟨(List.forall_mem_cons.2 ⟨Nat.mod_lt _ (by decide), (List.forall_mem_cons.2 ⟨Nat.mod_lt _ (by decide), (fun _ h => by cases h)⟩)⟩), (List.forall_mem_append.2 ⟨(by intro b hb; simp at hb; omega), (List.forall_mem_append.2 ⟨(List.forall_mem_cons.2 ⟨Nat.mod_lt _ (by decide), (fun _ h => by cases h)⟩), (List.forall_mem_append.2 ⟨(by intro b hb; simp at hb; omega), (List.forall_mem_append.2 ⟨(List.forall_mem_cons.2 ⟨Nat.mod_lt _ (by decide), (fun _ h => by cases h)⟩), (List.forall_mem_append.2 ⟨(by intro b hb; simp at hb; omega), (List.forall_mem_append.2 ⟨(List.forall_mem_cons.2 ⟨Nat.mod_lt _ (by decide), (fun _ h => by cases h)⟩), (by intro b hb; simp at hb; omega)⟩)⟩)⟩)⟩)⟩)⟩)⟩)⟩)⟩)⟩)
theorem oraA {W : World} {x : Nm} (hb : Bd x) {S R : Nat} (hS : S < 256) (hR : R < 256) {K : List OraE} (hK : OraOk K (env0 Tryz.prog.globals.size W (sy x (crcG (bs 1 S R x)) (crcG (bs 2 S R x)))).sy) : OraOk (base1 ++ ([⟨.xor, .undef, .undef, .res 44 (.rng .u32 0 4294967295), some (cs 1 S R)⟩, ⟨.xor, .undef, .undef, .res 46 (.rng .u32 0 4294967295), some (cs 2 S R)⟩] ++ (base2 ++ K))) (env0 Tryz.prog.globals.size W (sy x (crcG (bs 1 S R x)) (crcG (bs 2 S R x)))).sy := by
  refine ora_append (base1_ok hb) ?_
  refine ora_append ?_ ?_
  · refine ora_sum (bs 1 S R x) (cs_cv hb) rfl (bs_lt (by decide) hS hR x) (crcG_lt _ (bs_lt (by decide) hS hR x)) ?_
    refine ora_sum (bs 2 S R x) (cs_cv hb) rfl (bs_lt (by decide) hS hR x) (crcG_lt _ (bs_lt (by decide) hS hR x)) ?_
    exact ora_nil _
  refine ora_append (base2_ok hb) ?_
  exact hK
theorem oraB {W : World} {x : Nm} (hb : Bd x) {S R : Nat} (hS : S < 256) (hR : R < 256) {K : List OraE} (hK : OraOk K (env0 Tryz.prog.globals.size W (sy x (crcG (bs 1 S R x)) (crcG (bs 2 S R x)))).sy) : OraOk (base1 ++ (base2 ++ ([⟨.xor, .undef, .undef, .res 58 (.rng .u32 0 4294967295), some (cs 1 S R)⟩, ⟨.xor, .undef, .undef, .res 60 (.rng .u32 0 4294967295), some (cs 2 S R)⟩] ++ K))) (env0 Tryz.prog.globals.size W (sy x (crcG (bs 1 S R x)) (crcG (bs 2 S R x)))).sy := by
  refine ora_append (base1_ok hb) ?_
  refine ora_append (base2_ok hb) ?_
  refine ora_append ?_ ?_
  · refine ora_sum (bs 1 S R x) (cs_cv hb) rfl (bs_lt (by decide) hS hR x) (crcG_lt _ (bs_lt (by decide) hS hR x)) ?_
    refine ora_sum (bs 2 S R x) (cs_cv hb) rfl (bs_lt (by decide) hS hR x) (crcG_lt _ (bs_lt (by decide) hS hR x)) ?_
    exact ora_nil _
  exact hK
theorem oraK {W : World} {x : Nm} {c0 c1 r : Nat} (hf : x.fa % 5 = r) : OraOk [⟨.rem, (.res 14 (.nat .i64 .full 0 65535)), (.int .i64 (5)), .int .i64 (Int.ofNat r), none⟩] (env0 Tryz.prog.globals.size W (sy x c0 c1)).sy := by
  refine ora_remc (m := x.fa) (n := 5) (by decide) hf rfl rfl ?_
  exact ora_nil _
abbrev VS (x : Nm) : List Value := [.agg #[.int .u8 (Int.ofNat x.a0), .int .u8 (Int.ofNat x.a1), .int .u8 (Int.ofNat x.a2), .int .u8 (Int.ofNat x.a3), .int .u8 (Int.ofNat x.a4), .int .u8 (Int.ofNat x.a5), .int .u8 (Int.ofNat x.a6)], .int .u16 (Int.ofNat x.fa), .int .u8 (Int.ofNat x.wh)]
abbrev Concl (W : World) (x : Nm) : Prop := Calls Tryz.prog 4 (VS x).toArray W fun e w' => e = .returned (.bool true) ∧ (∀ B, B < W.heap.size → w'.heap[B]? = W.heap[B]?) ∧ ∀ may, W.keptBut w' may
def args (r s t : Nat) : List AV := [.agg [.res 0 (.md .u8 2 r), .res 2 (.rng .u8 0 255), .res 4 (.rng .u8 0 255), .res 6 (.rng .u8 0 255), .res 8 (.md .u8 5 s), .res 10 (.rng .u8 0 255), .res 12 (.rng .u8 0 255)], .res 14 (.rng .u16 0 65535), .res 16 (.md .u8 4 t)]
theorem args_cv {W : World} {x : Nm} {c0 c1 r s t : Nat} (hb : Bd x) (h0 : x.a0 % 2 = r) (h4 : x.a4 % 5 = s) (hw : x.wh % 4 = t) : cvs (env0 Tryz.prog.globals.size W (sy x c0 c1)) (args r s t) = some (VS x) :=
  cvs_mk (cvAgg (cvs_mk (md_cv rfl h0) (cvs_mk (rng_cv rfl ⟨Int.natCast_nonneg _, Int.ofNat_le.2 hb.b1⟩) (cvs_mk (rng_cv rfl ⟨Int.natCast_nonneg _, Int.ofNat_le.2 hb.b2⟩) (cvs_mk (rng_cv rfl ⟨Int.natCast_nonneg _, Int.ofNat_le.2 hb.b3⟩) (cvs_mk (md_cv rfl h4) (cvs_mk (rng_cv rfl ⟨Int.natCast_nonneg _, Int.ofNat_le.2 hb.b5⟩) (cvs_mk (rng_cv rfl ⟨Int.natCast_nonneg _, Int.ofNat_le.2 hb.b6⟩) rfl)))))))) (cvs_mk (rng_cv rfl ⟨Int.natCast_nonneg _, Int.ofNat_le.2 hb.b7⟩) (cvs_mk (md_cv rfl hw) rfl))
theorem mk {W : World} (h : laidMetH Tryz.prog laidL W) {x : Nm} (hb : Bd x) {c0 c1 r s t : Nat} (h0 : x.a0 % 2 = r) (h4 : x.a4 % 5 = s) (hw : x.wh % 4 = t) {O : List OraE} {l : List (List AV)} (hl : l = [args r s t])
    (ht : chkTop (xp YMT O) 20000 4 ⟨14, YG⟩ l = true) (hO : OraOk O (env0 Tryz.prog.globals.size W (sy x c0 c1)).sy) : Concl W x :=
  top_trueg (xp_ok _ _) (xp_fns _ _) mixed (YmT _) (xp_sums _ _) (l := l) (by rw [nGlob]; exact ht) (globs h) (by rw [hl]; exact List.mem_cons_self ..) (vs := VS x) (sy x c0 c1) hO (args_cv hb h0 h4 hw)
theorem walk {W : World} (h : laidMetH Tryz.prog laidL W) {x : Nm} (hb : Bd x) : Concl W x := by
  have h0 : x.a0 % 2 = 0 ∨ x.a0 % 2 = 1 := by omega
  have h4 : x.a4 % 5 = 0 ∨ x.a4 % 5 = 1 ∨ x.a4 % 5 = 2 ∨ x.a4 % 5 = 3 ∨ x.a4 % 5 = 4 := by omega
  have hw : x.wh % 4 = 0 ∨ x.wh % 4 = 2 ∨ x.wh % 4 = 3 ∨ x.wh % 4 = 1 := by omega
  have hf : x.fa % 5 = 0 ∨ x.fa % 5 = 1 ∨ x.fa % 5 = 2 ∨ x.fa % 5 = 3 ∨ x.fa % 5 = 4 := by omega
  rcases h0 with h0 | h0
  · rcases h4 with h4 | h4 | h4 | h4 | h4
    · rcases hw with hw | hw | hw | hw
      · exact mk h hb h0 h4 hw (O := YO0) (l := YL0) rfl YT0 (oraA hb (S := 4) (R := 2) (by decide) (by decide) (ora_nil _))
      · exact mk h hb h0 h4 hw (O := YO1) (l := YL1) rfl YT1 (oraA hb (S := 4) (R := 2) (by decide) (by decide) (ora_nil _))
      · exact mk h hb h0 h4 hw (O := YO2) (l := YL2) rfl YT2 (oraA hb (S := 4) (R := 2) (by decide) (by decide) (ora_nil _))
      · rcases hf with hf | hf | hf | hf | hf
        · exact mk h hb h0 h4 hw (O := YO3) (l := YL3) rfl YT3 (oraA hb (S := 4) (R := 2) (by decide) (by decide) (oraK hf))
        · exact mk h hb h0 h4 hw (O := YO4) (l := YL4) rfl YT4 (oraA hb (S := 4) (R := 2) (by decide) (by decide) (oraK hf))
        · exact mk h hb h0 h4 hw (O := YO5) (l := YL5) rfl YT5 (oraA hb (S := 4) (R := 2) (by decide) (by decide) (oraK hf))
        · exact mk h hb h0 h4 hw (O := YO6) (l := YL6) rfl YT6 (oraA hb (S := 4) (R := 2) (by decide) (by decide) (oraK hf))
        · exact mk h hb h0 h4 hw (O := YO7) (l := YL7) rfl YT7 (oraA hb (S := 4) (R := 2) (by decide) (by decide) (oraK hf))
    · rcases hw with hw | hw | hw | hw
      · exact mk h hb h0 h4 hw (O := YO8) (l := YL8) rfl YT8 (oraB hb (S := 5) (R := 2) (by decide) (by decide) (ora_nil _))
      · exact mk h hb h0 h4 hw (O := YO9) (l := YL9) rfl YT9 (oraB hb (S := 5) (R := 2) (by decide) (by decide) (ora_nil _))
      · exact mk h hb h0 h4 hw (O := YO10) (l := YL10) rfl YT10 (oraB hb (S := 5) (R := 2) (by decide) (by decide) (ora_nil _))
      · rcases hf with hf | hf | hf | hf | hf
        · exact mk h hb h0 h4 hw (O := YO11) (l := YL11) rfl YT11 (oraB hb (S := 5) (R := 2) (by decide) (by decide) (oraK hf))
        · exact mk h hb h0 h4 hw (O := YO12) (l := YL12) rfl YT12 (oraB hb (S := 5) (R := 2) (by decide) (by decide) (oraK hf))
        · exact mk h hb h0 h4 hw (O := YO13) (l := YL13) rfl YT13 (oraB hb (S := 5) (R := 2) (by decide) (by decide) (oraK hf))
        · exact mk h hb h0 h4 hw (O := YO14) (l := YL14) rfl YT14 (oraB hb (S := 5) (R := 2) (by decide) (by decide) (oraK hf))
        · exact mk h hb h0 h4 hw (O := YO15) (l := YL15) rfl YT15 (oraB hb (S := 5) (R := 2) (by decide) (by decide) (oraK hf))
    · rcases hw with hw | hw | hw | hw
      · exact mk h hb h0 h4 hw (O := YO16) (l := YL16) rfl YT16 (oraB hb (S := 6) (R := 2) (by decide) (by decide) (ora_nil _))
      · exact mk h hb h0 h4 hw (O := YO17) (l := YL17) rfl YT17 (oraB hb (S := 6) (R := 2) (by decide) (by decide) (ora_nil _))
      · exact mk h hb h0 h4 hw (O := YO18) (l := YL18) rfl YT18 (oraB hb (S := 6) (R := 2) (by decide) (by decide) (ora_nil _))
      · rcases hf with hf | hf | hf | hf | hf
        · exact mk h hb h0 h4 hw (O := YO19) (l := YL19) rfl YT19 (oraB hb (S := 6) (R := 2) (by decide) (by decide) (oraK hf))
        · exact mk h hb h0 h4 hw (O := YO20) (l := YL20) rfl YT20 (oraB hb (S := 6) (R := 2) (by decide) (by decide) (oraK hf))
        · exact mk h hb h0 h4 hw (O := YO21) (l := YL21) rfl YT21 (oraB hb (S := 6) (R := 2) (by decide) (by decide) (oraK hf))
        · exact mk h hb h0 h4 hw (O := YO22) (l := YL22) rfl YT22 (oraB hb (S := 6) (R := 2) (by decide) (by decide) (oraK hf))
        · exact mk h hb h0 h4 hw (O := YO23) (l := YL23) rfl YT23 (oraB hb (S := 6) (R := 2) (by decide) (by decide) (oraK hf))
    · rcases hw with hw | hw | hw | hw
      · exact mk h hb h0 h4 hw (O := YO24) (l := YL24) rfl YT24 (oraB hb (S := 7) (R := 2) (by decide) (by decide) (ora_nil _))
      · exact mk h hb h0 h4 hw (O := YO25) (l := YL25) rfl YT25 (oraB hb (S := 7) (R := 2) (by decide) (by decide) (ora_nil _))
      · exact mk h hb h0 h4 hw (O := YO26) (l := YL26) rfl YT26 (oraB hb (S := 7) (R := 2) (by decide) (by decide) (ora_nil _))
      · rcases hf with hf | hf | hf | hf | hf
        · exact mk h hb h0 h4 hw (O := YO27) (l := YL27) rfl YT27 (oraB hb (S := 7) (R := 2) (by decide) (by decide) (oraK hf))
        · exact mk h hb h0 h4 hw (O := YO28) (l := YL28) rfl YT28 (oraB hb (S := 7) (R := 2) (by decide) (by decide) (oraK hf))
        · exact mk h hb h0 h4 hw (O := YO29) (l := YL29) rfl YT29 (oraB hb (S := 7) (R := 2) (by decide) (by decide) (oraK hf))
        · exact mk h hb h0 h4 hw (O := YO30) (l := YL30) rfl YT30 (oraB hb (S := 7) (R := 2) (by decide) (by decide) (oraK hf))
        · exact mk h hb h0 h4 hw (O := YO31) (l := YL31) rfl YT31 (oraB hb (S := 7) (R := 2) (by decide) (by decide) (oraK hf))
    · rcases hw with hw | hw | hw | hw
      · exact mk h hb h0 h4 hw (O := YO32) (l := YL32) rfl YT32 (oraB hb (S := 8) (R := 2) (by decide) (by decide) (ora_nil _))
      · exact mk h hb h0 h4 hw (O := YO33) (l := YL33) rfl YT33 (oraB hb (S := 8) (R := 2) (by decide) (by decide) (ora_nil _))
      · exact mk h hb h0 h4 hw (O := YO34) (l := YL34) rfl YT34 (oraB hb (S := 8) (R := 2) (by decide) (by decide) (ora_nil _))
      · rcases hf with hf | hf | hf | hf | hf
        · exact mk h hb h0 h4 hw (O := YO35) (l := YL35) rfl YT35 (oraB hb (S := 8) (R := 2) (by decide) (by decide) (oraK hf))
        · exact mk h hb h0 h4 hw (O := YO36) (l := YL36) rfl YT36 (oraB hb (S := 8) (R := 2) (by decide) (by decide) (oraK hf))
        · exact mk h hb h0 h4 hw (O := YO37) (l := YL37) rfl YT37 (oraB hb (S := 8) (R := 2) (by decide) (by decide) (oraK hf))
        · exact mk h hb h0 h4 hw (O := YO38) (l := YL38) rfl YT38 (oraB hb (S := 8) (R := 2) (by decide) (by decide) (oraK hf))
        · exact mk h hb h0 h4 hw (O := YO39) (l := YL39) rfl YT39 (oraB hb (S := 8) (R := 2) (by decide) (by decide) (oraK hf))
  · rcases h4 with h4 | h4 | h4 | h4 | h4
    · rcases hw with hw | hw | hw | hw
      · exact mk h hb h0 h4 hw (O := YO40) (l := YL40) rfl YT40 (oraB hb (S := 5) (R := 3) (by decide) (by decide) (ora_nil _))
      · exact mk h hb h0 h4 hw (O := YO41) (l := YL41) rfl YT41 (oraB hb (S := 5) (R := 3) (by decide) (by decide) (ora_nil _))
      · exact mk h hb h0 h4 hw (O := YO42) (l := YL42) rfl YT42 (oraB hb (S := 5) (R := 3) (by decide) (by decide) (ora_nil _))
      · rcases hf with hf | hf | hf | hf | hf
        · exact mk h hb h0 h4 hw (O := YO43) (l := YL43) rfl YT43 (oraB hb (S := 5) (R := 3) (by decide) (by decide) (oraK hf))
        · exact mk h hb h0 h4 hw (O := YO44) (l := YL44) rfl YT44 (oraB hb (S := 5) (R := 3) (by decide) (by decide) (oraK hf))
        · exact mk h hb h0 h4 hw (O := YO45) (l := YL45) rfl YT45 (oraB hb (S := 5) (R := 3) (by decide) (by decide) (oraK hf))
        · exact mk h hb h0 h4 hw (O := YO46) (l := YL46) rfl YT46 (oraB hb (S := 5) (R := 3) (by decide) (by decide) (oraK hf))
        · exact mk h hb h0 h4 hw (O := YO47) (l := YL47) rfl YT47 (oraB hb (S := 5) (R := 3) (by decide) (by decide) (oraK hf))
    · rcases hw with hw | hw | hw | hw
      · exact mk h hb h0 h4 hw (O := YO48) (l := YL48) rfl YT48 (oraB hb (S := 6) (R := 3) (by decide) (by decide) (ora_nil _))
      · exact mk h hb h0 h4 hw (O := YO49) (l := YL49) rfl YT49 (oraB hb (S := 6) (R := 3) (by decide) (by decide) (ora_nil _))
      · exact mk h hb h0 h4 hw (O := YO50) (l := YL50) rfl YT50 (oraB hb (S := 6) (R := 3) (by decide) (by decide) (ora_nil _))
      · rcases hf with hf | hf | hf | hf | hf
        · exact mk h hb h0 h4 hw (O := YO51) (l := YL51) rfl YT51 (oraB hb (S := 6) (R := 3) (by decide) (by decide) (oraK hf))
        · exact mk h hb h0 h4 hw (O := YO52) (l := YL52) rfl YT52 (oraB hb (S := 6) (R := 3) (by decide) (by decide) (oraK hf))
        · exact mk h hb h0 h4 hw (O := YO53) (l := YL53) rfl YT53 (oraB hb (S := 6) (R := 3) (by decide) (by decide) (oraK hf))
        · exact mk h hb h0 h4 hw (O := YO54) (l := YL54) rfl YT54 (oraB hb (S := 6) (R := 3) (by decide) (by decide) (oraK hf))
        · exact mk h hb h0 h4 hw (O := YO55) (l := YL55) rfl YT55 (oraB hb (S := 6) (R := 3) (by decide) (by decide) (oraK hf))
    · rcases hw with hw | hw | hw | hw
      · exact mk h hb h0 h4 hw (O := YO56) (l := YL56) rfl YT56 (oraB hb (S := 7) (R := 3) (by decide) (by decide) (ora_nil _))
      · exact mk h hb h0 h4 hw (O := YO57) (l := YL57) rfl YT57 (oraB hb (S := 7) (R := 3) (by decide) (by decide) (ora_nil _))
      · exact mk h hb h0 h4 hw (O := YO58) (l := YL58) rfl YT58 (oraB hb (S := 7) (R := 3) (by decide) (by decide) (ora_nil _))
      · rcases hf with hf | hf | hf | hf | hf
        · exact mk h hb h0 h4 hw (O := YO59) (l := YL59) rfl YT59 (oraB hb (S := 7) (R := 3) (by decide) (by decide) (oraK hf))
        · exact mk h hb h0 h4 hw (O := YO60) (l := YL60) rfl YT60 (oraB hb (S := 7) (R := 3) (by decide) (by decide) (oraK hf))
        · exact mk h hb h0 h4 hw (O := YO61) (l := YL61) rfl YT61 (oraB hb (S := 7) (R := 3) (by decide) (by decide) (oraK hf))
        · exact mk h hb h0 h4 hw (O := YO62) (l := YL62) rfl YT62 (oraB hb (S := 7) (R := 3) (by decide) (by decide) (oraK hf))
        · exact mk h hb h0 h4 hw (O := YO63) (l := YL63) rfl YT63 (oraB hb (S := 7) (R := 3) (by decide) (by decide) (oraK hf))
    · rcases hw with hw | hw | hw | hw
      · exact mk h hb h0 h4 hw (O := YO64) (l := YL64) rfl YT64 (oraB hb (S := 8) (R := 3) (by decide) (by decide) (ora_nil _))
      · exact mk h hb h0 h4 hw (O := YO65) (l := YL65) rfl YT65 (oraB hb (S := 8) (R := 3) (by decide) (by decide) (ora_nil _))
      · exact mk h hb h0 h4 hw (O := YO66) (l := YL66) rfl YT66 (oraB hb (S := 8) (R := 3) (by decide) (by decide) (ora_nil _))
      · rcases hf with hf | hf | hf | hf | hf
        · exact mk h hb h0 h4 hw (O := YO67) (l := YL67) rfl YT67 (oraB hb (S := 8) (R := 3) (by decide) (by decide) (oraK hf))
        · exact mk h hb h0 h4 hw (O := YO68) (l := YL68) rfl YT68 (oraB hb (S := 8) (R := 3) (by decide) (by decide) (oraK hf))
        · exact mk h hb h0 h4 hw (O := YO69) (l := YL69) rfl YT69 (oraB hb (S := 8) (R := 3) (by decide) (by decide) (oraK hf))
        · exact mk h hb h0 h4 hw (O := YO70) (l := YL70) rfl YT70 (oraB hb (S := 8) (R := 3) (by decide) (by decide) (oraK hf))
        · exact mk h hb h0 h4 hw (O := YO71) (l := YL71) rfl YT71 (oraB hb (S := 8) (R := 3) (by decide) (by decide) (oraK hf))
    · rcases hw with hw | hw | hw | hw
      · exact mk h hb h0 h4 hw (O := YO72) (l := YL72) rfl YT72 (oraB hb (S := 9) (R := 3) (by decide) (by decide) (ora_nil _))
      · exact mk h hb h0 h4 hw (O := YO73) (l := YL73) rfl YT73 (oraB hb (S := 9) (R := 3) (by decide) (by decide) (ora_nil _))
      · exact mk h hb h0 h4 hw (O := YO74) (l := YL74) rfl YT74 (oraB hb (S := 9) (R := 3) (by decide) (by decide) (ora_nil _))
      · rcases hf with hf | hf | hf | hf | hf
        · exact mk h hb h0 h4 hw (O := YO75) (l := YL75) rfl YT75 (oraB hb (S := 9) (R := 3) (by decide) (by decide) (oraK hf))
        · exact mk h hb h0 h4 hw (O := YO76) (l := YL76) rfl YT76 (oraB hb (S := 9) (R := 3) (by decide) (by decide) (oraK hf))
        · exact mk h hb h0 h4 hw (O := YO77) (l := YL77) rfl YT77 (oraB hb (S := 9) (R := 3) (by decide) (by decide) (oraK hf))
        · exact mk h hb h0 h4 hw (O := YO78) (l := YL78) rfl YT78 (oraB hb (S := 9) (R := 3) (by decide) (by decide) (oraK hf))
        · exact mk h hb h0 h4 hw (O := YO79) (l := YL79) rfl YT79 (oraB hb (S := 9) (R := 3) (by decide) (by decide) (oraK hf))
end

theorem lifted (os : Os) (started : os.Started) (H : Type) (enc : TypeId × Value → H) :
    ReturnsInHanded {} Tryz.checked os 4 .any (fun w args => (Rows.auditRefusesSpec.pre enc Tryz.prog Tryz.f4 [] false w args ∧ laidMetH Tryz.prog laidL w) ∧ sizedMet enc Tryz.prog Tryz.f4 (OpenSpec.ofChange Rows.auditRefusesSpec) false w args)
      (Rows.auditRefusesSpec.post enc Tryz.prog Tryz.f4 false true false false) := by
  refine returnsInHanded_of_change_and (C := Tryz.checked) (X := fun w _ => laidMetH Tryz.prog laidL w) (fun _ _ _ hh h => h.of_heap hh) own started (by kernel_rfl) Tryz.func4
    (ChangeSpec.witness_shaped (enc := enc) (C := Tryz.checked) (os := os) (X := fun w _ => laidMetH Tryz.prog laidL w) false (World.laidAll Tryz.prog os laidL) #[.agg #[.int .u8 0, .int .u8 0, .int .u8 0, .int .u8 0, .int .u8 0, .int .u8 0, .int .u8 0], .int .u16 0, .int .u8 0] 8 (World.laidAll_os _ _ _) (World.shaped_of_ZipB (by kernel_rfl) (by kernel_rfl)) (by kernel_rfl) (by kernel_rfl) (by kernel_rfl) (door_met os _)) ?_
  intro W base args ds gs before hval0 hW _ _ hL _
  have hval : ∀ (j : Nat) t v, Tryz.f4.params[j]? = some t → args[j]? = some v → Value.okWide Tryz.prog W .any base t v := hval0
  have hW' := hW
  obtain ⟨p, q, hA0, hV, rfl, hfz, hnd⟩ := hW
  have hA : DataW.TrodAll enc Tryz.prog W 0 (fun _ => true) true Tryz.f4.params.toList args.toList ds p := hA0
  have hA1 := hA0
  rw [Tryz.params4] at hA hval
  obtain ⟨v0, v1, v2, d0, d1, d2, p0, p1, p2, rfl, rfl, rfl, h0, h1, h2⟩ := trodAll_three hA
  obtain ⟨rfl, rfl⟩ := trodVars_none hV
  obtain ⟨cs, rfl, hsz⟩ := okWide_array Tryz.underlying36 (hval 0 _ v0 rfl rfl)
  obtain ⟨x, rfl, rfl, rfl, wx⟩ := open_int Tryz.underlying37 (hval 1 _ v1 rfl rfl) h1
  obtain ⟨y, rfl, rfl, rfl, wy⟩ := open_int Tryz.underlying5 (hval 2 _ v2 rfl rfl) h2
  obtain ⟨fu, h0⟩ := h0
  have hsz' : cs.toList.length = 7 := by rw [Array.length_toList, hsz]; kernel_rfl
  obtain ⟨x0, e0, f0⟩ := arr_int (i := 0) Tryz.underlying36 Tryz.underlying5 (by kernel_rfl) h0 (by decide)
  obtain ⟨x1, e1, f1⟩ := arr_int (i := 1) Tryz.underlying36 Tryz.underlying5 (by kernel_rfl) h0 (by decide)
  obtain ⟨x2, e2, f2⟩ := arr_int (i := 2) Tryz.underlying36 Tryz.underlying5 (by kernel_rfl) h0 (by decide)
  obtain ⟨x3, e3, f3⟩ := arr_int (i := 3) Tryz.underlying36 Tryz.underlying5 (by kernel_rfl) h0 (by decide)
  obtain ⟨x4, e4, f4⟩ := arr_int (i := 4) Tryz.underlying36 Tryz.underlying5 (by kernel_rfl) h0 (by decide)
  obtain ⟨x5, e5, f5⟩ := arr_int (i := 5) Tryz.underlying36 Tryz.underlying5 (by kernel_rfl) h0 (by decide)
  obtain ⟨x6, e6, f6⟩ := arr_int (i := 6) Tryz.underlying36 Tryz.underlying5 (by kernel_rfl) h0 (by decide)
  have hcs := list7 hsz' e0 e1 e2 e3 e4 e5 e6
  obtain ⟨l⟩ := cs
  simp only at hcs
  subst hcs
  obtain ⟨a0, rfl, g0⟩ := nat_wf rfl f0
  obtain ⟨a1, rfl, g1⟩ := nat_wf rfl f1
  obtain ⟨a2, rfl, g2⟩ := nat_wf rfl f2
  obtain ⟨a3, rfl, g3⟩ := nat_wf rfl f3
  obtain ⟨a4, rfl, g4⟩ := nat_wf rfl f4
  obtain ⟨a5, rfl, g5⟩ := nat_wf rfl f5
  obtain ⟨a6, rfl, g6⟩ := nat_wf rfl f6
  obtain ⟨fa, rfl, g7⟩ := nat_wf rfl wx
  obtain ⟨wh, rfl, g8⟩ := nat_wf rfl wy
  clear hval0
  simp only [List.append_nil] at hW'
  refine (walk hL (x := ⟨a0, a1, a2, a3, a4, a5, a6, fa, wh⟩) ⟨Int.ofNat_le.1 g0, Int.ofNat_le.1 g1, Int.ofNat_le.1 g2, Int.ofNat_le.1 g3, Int.ofNat_le.1 g4, Int.ofNat_le.1 g5, Int.ofNat_le.1 g6, Int.ofNat_le.1 g7, Int.ofNat_le.1 g8⟩).mono fun e W' ⟨he, hkp, hk⟩ => ?_
  subst he
  refine ⟨_, rfl, _, _, _, [], p0 ++ [] ++ [], [], hW', ?_, ?_, ?_, hk _, fun h => by cases h⟩
  · exact trodAll_mk1 (shut_bool Tryz.underlying4 true)
  · exact DataW.TrodAll.respare kids full (by rw [Tryz.params4]; decide +kernel) (trodAll_keep hkp hA1) (fun q hq => by simpa using DataW.TrodAll.lt hA1 q hq)
  · rfl

end Go.Proofs.YtbplpekmpoenaaaGreatDoor.auditRefuses
