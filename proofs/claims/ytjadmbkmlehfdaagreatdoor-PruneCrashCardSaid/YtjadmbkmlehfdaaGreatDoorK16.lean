/- Walks 16. -/
import Derived.Shelf.Strings.Repeat
import Derived.Shelf.Strings.BuilderX
import Derived.Test.YtjadmbkmlehfdaaGreatDoorProg
set_option linter.unusedVariables false
set_option linter.unusedSimpArgs false
set_option maxRecDepth 100000
namespace Go.Proofs
open Go.Shelf
def Tryz.lays105_ren : Go.Shelf.Ren := ⟨fun | 105 => 177 | 212 => 175 | 99 => 239 | 165 => 240 | 166 => 241 | 170 => 242 | 169 => 243 | 263 => 236 | 264 => 237 | 206 => 265 | 240 => 266 | 241 => 267 | 276 => 278 | 277 => 279 | n => n, fun | 9 => 9 | 3 => 3 | 4 => 4 | 20 => 20 | 0 => 0 | 46 => 244 | 109 => 245 | 5 => 5 | 72 => 296 | 76 => 300 | 51 => 253 | 146 => 288 | 53 => 222 | 148 => 290 | 70 => 294 | 37 => 77 | 75 => 299 | 127 => 318 | 164 => 334 | 80 => 302 | n => n, fun | n => n⟩
theorem Tryz.lays105 : Go.Proofs.Lays.n105 Tryz.prog Tryz.lays105_ren := {
 mixed := by kernel_rfl
 f99 := Tryz.func239.trans (congrArg some (by kernel_rfl))
 f105 := Tryz.func177.trans (congrArg some (by kernel_rfl))
 f165 := Tryz.func240.trans (congrArg some (by kernel_rfl))
 f166 := Tryz.func241.trans (congrArg some (by kernel_rfl))
 f169 := Tryz.func243.trans (congrArg some (by kernel_rfl))
 f170 := Tryz.func242.trans (congrArg some (by kernel_rfl))
 f206 := Tryz.func265.trans (congrArg some (by kernel_rfl))
 f212 := Tryz.func175.trans (congrArg some (by kernel_rfl))
 f240 := Tryz.func266.trans (congrArg some (by kernel_rfl))
 f241 := Tryz.func267.trans (congrArg some (by kernel_rfl))
 f263 := Tryz.func236.trans (congrArg some (by kernel_rfl))
 f264 := Tryz.func237.trans (congrArg some (by kernel_rfl))
 f276 := Tryz.func278.trans (congrArg some (by kernel_rfl))
 f277 := Tryz.func279.trans (congrArg some (by kernel_rfl))
 t0 := Tryz.underlying0
 a0 := Tryz.isAgg0
 z0 := Tryz.sizeOf0
 v0 := Tryz.zeroValue0
 t3 := Tryz.underlying3
 a3 := Tryz.isAgg3
 z3 := Tryz.sizeOf3
 v3 := Tryz.zeroValue3
 t4 := Tryz.underlying4
 a4 := Tryz.isAgg4
 z4 := Tryz.sizeOf4
 v4 := Tryz.zeroValue4
 t5 := Tryz.underlying5
 a5 := Tryz.isAgg5
 z5 := Tryz.sizeOf5
 v5 := Tryz.zeroValue5
 t9 := Tryz.underlying9
 a9 := Tryz.isAgg9
 z9 := Tryz.sizeOf9
 v9 := Tryz.zeroValue9
 t20 := Tryz.underlying20
 a20 := Tryz.isAgg20
 z20 := Tryz.sizeOf20
 v20 := Tryz.zeroValue20
 t37 := Tryz.underlying77
 a37 := Tryz.isAgg77
 z37 := Tryz.sizeOf77
 v37 := Tryz.zeroValue77
 t46 := Tryz.underlying244
 a46 := Tryz.isAgg244
 z46 := Tryz.sizeOf244
 v46 := Tryz.zeroValue244
 t51 := Tryz.underlying253
 a51 := Tryz.isAgg253
 z51 := Tryz.sizeOf253
 v51 := Tryz.zeroValue253
 t53 := Tryz.underlying222
 a53 := Tryz.isAgg222
 z53 := Tryz.sizeOf222
 v53 := Tryz.zeroValue222
 t70 := Tryz.underlying294
 a70 := Tryz.isAgg294
 z70 := Tryz.sizeOf294
 v70 := Tryz.zeroValue294
 t72 := Tryz.underlying296
 a72 := Tryz.isAgg296
 z72 := Tryz.sizeOf296
 v72 := Tryz.zeroValue296
 t75 := Tryz.underlying299
 a75 := Tryz.isAgg299
 z75 := Tryz.sizeOf299
 v75 := Tryz.zeroValue299
 t76 := Tryz.underlying300
 a76 := Tryz.isAgg300
 z76 := Tryz.sizeOf300
 v76 := Tryz.zeroValue300
 t109 := Tryz.underlying245
 a109 := Tryz.isAgg245
 z109 := Tryz.sizeOf245
 v109 := Tryz.zeroValue245
 t127 := Tryz.underlying318
 a127 := Tryz.isAgg318
 z127 := Tryz.sizeOf318
 v127 := Tryz.zeroValue318
 t146 := Tryz.underlying288
 a146 := Tryz.isAgg288
 z146 := Tryz.sizeOf288
 v146 := Tryz.zeroValue288
 t148 := Tryz.underlying290
 a148 := Tryz.isAgg290
 z148 := Tryz.sizeOf290
 v148 := Tryz.zeroValue290
 t164 := Tryz.underlying334
 a164 := Tryz.isAgg334
 z164 := Tryz.sizeOf334
 v164 := Tryz.zeroValue334 }
theorem Tryz.Builder_Extra_105 : Builder.Extra Tryz.prog Tryz.lays105_ren := {
 sizeBuilder := by kernel_rfl
 liesBuilder := by kernel_rfl
 t5 := Tryz.underlying5
 a5 := Tryz.isAgg5
 z5 := Tryz.sizeOf5
 v5 := Tryz.zeroValue5
 infoByte := by kernel_rfl
 cellsByte := by kernel_rfl
 sizeByte := by kernel_rfl
 neB5 := by decide }
open Go.RowKit in
theorem Tryz.strings_Repeat (s : ByteArray) (c : Nat) (w : World) (hc : c ≤ 9223372036854775807) (hlen : s.size * c ≤ 140737488355328) :
 Calls Tryz.prog 177 #[.string s, .int .i64 c] w fun e w' => e = .returned (.string ⟨(Lib.repeatL s.data.toList c).toArray⟩) ∧ Below w.heap.size w w' := Any.strings_Repeat Tryz.lays105 Tryz.Builder_Extra_105 s c w hc hlen
end Go.Proofs
