/- No function sums bytes. -/
import Derived.Test.YtnmkiflnonafbaaGreatDoorDxTb
namespace Go.X
open Go.Proofs
theorem xp_sums (M : Tr (List Ent)) (O : List OraE) : SumsOk Tryz.prog (xp M O) := sums_nil rfl rfl
end Go.X
