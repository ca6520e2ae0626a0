/- No function sums bytes. -/
import Derived.Test.YtfkpfgnigiijnaaGreatDoorDxTb
namespace Go.X
open Go.Proofs
theorem ZaT (M : Tr (List Ent)) (O : List OraE) : ZfV Tryz.prog (xp M O) := ZqI rfl rfl
end Go.X
