/- What the run of the program's text leaves in the variables that StoreFormats's row lists. -/
import Derived.Test.YtfpiabkkelhgbaaGreatDoorRows
import Derived.LaidByTextLater
import Derived.SevenTiedAt
import Derived.LaidSub
import Derived.LaidOnce
namespace Go.Proofs.YtfpiabkkelhgbaaGreatDoor
open Go
set_option maxRecDepth 100000
set_option maxHeartbeats 40000000
def storeFormatsLaid : List (String × DataW Unit) := [("math/bits.deBruijn64tab", Rows.laid_math_bits_deBruijn64tab), ("drumlin/slots.sealing", Rows.laid_drumlin_slots_sealing), ("math/bits.deBruijn32tab", Rows.laid_math_bits_deBruijn32tab), ("drumlin/slots.choosing", Rows.laid_drumlin_slots_choosing), ("drumlin/slots.dropping", Rows.laid_drumlin_slots_dropping), ("drumlin/slots.loading", Rows.laid_drumlin_slots_loading)]
theorem storeFormatsTieR : ∀ os tape, doorLeaves Tryz.prog 400 8 65 storeFormatsLaid os tape = some (storeFormatsLaid.filter fun x => x.2.handleName?.isNone, (funcsListed storeFormatsLaid).map (·.2.funcsOut)) := fun _ _ => by kernel_rfl
end Go.Proofs.YtfpiabkkelhgbaaGreatDoor
