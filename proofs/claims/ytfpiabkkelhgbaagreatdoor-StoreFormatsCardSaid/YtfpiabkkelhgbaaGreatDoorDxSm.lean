/- What the functions that sum bytes return. -/
import Derived.Test.YtfpiabkkelhgbaaGreatDoorDxTb
import Derived.Test.YtfpiabkkelhgbaaGreatDoorDxCw
import Derived.Test.YtfpiabkkelhgbaaGreatDoorE13
namespace Go.X
open Go.Proofs
noncomputable section
set_option maxRecDepth 100000
set_option maxHeartbeats 4000000
def X0 : XP := ⟨tysT, fnsT, extT, mrgT, 13, .nil, [], [], []⟩
theorem tab_chk : chkPure X0 20000 549 [] (.agg tabV) = true := by decide +kernel
theorem tab_ent : EntOk Tryz.prog [] 549 (.pure [] (.agg tabV)) := ent_pure (X := X0) (xpok_of tysT_ok (by kernel_rfl)) (fnok_of fnsT_ok fnsT_names extT_ok) mixed (memo_nil _ _) (sums_nil rfl rfl) tab_chk
theorem tab_calls (w : World) : Calls Tryz.prog 549 #[] w fun e w' => e = .returned (.agg tabA) ∧ Lk w w' := tab_of tab_ent w
theorem xp_sums (M : Tr (List Ent)) (O : List OraE) : SumsOk Tryz.prog (xp M O) := by
  refine ⟨?_, fun p hp => by have hq := List.mem_singleton.1 (show p ∈ [_] from hp); subst hq; exact nilRow_ok ref_slot_walk⟩
  intro f hf w B o n c bs h1 h2 h3 h4
  have hm : f ∈ ([294, 309] : List Nat) := hf
  simp only [List.mem_cons, List.not_mem_nil, or_false] at hm
  rcases hm with rfl | rfl
  · exact (sum_walk tab_ok tab_calls B o n c bs w h1 (by omega) h3 h4).mono fun e w' h => ⟨h.1, h.2⟩
  · exact (ref_sum_walk B o n c bs w h1 (by omega) h3 h4).mono fun e w' h => ⟨h.1, h.2⟩
end
end Go.X
