/-
  NARROWER THAN 'FOR EVERY INPUT', by the rows' own cells (each row's printed sentence says how): PruneKnown: laid · PruneNil: laid.
  DERIVED. THE GIVEN ROWS OF THIS SEAT. 2 by the template 'for every input the law returns true; each argument reads behind the call as it read before'; 0 by the template 'total and deterministic' (their statements: YtifdonldmabaaaaGreatDoorTotals.lean).
  GIVEN WITH THE SEED: the statements are not yours to turn. If you find one false, say at which input.
  Laid BY PROGRAM, IN A SANDBOX (cutbox-rows.mjs): the forced cells as the released guide's own fill.sh prints them over the translation 403208d6660046ab… (all of the seat's roots in one cut). By AI agents, Wed Nov 11 2026. No macro, syntax, notation, axiom, sorry.
-/
import Derived.Test.YtifdonldmabaaaaGreatDoorChecked
import GoSem.Claim
import GoSem.ClaimJoined
import GoSem.ClaimMapViews
import Derived.JoinedTies
import Derived.KernelRfl
namespace Go.Proofs.YtifdonldmabaaaaGreatDoor
/- THE CELL 'sum', in the pinned program and in every row, IS THE sha256 OF THE DUMP (.gsa) THAT YtifdonldmabaaaaGreatDoorProg.lean LOADS. Nothing in Lean hashes anything: it is a label: what it is worth is what the hold of that sum in a sandbox is worth. -/
noncomputable def Tryz.pinned : Pinned := { name := "ytifdonldmabaaaagreatdoor", sum := "403208d6660046abe66a0bcbb7168a986a7d91491abda6719a6259b8d9df288b", checked := Tryz.checked }
namespace Rows
def none {H : Type} : Left H := { results := [], args := [] }

/- WHAT THE LISTED PACKAGE-LEVEL VARIABLES READ AS WHEN THE CALL BEGINS. Each datum BY PROGRAM (the guide's laid-datum.mjs) off the statement by which the dump's own 'gosem.cut.vars' lays the variable. In a bare row this is a premise. The card (YtifdonldmabaaaaGreatDoorCards.lean) ties it to the program's text. -/
def laid_drumlin_slots_dropping {H : Type} : DataW H := .agg [.agg [.lit (.bool false), .lit (.bool false), .lit (.bool true), .lit (.bool true), .lit (.bool false)], .lit (.int .i64 0)]
def laid_drumlin_slots_loading {H : Type} : DataW H := .agg [.agg [.lit (.bool true), .lit (.bool false), .lit (.bool false), .lit (.bool false), .lit (.bool false)], .lit (.int .i64 2)]

/-- 'drumlinlaw36.PruneKnown': WHATEVER THE INPUT: true; the input reads as it did. -/
def pruneKnownSpec : ChangeSpec := { name := "pruneKnown", fn := fun _ => fun
  | [] => { results := [.lit (.bool true)], args := [] }
  | _ => none }
def pruneKnownRow : OpenClaim := { program := "ytifdonldmabaaaagreatdoor", sum := "403208d6660046abe66a0bcbb7168a986a7d91491abda6719a6259b8d9df288b", func := "drumlin/drumlinlaw36.PruneKnown", spec := "pruneKnown", inPlace := ["internal/bytealg.IndexByteString", "internal/bytealg.IndexString", "slices.overlaps[drumlin/api.Entry]", "slices.overlaps[drumlin/ordmap.item[string, drumlin/index.list]]"], unfollowed := true, recurses := true, named := ["drumlin/slots.loading", "drumlin/slots.dropping", "internal/bytealg.MaxLen"], apart := false, laid := [("drumlin/slots.dropping", laid_drumlin_slots_dropping), ("drumlin/slots.loading", laid_drumlin_slots_loading)] }
def PruneKnownSaid : Prop := pruneKnownRow.holds Tryz.pinned (OpenSpec.ofChange pruneKnownSpec)

/-- ITS FALSE NEIGHBOUR: 'it returns false'. Refute it at one input. -/
def pruneKnownWrong : ChangeSpec := { name := "pruneKnown", fn := fun _ => fun
  | [] => { results := [.lit (.bool false)], args := [] }
  | _ => none }
def PruneKnownWrongFalsely : Prop := pruneKnownRow.holds Tryz.pinned (OpenSpec.ofChange pruneKnownWrong)

/-- 'drumlinlaw36.PruneNil': WHATEVER THE INPUT: true; the input reads as it did. -/
def pruneNilSpec : ChangeSpec := { name := "pruneNil", fn := fun _ => fun
  | [d1, d2, d3] => { results := [.lit (.bool true)], args := [d1, d2, d3] }
  | _ => none }
def pruneNilRow : OpenClaim := { program := "ytifdonldmabaaaagreatdoor", sum := "403208d6660046abe66a0bcbb7168a986a7d91491abda6719a6259b8d9df288b", func := "drumlin/drumlinlaw36.PruneNil", spec := "pruneNil", inPlace := ["internal/bytealg.IndexByteString", "internal/bytealg.IndexString", "slices.overlaps[drumlin/api.Entry]", "slices.overlaps[drumlin/ordmap.item[string, drumlin/index.list]]"], unfollowed := true, recurses := true, named := ["drumlin/slots.loading", "drumlin/slots.dropping", "internal/bytealg.MaxLen"], apart := false, laid := [("drumlin/slots.dropping", laid_drumlin_slots_dropping), ("drumlin/slots.loading", laid_drumlin_slots_loading)] }
def PruneNilSaid : Prop := pruneNilRow.holds Tryz.pinned (OpenSpec.ofChange pruneNilSpec)

/-- ITS FALSE NEIGHBOUR: 'it returns false'. Refute it at one input. -/
def pruneNilWrong : ChangeSpec := { name := "pruneNil", fn := fun _ => fun
  | [d1, d2, d3] => { results := [.lit (.bool false)], args := [d1, d2, d3] }
  | _ => none }
def PruneNilWrongFalsely : Prop := pruneNilRow.holds Tryz.pinned (OpenSpec.ofChange pruneNilWrong)

/- THE SECOND FORM. 'bulk': how many values and letters a reading holds, each counted each time it is reached (what is shared counts as often as it is met; a slice's spare places count too). A statement '..UptoSaid' is the law's where the arguments, and the package variables that the reading takes, are together of bulk at most 1048576: NARROWER than '..Said'. Prove '..Said' where nothing that the law and all that it calls make is longer than what came in: it says more and counts as full. Else prove '..UptoSaid'. A law counts once. -/
mutual
def uptoBulk {H : Type} : DataW H → Nat
  | .lit (.string bytes) => bytes.length + 1
  | .lit _ => 1
  | .nil => 1
  | .ptr d => uptoBulk d + 1
  | .slice elems spare => uptoBulkAll elems + uptoBulkAll spare + 1
  | .agg parts => uptoBulkAll parts + 1
  | .iface _ d => uptoBulk d + 1
  | .map entries => uptoBulkEntries entries + 1
  | .held _ => 1
def uptoBulkAll {H : Type} : List (DataW H) → Nat
  | [] => 0
  | d :: r => uptoBulk d + uptoBulkAll r
def uptoBulkEntries {H : Type} : List (Lit × DataW H) → Nat
  | [] => 0
  | x :: r => uptoBulkEntry x + uptoBulkEntries r
def uptoBulkEntry {H : Type} : Lit × DataW H → Nat
  | (.string bytes, d) => bytes.length + uptoBulk d + 1
  | (_, d) => uptoBulk d + 1
 end
def uptoSmall : (H : Type) → List (DataW H) → Bool := fun _ ds => decide (uptoBulkAll ds ≤ 1048576)
def OpenSpec.upto (s : _root_.Go.ChangeSpec) : _root_.Go.OpenSpec := { _root_.Go.OpenSpec.ofChange s with cond := some uptoSmall }

/-- 'drumlinlaw36.PruneKnown', WHERE WHAT IT READS IS OF BULK AT MOST 1048576: true; the input reads as it did. -/
def pruneKnownUptoRow : OpenClaim := { program := "ytifdonldmabaaaagreatdoor", sum := "403208d6660046abe66a0bcbb7168a986a7d91491abda6719a6259b8d9df288b", func := "drumlin/drumlinlaw36.PruneKnown", spec := "pruneKnown", inPlace := ["internal/bytealg.IndexByteString", "internal/bytealg.IndexString", "slices.overlaps[drumlin/api.Entry]", "slices.overlaps[drumlin/ordmap.item[string, drumlin/index.list]]"], unfollowed := true, recurses := true, named := ["drumlin/slots.loading", "drumlin/slots.dropping", "internal/bytealg.MaxLen"], apart := false, laid := [("drumlin/slots.dropping", laid_drumlin_slots_dropping), ("drumlin/slots.loading", laid_drumlin_slots_loading)], narrowed := true }
def PruneKnownUptoSaid : Prop := pruneKnownUptoRow.holds Tryz.pinned (OpenSpec.upto pruneKnownSpec)

/-- 'drumlinlaw36.PruneNil', WHERE WHAT IT READS IS OF BULK AT MOST 1048576: true; the input reads as it did. -/
def pruneNilUptoRow : OpenClaim := { program := "ytifdonldmabaaaagreatdoor", sum := "403208d6660046abe66a0bcbb7168a986a7d91491abda6719a6259b8d9df288b", func := "drumlin/drumlinlaw36.PruneNil", spec := "pruneNil", inPlace := ["internal/bytealg.IndexByteString", "internal/bytealg.IndexString", "slices.overlaps[drumlin/api.Entry]", "slices.overlaps[drumlin/ordmap.item[string, drumlin/index.list]]"], unfollowed := true, recurses := true, named := ["drumlin/slots.loading", "drumlin/slots.dropping", "internal/bytealg.MaxLen"], apart := false, laid := [("drumlin/slots.dropping", laid_drumlin_slots_dropping), ("drumlin/slots.loading", laid_drumlin_slots_loading)], narrowed := true }
def PruneNilUptoSaid : Prop := pruneNilUptoRow.holds Tryz.pinned (OpenSpec.upto pruneNilSpec)

end Rows
end Go.Proofs.YtifdonldmabaaaaGreatDoor
