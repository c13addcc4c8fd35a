/-
  No cell of these rows narrows 'for every input' (looked for: loops, veiled, ifaces, maps, wideKeys, modest, calm, conditions, laid).
  DERIVED. THE GIVEN ROWS OF THIS SEAT. 6 by the template 'for every input the law returns true; each argument reads behind the call as it read before'; 0 by the template 'total and deterministic' (their statements: YtjjecadfcndkaaaTotals.lean).
  GIVEN WITH THE SEED: the statements are not yours to turn. If you find one false, say at which input.
  Laid BY PROGRAM, IN A SANDBOX (cutbox-rows.mjs): the forced cells as the released guide's own fill.sh prints them over the translation ef5e49a258e000b2… (all of the seat's roots in one cut). By AI agents, Wed Nov 11 2026. No macro, syntax, notation, axiom, sorry.
-/
import Derived.Test.YtjjecadfcndkaaaChecked
import GoSem.Claim
import GoSem.ClaimJoined
import GoSem.ClaimMapViews
import Derived.JoinedTies
import Derived.KernelRfl
namespace Go.Proofs.Ytjjecadfcndkaaa
/- THE CELL 'sum', in the pinned program and in every row, IS THE sha256 OF THE DUMP (.gsa) THAT YtjjecadfcndkaaaProg.lean LOADS. Nothing in Lean hashes anything: it is a label: what it is worth is what the hold of that sum in a sandbox is worth. -/
noncomputable def Try.pinned : Pinned := { name := "ytjjecadfcndkaaa", sum := "ef5e49a258e000b2e8ca7d8c0d578d13daaa8d37b72c10140cd02954bcf337af", checked := Try.checked }
namespace Rows
def none {H : Type} : Left H := { results := [], args := [] }

/-- 'quintadenalaw14.NetworkSupplies': WHATEVER THE INPUT: true; the input reads as it did. -/
def networkSuppliesSpec : ChangeSpec := { name := "networkSupplies", fn := fun _ => fun
  | [d1, d2] => { results := [.lit (.bool true)], args := [d1, d2] }
  | _ => none }
def networkSuppliesRow : OpenClaim := { program := "ytjjecadfcndkaaa", sum := "ef5e49a258e000b2e8ca7d8c0d578d13daaa8d37b72c10140cd02954bcf337af", func := "quintadena/quintadenalaw14.NetworkSupplies", spec := "networkSupplies", unfollowed := true, recurses := true, apart := false }
def NetworkSuppliesSaid : Prop := networkSuppliesRow.holds Try.pinned (OpenSpec.ofChange networkSuppliesSpec)

/-- ITS FALSE NEIGHBOUR: 'it returns false'. Refute it at one input. -/
def networkSuppliesWrong : ChangeSpec := { name := "networkSupplies", fn := fun _ => fun
  | [d1, d2] => { results := [.lit (.bool false)], args := [d1, d2] }
  | _ => none }
def NetworkSuppliesWrongFalsely : Prop := networkSuppliesRow.holds Try.pinned (OpenSpec.ofChange networkSuppliesWrong)

/-- 'quintadenalaw14.NetworkFlows': WHATEVER THE INPUT: true; the input reads as it did. -/
def networkFlowsSpec : ChangeSpec := { name := "networkFlows", fn := fun _ => fun
  | [d1, d2] => { results := [.lit (.bool true)], args := [d1, d2] }
  | _ => none }
def networkFlowsRow : OpenClaim := { program := "ytjjecadfcndkaaa", sum := "ef5e49a258e000b2e8ca7d8c0d578d13daaa8d37b72c10140cd02954bcf337af", func := "quintadena/quintadenalaw14.NetworkFlows", spec := "networkFlows", unfollowed := true, recurses := true, apart := false }
def NetworkFlowsSaid : Prop := networkFlowsRow.holds Try.pinned (OpenSpec.ofChange networkFlowsSpec)

/-- ITS FALSE NEIGHBOUR: 'it returns false'. Refute it at one input. -/
def networkFlowsWrong : ChangeSpec := { name := "networkFlows", fn := fun _ => fun
  | [d1, d2] => { results := [.lit (.bool false)], args := [d1, d2] }
  | _ => none }
def NetworkFlowsWrongFalsely : Prop := networkFlowsRow.holds Try.pinned (OpenSpec.ofChange networkFlowsWrong)

/-- 'quintadenalaw14.NetworkDual': WHATEVER THE INPUT: true; the input reads as it did. -/
def networkDualSpec : ChangeSpec := { name := "networkDual", fn := fun _ => fun
  | [d1, d2, d3] => { results := [.lit (.bool true)], args := [d1, d2, d3] }
  | _ => none }
def networkDualRow : OpenClaim := { program := "ytjjecadfcndkaaa", sum := "ef5e49a258e000b2e8ca7d8c0d578d13daaa8d37b72c10140cd02954bcf337af", func := "quintadena/quintadenalaw14.NetworkDual", spec := "networkDual", unfollowed := true, recurses := true, apart := false }
def NetworkDualSaid : Prop := networkDualRow.holds Try.pinned (OpenSpec.ofChange networkDualSpec)

/-- ITS FALSE NEIGHBOUR: 'it returns false'. Refute it at one input. -/
def networkDualWrong : ChangeSpec := { name := "networkDual", fn := fun _ => fun
  | [d1, d2, d3] => { results := [.lit (.bool false)], args := [d1, d2, d3] }
  | _ => none }
def NetworkDualWrongFalsely : Prop := networkDualRow.holds Try.pinned (OpenSpec.ofChange networkDualWrong)

/-- 'quintadenalaw14.NetworkGrows': WHATEVER THE INPUT: true; the input reads as it did. -/
def networkGrowsSpec : ChangeSpec := { name := "networkGrows", fn := fun _ => fun
  | [d1, d2, d3] => { results := [.lit (.bool true)], args := [d1, d2, d3] }
  | _ => none }
def networkGrowsRow : OpenClaim := { program := "ytjjecadfcndkaaa", sum := "ef5e49a258e000b2e8ca7d8c0d578d13daaa8d37b72c10140cd02954bcf337af", func := "quintadena/quintadenalaw14.NetworkGrows", spec := "networkGrows", unfollowed := true, recurses := true, apart := false }
def NetworkGrowsSaid : Prop := networkGrowsRow.holds Try.pinned (OpenSpec.ofChange networkGrowsSpec)

/-- ITS FALSE NEIGHBOUR: 'it returns false'. Refute it at one input. -/
def networkGrowsWrong : ChangeSpec := { name := "networkGrows", fn := fun _ => fun
  | [d1, d2, d3] => { results := [.lit (.bool false)], args := [d1, d2, d3] }
  | _ => none }
def NetworkGrowsWrongFalsely : Prop := networkGrowsRow.holds Try.pinned (OpenSpec.ofChange networkGrowsWrong)

/-- 'quintadenalaw14.NetworkSpares': WHATEVER THE INPUT: true; the input reads as it did. -/
def networkSparesSpec : ChangeSpec := { name := "networkSpares", fn := fun _ => fun
  | [d1, d2] => { results := [.lit (.bool true)], args := [d1, d2] }
  | _ => none }
def networkSparesRow : OpenClaim := { program := "ytjjecadfcndkaaa", sum := "ef5e49a258e000b2e8ca7d8c0d578d13daaa8d37b72c10140cd02954bcf337af", func := "quintadena/quintadenalaw14.NetworkSpares", spec := "networkSpares", unfollowed := true, recurses := true, apart := false }
def NetworkSparesSaid : Prop := networkSparesRow.holds Try.pinned (OpenSpec.ofChange networkSparesSpec)

/-- ITS FALSE NEIGHBOUR: 'it returns false'. Refute it at one input. -/
def networkSparesWrong : ChangeSpec := { name := "networkSpares", fn := fun _ => fun
  | [d1, d2] => { results := [.lit (.bool false)], args := [d1, d2] }
  | _ => none }
def NetworkSparesWrongFalsely : Prop := networkSparesRow.holds Try.pinned (OpenSpec.ofChange networkSparesWrong)

/-- 'quintadenalaw14.NetworkTells': WHATEVER THE INPUT: true; the input reads as it did. -/
def networkTellsSpec : ChangeSpec := { name := "networkTells", fn := fun _ => fun
  | [d1, d2] => { results := [.lit (.bool true)], args := [d1, d2] }
  | _ => none }
def networkTellsRow : OpenClaim := { program := "ytjjecadfcndkaaa", sum := "ef5e49a258e000b2e8ca7d8c0d578d13daaa8d37b72c10140cd02954bcf337af", func := "quintadena/quintadenalaw14.NetworkTells", spec := "networkTells", unfollowed := true, recurses := true, apart := false }
def NetworkTellsSaid : Prop := networkTellsRow.holds Try.pinned (OpenSpec.ofChange networkTellsSpec)

/-- ITS FALSE NEIGHBOUR: 'it returns false'. Refute it at one input. -/
def networkTellsWrong : ChangeSpec := { name := "networkTells", fn := fun _ => fun
  | [d1, d2] => { results := [.lit (.bool false)], args := [d1, d2] }
  | _ => none }
def NetworkTellsWrongFalsely : Prop := networkTellsRow.holds Try.pinned (OpenSpec.ofChange networkTellsWrong)

/- THE SECOND FORM. 'bulk': how many values and letters a reading holds, each counted each time it is reached (what is shared counts as often as it is met; a slice's spare places count too). A statement '..UptoSaid' is the law's where the arguments, and the package variables that the reading takes, are together of bulk at most 1048576: NARROWER than '..Said'. Prove '..Said' where nothing that the law and all that it calls make is longer than what came in: it says more and counts as full. Else prove '..UptoSaid'. A law counts once. -/
mutual
def uptoBulk {H : Type} : DataW H → Nat
  | .lit (.string bytes) => bytes.length + 1
  | .lit _ => 1
  | .nil => 1
  | .ptr d => uptoBulk d + 1
  | .slice elems spare => uptoBulkAll elems + uptoBulkAll spare + 1
  | .agg parts => uptoBulkAll parts + 1
  | .iface _ d => uptoBulk d + 1
  | .map entries => uptoBulkEntries entries + 1
  | .held _ => 1
def uptoBulkAll {H : Type} : List (DataW H) → Nat
  | [] => 0
  | d :: r => uptoBulk d + uptoBulkAll r
def uptoBulkEntries {H : Type} : List (Lit × DataW H) → Nat
  | [] => 0
  | x :: r => uptoBulkEntry x + uptoBulkEntries r
def uptoBulkEntry {H : Type} : Lit × DataW H → Nat
  | (.string bytes, d) => bytes.length + uptoBulk d + 1
  | (_, d) => uptoBulk d + 1
 end
def uptoSmall : (H : Type) → List (DataW H) → Bool := fun _ ds => decide (uptoBulkAll ds ≤ 1048576)
def OpenSpec.upto (s : _root_.Go.ChangeSpec) : _root_.Go.OpenSpec := { _root_.Go.OpenSpec.ofChange s with cond := some uptoSmall }

/-- 'quintadenalaw14.NetworkSupplies', WHERE WHAT IT READS IS OF BULK AT MOST 1048576: true; the input reads as it did. -/
def networkSuppliesUptoRow : OpenClaim := { program := "ytjjecadfcndkaaa", sum := "ef5e49a258e000b2e8ca7d8c0d578d13daaa8d37b72c10140cd02954bcf337af", func := "quintadena/quintadenalaw14.NetworkSupplies", spec := "networkSupplies", unfollowed := true, recurses := true, apart := false, narrowed := true }
def NetworkSuppliesUptoSaid : Prop := networkSuppliesUptoRow.holds Try.pinned (OpenSpec.upto networkSuppliesSpec)

/-- 'quintadenalaw14.NetworkFlows', WHERE WHAT IT READS IS OF BULK AT MOST 1048576: true; the input reads as it did. -/
def networkFlowsUptoRow : OpenClaim := { program := "ytjjecadfcndkaaa", sum := "ef5e49a258e000b2e8ca7d8c0d578d13daaa8d37b72c10140cd02954bcf337af", func := "quintadena/quintadenalaw14.NetworkFlows", spec := "networkFlows", unfollowed := true, recurses := true, apart := false, narrowed := true }
def NetworkFlowsUptoSaid : Prop := networkFlowsUptoRow.holds Try.pinned (OpenSpec.upto networkFlowsSpec)

/-- 'quintadenalaw14.NetworkDual', WHERE WHAT IT READS IS OF BULK AT MOST 1048576: true; the input reads as it did. -/
def networkDualUptoRow : OpenClaim := { program := "ytjjecadfcndkaaa", sum := "ef5e49a258e000b2e8ca7d8c0d578d13daaa8d37b72c10140cd02954bcf337af", func := "quintadena/quintadenalaw14.NetworkDual", spec := "networkDual", unfollowed := true, recurses := true, apart := false, narrowed := true }
def NetworkDualUptoSaid : Prop := networkDualUptoRow.holds Try.pinned (OpenSpec.upto networkDualSpec)

/-- 'quintadenalaw14.NetworkGrows', WHERE WHAT IT READS IS OF BULK AT MOST 1048576: true; the input reads as it did. -/
def networkGrowsUptoRow : OpenClaim := { program := "ytjjecadfcndkaaa", sum := "ef5e49a258e000b2e8ca7d8c0d578d13daaa8d37b72c10140cd02954bcf337af", func := "quintadena/quintadenalaw14.NetworkGrows", spec := "networkGrows", unfollowed := true, recurses := true, apart := false, narrowed := true }
def NetworkGrowsUptoSaid : Prop := networkGrowsUptoRow.holds Try.pinned (OpenSpec.upto networkGrowsSpec)

/-- 'quintadenalaw14.NetworkSpares', WHERE WHAT IT READS IS OF BULK AT MOST 1048576: true; the input reads as it did. -/
def networkSparesUptoRow : OpenClaim := { program := "ytjjecadfcndkaaa", sum := "ef5e49a258e000b2e8ca7d8c0d578d13daaa8d37b72c10140cd02954bcf337af", func := "quintadena/quintadenalaw14.NetworkSpares", spec := "networkSpares", unfollowed := true, recurses := true, apart := false, narrowed := true }
def NetworkSparesUptoSaid : Prop := networkSparesUptoRow.holds Try.pinned (OpenSpec.upto networkSparesSpec)

/-- 'quintadenalaw14.NetworkTells', WHERE WHAT IT READS IS OF BULK AT MOST 1048576: true; the input reads as it did. -/
def networkTellsUptoRow : OpenClaim := { program := "ytjjecadfcndkaaa", sum := "ef5e49a258e000b2e8ca7d8c0d578d13daaa8d37b72c10140cd02954bcf337af", func := "quintadena/quintadenalaw14.NetworkTells", spec := "networkTells", unfollowed := true, recurses := true, apart := false, narrowed := true }
def NetworkTellsUptoSaid : Prop := networkTellsUptoRow.holds Try.pinned (OpenSpec.upto networkTellsSpec)

end Rows
end Go.Proofs.Ytjjecadfcndkaaa
