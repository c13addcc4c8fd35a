/-
  No cell of these rows narrows 'for every input' (looked for: loops, veiled, ifaces, maps, wideKeys, modest, calm, conditions, laid).
  DERIVED. THE GIVEN ROWS OF THIS SEAT. 7 by the template 'for every input the law returns true; each argument reads behind the call as it read before'; 0 by the template 'total and deterministic' (their statements: YtfflhlmnfhfcgaaTotals.lean).
  GIVEN WITH THE SEED: the statements are not yours to turn. If you find one false, say at which input.
  Laid BY PROGRAM, IN A SANDBOX (cutbox-rows.mjs): the forced cells as the released guide's own fill.sh prints them over the translation 1bc94be69a8e01a7… (all of the seat's roots in one cut). By AI agents, Wed Nov 11 2026. No macro, syntax, notation, axiom, sorry.
-/
import Derived.Test.YtfflhlmnfhfcgaaChecked
import GoSem.Claim
import GoSem.ClaimJoined
import GoSem.ClaimMapViews
import Derived.JoinedTies
import Derived.KernelRfl
namespace Go.Proofs.Ytfflhlmnfhfcgaa
/- THE CELL 'sum', in the pinned program and in every row, IS THE sha256 OF THE DUMP (.gsa) THAT YtfflhlmnfhfcgaaProg.lean LOADS. Nothing in Lean hashes anything: it is a label: what it is worth is what the hold of that sum in a sandbox is worth. -/
noncomputable def Try.pinned : Pinned := { name := "ytfflhlmnfhfcgaa", sum := "1bc94be69a8e01a7a0ad62751ef681af2c7662e0ce5b23f6afb365e502ed841f", checked := Try.checked }
namespace Rows
def none {H : Type} : Left H := { results := [], args := [] }

/-- 'quintadenalaw33.TransferBest': WHATEVER THE INPUT: true; the input reads as it did. -/
def transferBestSpec : ChangeSpec := { name := "transferBest", fn := fun _ => fun
  | [d1, d2, d3] => { results := [.lit (.bool true)], args := [d1, d2, d3] }
  | _ => none }
def transferBestRow : OpenClaim := { program := "ytfflhlmnfhfcgaa", sum := "1bc94be69a8e01a7a0ad62751ef681af2c7662e0ce5b23f6afb365e502ed841f", func := "quintadena/quintadenalaw33.TransferBest", spec := "transferBest", unfollowed := true, recurses := true, plainKeys := false, apart := false }
def TransferBestSaid : Prop := transferBestRow.holds Try.pinned (OpenSpec.ofChange transferBestSpec)

/-- ITS FALSE NEIGHBOUR: 'it returns false'. Refute it at one input. -/
def transferBestWrong : ChangeSpec := { name := "transferBest", fn := fun _ => fun
  | [d1, d2, d3] => { results := [.lit (.bool false)], args := [d1, d2, d3] }
  | _ => none }
def TransferBestWrongFalsely : Prop := transferBestRow.holds Try.pinned (OpenSpec.ofChange transferBestWrong)

/-- 'quintadenalaw33.TransferLeast': WHATEVER THE INPUT: true; the input reads as it did. -/
def transferLeastSpec : ChangeSpec := { name := "transferLeast", fn := fun _ => fun
  | [d1, d2, d3] => { results := [.lit (.bool true)], args := [d1, d2, d3] }
  | _ => none }
def transferLeastRow : OpenClaim := { program := "ytfflhlmnfhfcgaa", sum := "1bc94be69a8e01a7a0ad62751ef681af2c7662e0ce5b23f6afb365e502ed841f", func := "quintadena/quintadenalaw33.TransferLeast", spec := "transferLeast", unfollowed := true, recurses := true, plainKeys := false, apart := false }
def TransferLeastSaid : Prop := transferLeastRow.holds Try.pinned (OpenSpec.ofChange transferLeastSpec)

/-- ITS FALSE NEIGHBOUR: 'it returns false'. Refute it at one input. -/
def transferLeastWrong : ChangeSpec := { name := "transferLeast", fn := fun _ => fun
  | [d1, d2, d3] => { results := [.lit (.bool false)], args := [d1, d2, d3] }
  | _ => none }
def TransferLeastWrongFalsely : Prop := transferLeastRow.holds Try.pinned (OpenSpec.ofChange transferLeastWrong)

/-- 'quintadenalaw33.TransferCosts': WHATEVER THE INPUT: true; the input reads as it did. -/
def transferCostsSpec : ChangeSpec := { name := "transferCosts", fn := fun _ => fun
  | [d1, d2] => { results := [.lit (.bool true)], args := [d1, d2] }
  | _ => none }
def transferCostsRow : OpenClaim := { program := "ytfflhlmnfhfcgaa", sum := "1bc94be69a8e01a7a0ad62751ef681af2c7662e0ce5b23f6afb365e502ed841f", func := "quintadena/quintadenalaw33.TransferCosts", spec := "transferCosts", unfollowed := true, recurses := true, plainKeys := false, apart := false }
def TransferCostsSaid : Prop := transferCostsRow.holds Try.pinned (OpenSpec.ofChange transferCostsSpec)

/-- ITS FALSE NEIGHBOUR: 'it returns false'. Refute it at one input. -/
def transferCostsWrong : ChangeSpec := { name := "transferCosts", fn := fun _ => fun
  | [d1, d2] => { results := [.lit (.bool false)], args := [d1, d2] }
  | _ => none }
def TransferCostsWrongFalsely : Prop := transferCostsRow.holds Try.pinned (OpenSpec.ofChange transferCostsWrong)

/-- 'quintadenalaw33.TransferMetric': WHATEVER THE INPUT: true; the input reads as it did. -/
def transferMetricSpec : ChangeSpec := { name := "transferMetric", fn := fun _ => fun
  | [d1, d2] => { results := [.lit (.bool true)], args := [d1, d2] }
  | _ => none }
def transferMetricRow : OpenClaim := { program := "ytfflhlmnfhfcgaa", sum := "1bc94be69a8e01a7a0ad62751ef681af2c7662e0ce5b23f6afb365e502ed841f", func := "quintadena/quintadenalaw33.TransferMetric", spec := "transferMetric", unfollowed := true, recurses := true, plainKeys := false, apart := false }
def TransferMetricSaid : Prop := transferMetricRow.holds Try.pinned (OpenSpec.ofChange transferMetricSpec)

/-- ITS FALSE NEIGHBOUR: 'it returns false'. Refute it at one input. -/
def transferMetricWrong : ChangeSpec := { name := "transferMetric", fn := fun _ => fun
  | [d1, d2] => { results := [.lit (.bool false)], args := [d1, d2] }
  | _ => none }
def TransferMetricWrongFalsely : Prop := transferMetricRow.holds Try.pinned (OpenSpec.ofChange transferMetricWrong)

/-- 'quintadenalaw33.TransferRoutes': WHATEVER THE INPUT: true; the input reads as it did. -/
def transferRoutesSpec : ChangeSpec := { name := "transferRoutes", fn := fun _ => fun
  | [d1, d2] => { results := [.lit (.bool true)], args := [d1, d2] }
  | _ => none }
def transferRoutesRow : OpenClaim := { program := "ytfflhlmnfhfcgaa", sum := "1bc94be69a8e01a7a0ad62751ef681af2c7662e0ce5b23f6afb365e502ed841f", func := "quintadena/quintadenalaw33.TransferRoutes", spec := "transferRoutes", unfollowed := true, recurses := true, plainKeys := false, apart := false }
def TransferRoutesSaid : Prop := transferRoutesRow.holds Try.pinned (OpenSpec.ofChange transferRoutesSpec)

/-- ITS FALSE NEIGHBOUR: 'it returns false'. Refute it at one input. -/
def transferRoutesWrong : ChangeSpec := { name := "transferRoutes", fn := fun _ => fun
  | [d1, d2] => { results := [.lit (.bool false)], args := [d1, d2] }
  | _ => none }
def TransferRoutesWrongFalsely : Prop := transferRoutesRow.holds Try.pinned (OpenSpec.ofChange transferRoutesWrong)

/-- 'quintadenalaw33.TransferWays': WHATEVER THE INPUT: true; the input reads as it did. -/
def transferWaysSpec : ChangeSpec := { name := "transferWays", fn := fun _ => fun
  | [d1, d2, d3] => { results := [.lit (.bool true)], args := [d1, d2, d3] }
  | _ => none }
def transferWaysRow : OpenClaim := { program := "ytfflhlmnfhfcgaa", sum := "1bc94be69a8e01a7a0ad62751ef681af2c7662e0ce5b23f6afb365e502ed841f", func := "quintadena/quintadenalaw33.TransferWays", spec := "transferWays", unfollowed := true, recurses := true, plainKeys := false, apart := false }
def TransferWaysSaid : Prop := transferWaysRow.holds Try.pinned (OpenSpec.ofChange transferWaysSpec)

/-- ITS FALSE NEIGHBOUR: 'it returns false'. Refute it at one input. -/
def transferWaysWrong : ChangeSpec := { name := "transferWays", fn := fun _ => fun
  | [d1, d2, d3] => { results := [.lit (.bool false)], args := [d1, d2, d3] }
  | _ => none }
def TransferWaysWrongFalsely : Prop := transferWaysRow.holds Try.pinned (OpenSpec.ofChange transferWaysWrong)

/-- 'quintadenalaw33.TransferKnown': WHATEVER THE INPUT: true; the input reads as it did. -/
def transferKnownSpec : ChangeSpec := { name := "transferKnown", fn := fun _ => fun
  | [] => { results := [.lit (.bool true)], args := [] }
  | _ => none }
def transferKnownRow : OpenClaim := { program := "ytfflhlmnfhfcgaa", sum := "1bc94be69a8e01a7a0ad62751ef681af2c7662e0ce5b23f6afb365e502ed841f", func := "quintadena/quintadenalaw33.TransferKnown", spec := "transferKnown", unfollowed := true, recurses := true, plainKeys := false, apart := false }
def TransferKnownSaid : Prop := transferKnownRow.holds Try.pinned (OpenSpec.ofChange transferKnownSpec)

/-- ITS FALSE NEIGHBOUR: 'it returns false'. Refute it at one input. -/
def transferKnownWrong : ChangeSpec := { name := "transferKnown", fn := fun _ => fun
  | [] => { results := [.lit (.bool false)], args := [] }
  | _ => none }
def TransferKnownWrongFalsely : Prop := transferKnownRow.holds Try.pinned (OpenSpec.ofChange transferKnownWrong)

/- THE SECOND FORM. 'bulk': how many values and letters a reading holds, each counted each time it is reached (what is shared counts as often as it is met; a slice's spare places count too). A statement '..UptoSaid' is the law's where the arguments, and the package variables that the reading takes, are together of bulk at most 1048576: NARROWER than '..Said'. Prove '..Said' where nothing that the law and all that it calls make is longer than what came in: it says more and counts as full. Else prove '..UptoSaid'. A law counts once. -/
mutual
def uptoBulk {H : Type} : DataW H → Nat
  | .lit (.string bytes) => bytes.length + 1
  | .lit _ => 1
  | .nil => 1
  | .ptr d => uptoBulk d + 1
  | .slice elems spare => uptoBulkAll elems + uptoBulkAll spare + 1
  | .agg parts => uptoBulkAll parts + 1
  | .iface _ d => uptoBulk d + 1
  | .map entries => uptoBulkEntries entries + 1
  | .held _ => 1
def uptoBulkAll {H : Type} : List (DataW H) → Nat
  | [] => 0
  | d :: r => uptoBulk d + uptoBulkAll r
def uptoBulkEntries {H : Type} : List (Lit × DataW H) → Nat
  | [] => 0
  | x :: r => uptoBulkEntry x + uptoBulkEntries r
def uptoBulkEntry {H : Type} : Lit × DataW H → Nat
  | (.string bytes, d) => bytes.length + uptoBulk d + 1
  | (_, d) => uptoBulk d + 1
 end
def uptoSmall : (H : Type) → List (DataW H) → Bool := fun _ ds => decide (uptoBulkAll ds ≤ 1048576)
def OpenSpec.upto (s : _root_.Go.ChangeSpec) : _root_.Go.OpenSpec := { _root_.Go.OpenSpec.ofChange s with cond := some uptoSmall }

/-- 'quintadenalaw33.TransferBest', WHERE WHAT IT READS IS OF BULK AT MOST 1048576: true; the input reads as it did. -/
def transferBestUptoRow : OpenClaim := { program := "ytfflhlmnfhfcgaa", sum := "1bc94be69a8e01a7a0ad62751ef681af2c7662e0ce5b23f6afb365e502ed841f", func := "quintadena/quintadenalaw33.TransferBest", spec := "transferBest", unfollowed := true, recurses := true, plainKeys := false, apart := false, narrowed := true }
def TransferBestUptoSaid : Prop := transferBestUptoRow.holds Try.pinned (OpenSpec.upto transferBestSpec)

/-- 'quintadenalaw33.TransferLeast', WHERE WHAT IT READS IS OF BULK AT MOST 1048576: true; the input reads as it did. -/
def transferLeastUptoRow : OpenClaim := { program := "ytfflhlmnfhfcgaa", sum := "1bc94be69a8e01a7a0ad62751ef681af2c7662e0ce5b23f6afb365e502ed841f", func := "quintadena/quintadenalaw33.TransferLeast", spec := "transferLeast", unfollowed := true, recurses := true, plainKeys := false, apart := false, narrowed := true }
def TransferLeastUptoSaid : Prop := transferLeastUptoRow.holds Try.pinned (OpenSpec.upto transferLeastSpec)

/-- 'quintadenalaw33.TransferCosts', WHERE WHAT IT READS IS OF BULK AT MOST 1048576: true; the input reads as it did. -/
def transferCostsUptoRow : OpenClaim := { program := "ytfflhlmnfhfcgaa", sum := "1bc94be69a8e01a7a0ad62751ef681af2c7662e0ce5b23f6afb365e502ed841f", func := "quintadena/quintadenalaw33.TransferCosts", spec := "transferCosts", unfollowed := true, recurses := true, plainKeys := false, apart := false, narrowed := true }
def TransferCostsUptoSaid : Prop := transferCostsUptoRow.holds Try.pinned (OpenSpec.upto transferCostsSpec)

/-- 'quintadenalaw33.TransferMetric', WHERE WHAT IT READS IS OF BULK AT MOST 1048576: true; the input reads as it did. -/
def transferMetricUptoRow : OpenClaim := { program := "ytfflhlmnfhfcgaa", sum := "1bc94be69a8e01a7a0ad62751ef681af2c7662e0ce5b23f6afb365e502ed841f", func := "quintadena/quintadenalaw33.TransferMetric", spec := "transferMetric", unfollowed := true, recurses := true, plainKeys := false, apart := false, narrowed := true }
def TransferMetricUptoSaid : Prop := transferMetricUptoRow.holds Try.pinned (OpenSpec.upto transferMetricSpec)

/-- 'quintadenalaw33.TransferRoutes', WHERE WHAT IT READS IS OF BULK AT MOST 1048576: true; the input reads as it did. -/
def transferRoutesUptoRow : OpenClaim := { program := "ytfflhlmnfhfcgaa", sum := "1bc94be69a8e01a7a0ad62751ef681af2c7662e0ce5b23f6afb365e502ed841f", func := "quintadena/quintadenalaw33.TransferRoutes", spec := "transferRoutes", unfollowed := true, recurses := true, plainKeys := false, apart := false, narrowed := true }
def TransferRoutesUptoSaid : Prop := transferRoutesUptoRow.holds Try.pinned (OpenSpec.upto transferRoutesSpec)

/-- 'quintadenalaw33.TransferWays', WHERE WHAT IT READS IS OF BULK AT MOST 1048576: true; the input reads as it did. -/
def transferWaysUptoRow : OpenClaim := { program := "ytfflhlmnfhfcgaa", sum := "1bc94be69a8e01a7a0ad62751ef681af2c7662e0ce5b23f6afb365e502ed841f", func := "quintadena/quintadenalaw33.TransferWays", spec := "transferWays", unfollowed := true, recurses := true, plainKeys := false, apart := false, narrowed := true }
def TransferWaysUptoSaid : Prop := transferWaysUptoRow.holds Try.pinned (OpenSpec.upto transferWaysSpec)

/-- 'quintadenalaw33.TransferKnown', WHERE WHAT IT READS IS OF BULK AT MOST 1048576: true; the input reads as it did. -/
def transferKnownUptoRow : OpenClaim := { program := "ytfflhlmnfhfcgaa", sum := "1bc94be69a8e01a7a0ad62751ef681af2c7662e0ce5b23f6afb365e502ed841f", func := "quintadena/quintadenalaw33.TransferKnown", spec := "transferKnown", unfollowed := true, recurses := true, plainKeys := false, apart := false, narrowed := true }
def TransferKnownUptoSaid : Prop := transferKnownUptoRow.holds Try.pinned (OpenSpec.upto transferKnownSpec)

end Rows
end Go.Proofs.Ytfflhlmnfhfcgaa
