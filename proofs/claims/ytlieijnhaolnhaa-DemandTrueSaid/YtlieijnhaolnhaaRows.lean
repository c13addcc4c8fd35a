/-
  No cell of these rows narrows 'for every input' (looked for: loops, veiled, ifaces, maps, wideKeys, modest, calm, conditions, laid).
  DERIVED. THE GIVEN ROWS OF THIS SEAT. 3 by the template 'for every input the law returns true; each argument reads behind the call as it read before'; 0 by the template 'total and deterministic' (their statements: YtlieijnhaolnhaaTotals.lean).
  GIVEN WITH THE SEED: the statements are not yours to turn. If you find one false, say at which input.
  Laid BY PROGRAM, IN A SANDBOX (cutbox-rows.mjs): the forced cells as the released guide's own fill.sh prints them over the translation 39a1043c5f90686f… (all of the seat's roots in one cut). By AI agents, Wed Nov 11 2026. No macro, syntax, notation, axiom, sorry.
-/
import Derived.Test.YtlieijnhaolnhaaChecked
import GoSem.Claim
import GoSem.ClaimJoined
import GoSem.ClaimMapViews
import Derived.JoinedTies
import Derived.KernelRfl
namespace Go.Proofs.Ytlieijnhaolnhaa
/- THE CELL 'sum', in the pinned program and in every row, IS THE sha256 OF THE DUMP (.gsa) THAT YtlieijnhaolnhaaProg.lean LOADS. Nothing in Lean hashes anything: it is a label: what it is worth is what the hold of that sum in a sandbox is worth. -/
noncomputable def Try.pinned : Pinned := { name := "ytlieijnhaolnhaa", sum := "39a1043c5f90686fea6510576b3c9d3fa60646d16a4513ec58af7214aefe4180", checked := Try.checked }
namespace Rows
def none {H : Type} : Left H := { results := [], args := [] }

/-- 'quintadenalaw13.DemandTrue': WHATEVER THE INPUT: true; the input reads as it did. -/
def demandTrueSpec : ChangeSpec := { name := "demandTrue", fn := fun _ => fun
  | [d1, d2] => { results := [.lit (.bool true)], args := [d1, d2] }
  | _ => none }
def demandTrueRow : OpenClaim := { program := "ytlieijnhaolnhaa", sum := "39a1043c5f90686fea6510576b3c9d3fa60646d16a4513ec58af7214aefe4180", func := "quintadena/quintadenalaw13.DemandTrue", spec := "demandTrue", inPlace := ["math/bits.Add64"], unfollowed := true, recurses := true, named := ["math/bits.divideError", "math/bits.overflowError"], plainKeys := false, apart := false }
def DemandTrueSaid : Prop := demandTrueRow.holds Try.pinned (OpenSpec.ofChange demandTrueSpec)

/-- ITS FALSE NEIGHBOUR: 'it returns false'. Refute it at one input. -/
def demandTrueWrong : ChangeSpec := { name := "demandTrue", fn := fun _ => fun
  | [d1, d2] => { results := [.lit (.bool false)], args := [d1, d2] }
  | _ => none }
def DemandTrueWrongFalsely : Prop := demandTrueRow.holds Try.pinned (OpenSpec.ofChange demandTrueWrong)

/-- 'quintadenalaw13.DemandGrows': WHATEVER THE INPUT: true; the input reads as it did. -/
def demandGrowsSpec : ChangeSpec := { name := "demandGrows", fn := fun _ => fun
  | [d1, d2, d3] => { results := [.lit (.bool true)], args := [d1, d2, d3] }
  | _ => none }
def demandGrowsRow : OpenClaim := { program := "ytlieijnhaolnhaa", sum := "39a1043c5f90686fea6510576b3c9d3fa60646d16a4513ec58af7214aefe4180", func := "quintadena/quintadenalaw13.DemandGrows", spec := "demandGrows", inPlace := ["math/bits.Add64"], unfollowed := true, recurses := true, named := ["math/bits.divideError", "math/bits.overflowError"], plainKeys := false, apart := false }
def DemandGrowsSaid : Prop := demandGrowsRow.holds Try.pinned (OpenSpec.ofChange demandGrowsSpec)

/-- ITS FALSE NEIGHBOUR: 'it returns false'. Refute it at one input. -/
def demandGrowsWrong : ChangeSpec := { name := "demandGrows", fn := fun _ => fun
  | [d1, d2, d3] => { results := [.lit (.bool false)], args := [d1, d2, d3] }
  | _ => none }
def DemandGrowsWrongFalsely : Prop := demandGrowsRow.holds Try.pinned (OpenSpec.ofChange demandGrowsWrong)

/-- 'quintadenalaw13.DemandMost': WHATEVER THE INPUT: true; the input reads as it did. -/
def demandMostSpec : ChangeSpec := { name := "demandMost", fn := fun _ => fun
  | [d1, d2, d3] => { results := [.lit (.bool true)], args := [d1, d2, d3] }
  | _ => none }
def demandMostRow : OpenClaim := { program := "ytlieijnhaolnhaa", sum := "39a1043c5f90686fea6510576b3c9d3fa60646d16a4513ec58af7214aefe4180", func := "quintadena/quintadenalaw13.DemandMost", spec := "demandMost", inPlace := ["math/bits.Add64"], unfollowed := true, recurses := true, named := ["math/bits.divideError", "math/bits.overflowError"], plainKeys := false, apart := false }
def DemandMostSaid : Prop := demandMostRow.holds Try.pinned (OpenSpec.ofChange demandMostSpec)

/-- ITS FALSE NEIGHBOUR: 'it returns false'. Refute it at one input. -/
def demandMostWrong : ChangeSpec := { name := "demandMost", fn := fun _ => fun
  | [d1, d2, d3] => { results := [.lit (.bool false)], args := [d1, d2, d3] }
  | _ => none }
def DemandMostWrongFalsely : Prop := demandMostRow.holds Try.pinned (OpenSpec.ofChange demandMostWrong)

/- THE SECOND FORM. 'bulk': how many values and letters a reading holds, each counted each time it is reached (what is shared counts as often as it is met; a slice's spare places count too). A statement '..UptoSaid' is the law's where the arguments, and the package variables that the reading takes, are together of bulk at most 1048576: NARROWER than '..Said'. Prove '..Said' where nothing that the law and all that it calls make is longer than what came in: it says more and counts as full. Else prove '..UptoSaid'. A law counts once. -/
mutual
def uptoBulk {H : Type} : DataW H → Nat
  | .lit (.string bytes) => bytes.length + 1
  | .lit _ => 1
  | .nil => 1
  | .ptr d => uptoBulk d + 1
  | .slice elems spare => uptoBulkAll elems + uptoBulkAll spare + 1
  | .agg parts => uptoBulkAll parts + 1
  | .iface _ d => uptoBulk d + 1
  | .map entries => uptoBulkEntries entries + 1
  | .held _ => 1
def uptoBulkAll {H : Type} : List (DataW H) → Nat
  | [] => 0
  | d :: r => uptoBulk d + uptoBulkAll r
def uptoBulkEntries {H : Type} : List (Lit × DataW H) → Nat
  | [] => 0
  | x :: r => uptoBulkEntry x + uptoBulkEntries r
def uptoBulkEntry {H : Type} : Lit × DataW H → Nat
  | (.string bytes, d) => bytes.length + uptoBulk d + 1
  | (_, d) => uptoBulk d + 1
 end
def uptoSmall : (H : Type) → List (DataW H) → Bool := fun _ ds => decide (uptoBulkAll ds ≤ 1048576)
def OpenSpec.upto (s : _root_.Go.ChangeSpec) : _root_.Go.OpenSpec := { _root_.Go.OpenSpec.ofChange s with cond := some uptoSmall }

/-- 'quintadenalaw13.DemandTrue', WHERE WHAT IT READS IS OF BULK AT MOST 1048576: true; the input reads as it did. -/
def demandTrueUptoRow : OpenClaim := { program := "ytlieijnhaolnhaa", sum := "39a1043c5f90686fea6510576b3c9d3fa60646d16a4513ec58af7214aefe4180", func := "quintadena/quintadenalaw13.DemandTrue", spec := "demandTrue", inPlace := ["math/bits.Add64"], unfollowed := true, recurses := true, named := ["math/bits.divideError", "math/bits.overflowError"], plainKeys := false, apart := false, narrowed := true }
def DemandTrueUptoSaid : Prop := demandTrueUptoRow.holds Try.pinned (OpenSpec.upto demandTrueSpec)

/-- 'quintadenalaw13.DemandGrows', WHERE WHAT IT READS IS OF BULK AT MOST 1048576: true; the input reads as it did. -/
def demandGrowsUptoRow : OpenClaim := { program := "ytlieijnhaolnhaa", sum := "39a1043c5f90686fea6510576b3c9d3fa60646d16a4513ec58af7214aefe4180", func := "quintadena/quintadenalaw13.DemandGrows", spec := "demandGrows", inPlace := ["math/bits.Add64"], unfollowed := true, recurses := true, named := ["math/bits.divideError", "math/bits.overflowError"], plainKeys := false, apart := false, narrowed := true }
def DemandGrowsUptoSaid : Prop := demandGrowsUptoRow.holds Try.pinned (OpenSpec.upto demandGrowsSpec)

/-- 'quintadenalaw13.DemandMost', WHERE WHAT IT READS IS OF BULK AT MOST 1048576: true; the input reads as it did. -/
def demandMostUptoRow : OpenClaim := { program := "ytlieijnhaolnhaa", sum := "39a1043c5f90686fea6510576b3c9d3fa60646d16a4513ec58af7214aefe4180", func := "quintadena/quintadenalaw13.DemandMost", spec := "demandMost", inPlace := ["math/bits.Add64"], unfollowed := true, recurses := true, named := ["math/bits.divideError", "math/bits.overflowError"], plainKeys := false, apart := false, narrowed := true }
def DemandMostUptoSaid : Prop := demandMostUptoRow.holds Try.pinned (OpenSpec.upto demandMostSpec)

end Rows
end Go.Proofs.Ytlieijnhaolnhaa
