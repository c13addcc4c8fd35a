/-
  No cell of these rows narrows 'for every input' (looked for: loops, veiled, ifaces, maps, wideKeys, modest, calm, conditions, laid).
  DERIVED. THE GIVEN ROWS OF THIS SEAT. 5 by the template 'for every input the law returns true; each argument reads behind the call as it read before'; 0 by the template 'total and deterministic' (their statements: YtlieijnhaolnhaaGreatTotals.lean).
  GIVEN WITH THE SEED: the statements are not yours to turn. If you find one false, say at which input.
  Laid BY PROGRAM, IN A SANDBOX (cutbox-rows.mjs): the forced cells as the released guide's own fill.sh prints them over the translation 0756aa75bc68a91c… (all of the seat's roots in one cut). By AI agents, Wed Nov 11 2026. No macro, syntax, notation, axiom, sorry.
-/
import Derived.Test.YtlieijnhaolnhaaGreatChecked
import GoSem.Claim
import GoSem.ClaimJoined
import GoSem.ClaimMapViews
import Derived.JoinedTies
import Derived.KernelRfl
namespace Go.Proofs.YtlieijnhaolnhaaGreat
/- THE CELL 'sum', in the pinned program and in every row, IS THE sha256 OF THE DUMP (.gsa) THAT YtlieijnhaolnhaaGreatProg.lean LOADS. Nothing in Lean hashes anything: it is a label: what it is worth is what the hold of that sum in a sandbox is worth. -/
noncomputable def Tryz.pinned : Pinned := { name := "ytlieijnhaolnhaagreat", sum := "0756aa75bc68a91cd0fc7c72a36552eb7ea108110c5fe9c48d2802cab2a11ea9", checked := Tryz.checked }
namespace Rows
def none {H : Type} : Left H := { results := [], args := [] }

/-- 'quintadenalaw13.DemandPipes': WHATEVER THE INPUT: true; the input reads as it did. -/
def demandPipesSpec : ChangeSpec := { name := "demandPipes", fn := fun _ => fun
  | [d1, d2, d3] => { results := [.lit (.bool true)], args := [d1, d2, d3] }
  | _ => none }
def demandPipesRow : OpenClaim := { program := "ytlieijnhaolnhaagreat", sum := "0756aa75bc68a91cd0fc7c72a36552eb7ea108110c5fe9c48d2802cab2a11ea9", func := "quintadena/quintadenalaw13.DemandPipes", spec := "demandPipes", inPlace := ["math/bits.Add64"], unfollowed := true, recurses := true, named := ["math/bits.divideError", "math/bits.overflowError"], plainKeys := false, apart := false }
def DemandPipesSaid : Prop := demandPipesRow.holds Tryz.pinned (OpenSpec.ofChange demandPipesSpec)

/-- ITS FALSE NEIGHBOUR: 'it returns false'. Refute it at one input. -/
def demandPipesWrong : ChangeSpec := { name := "demandPipes", fn := fun _ => fun
  | [d1, d2, d3] => { results := [.lit (.bool false)], args := [d1, d2, d3] }
  | _ => none }
def DemandPipesWrongFalsely : Prop := demandPipesRow.holds Tryz.pinned (OpenSpec.ofChange demandPipesWrong)

/-- 'quintadenalaw13.DemandSums': WHATEVER THE INPUT: true; the input reads as it did. -/
def demandSumsSpec : ChangeSpec := { name := "demandSums", fn := fun _ => fun
  | [d1, d2, d3] => { results := [.lit (.bool true)], args := [d1, d2, d3] }
  | _ => none }
def demandSumsRow : OpenClaim := { program := "ytlieijnhaolnhaagreat", sum := "0756aa75bc68a91cd0fc7c72a36552eb7ea108110c5fe9c48d2802cab2a11ea9", func := "quintadena/quintadenalaw13.DemandSums", spec := "demandSums", inPlace := ["math/bits.Add64"], unfollowed := true, recurses := true, named := ["math/bits.divideError", "math/bits.overflowError"], plainKeys := false, apart := false }
def DemandSumsSaid : Prop := demandSumsRow.holds Tryz.pinned (OpenSpec.ofChange demandSumsSpec)

/-- ITS FALSE NEIGHBOUR: 'it returns false'. Refute it at one input. -/
def demandSumsWrong : ChangeSpec := { name := "demandSums", fn := fun _ => fun
  | [d1, d2, d3] => { results := [.lit (.bool false)], args := [d1, d2, d3] }
  | _ => none }
def DemandSumsWrongFalsely : Prop := demandSumsRow.holds Tryz.pinned (OpenSpec.ofChange demandSumsWrong)

/-- 'quintadenalaw13.DemandPeaks': WHATEVER THE INPUT: true; the input reads as it did. -/
def demandPeaksSpec : ChangeSpec := { name := "demandPeaks", fn := fun _ => fun
  | [d1, d2] => { results := [.lit (.bool true)], args := [d1, d2] }
  | _ => none }
def demandPeaksRow : OpenClaim := { program := "ytlieijnhaolnhaagreat", sum := "0756aa75bc68a91cd0fc7c72a36552eb7ea108110c5fe9c48d2802cab2a11ea9", func := "quintadena/quintadenalaw13.DemandPeaks", spec := "demandPeaks", inPlace := ["math/bits.Add64"], unfollowed := true, recurses := true, named := ["math/bits.divideError", "math/bits.overflowError"], plainKeys := false, apart := false }
def DemandPeaksSaid : Prop := demandPeaksRow.holds Tryz.pinned (OpenSpec.ofChange demandPeaksSpec)

/-- ITS FALSE NEIGHBOUR: 'it returns false'. Refute it at one input. -/
def demandPeaksWrong : ChangeSpec := { name := "demandPeaks", fn := fun _ => fun
  | [d1, d2] => { results := [.lit (.bool false)], args := [d1, d2] }
  | _ => none }
def DemandPeaksWrongFalsely : Prop := demandPeaksRow.holds Tryz.pinned (OpenSpec.ofChange demandPeaksWrong)

/-- 'quintadenalaw13.DemandParts': WHATEVER THE INPUT: true; the input reads as it did. -/
def demandPartsSpec : ChangeSpec := { name := "demandParts", fn := fun _ => fun
  | [d1, d2, d3] => { results := [.lit (.bool true)], args := [d1, d2, d3] }
  | _ => none }
def demandPartsRow : OpenClaim := { program := "ytlieijnhaolnhaagreat", sum := "0756aa75bc68a91cd0fc7c72a36552eb7ea108110c5fe9c48d2802cab2a11ea9", func := "quintadena/quintadenalaw13.DemandParts", spec := "demandParts", inPlace := ["math/bits.Add64"], unfollowed := true, recurses := true, named := ["math/bits.divideError", "math/bits.overflowError"], plainKeys := false, apart := false }
def DemandPartsSaid : Prop := demandPartsRow.holds Tryz.pinned (OpenSpec.ofChange demandPartsSpec)

/-- ITS FALSE NEIGHBOUR: 'it returns false'. Refute it at one input. -/
def demandPartsWrong : ChangeSpec := { name := "demandParts", fn := fun _ => fun
  | [d1, d2, d3] => { results := [.lit (.bool false)], args := [d1, d2, d3] }
  | _ => none }
def DemandPartsWrongFalsely : Prop := demandPartsRow.holds Tryz.pinned (OpenSpec.ofChange demandPartsWrong)

/-- 'quintadenalaw13.DemandKeys': WHATEVER THE INPUT: true; the input reads as it did. -/
def demandKeysSpec : ChangeSpec := { name := "demandKeys", fn := fun _ => fun
  | [d1, d2, d3] => { results := [.lit (.bool true)], args := [d1, d2, d3] }
  | _ => none }
def demandKeysRow : OpenClaim := { program := "ytlieijnhaolnhaagreat", sum := "0756aa75bc68a91cd0fc7c72a36552eb7ea108110c5fe9c48d2802cab2a11ea9", func := "quintadena/quintadenalaw13.DemandKeys", spec := "demandKeys", inPlace := ["math/bits.Add64"], unfollowed := true, recurses := true, named := ["math/bits.divideError", "math/bits.overflowError"], plainKeys := false, apart := false }
def DemandKeysSaid : Prop := demandKeysRow.holds Tryz.pinned (OpenSpec.ofChange demandKeysSpec)

/-- ITS FALSE NEIGHBOUR: 'it returns false'. Refute it at one input. -/
def demandKeysWrong : ChangeSpec := { name := "demandKeys", fn := fun _ => fun
  | [d1, d2, d3] => { results := [.lit (.bool false)], args := [d1, d2, d3] }
  | _ => none }
def DemandKeysWrongFalsely : Prop := demandKeysRow.holds Tryz.pinned (OpenSpec.ofChange demandKeysWrong)

/- THE SECOND FORM. 'bulk': how many values and letters a reading holds, each counted each time it is reached (what is shared counts as often as it is met; a slice's spare places count too). A statement '..UptoSaid' is the law's where the arguments, and the package variables that the reading takes, are together of bulk at most 1048576: NARROWER than '..Said'. Prove '..Said' where nothing that the law and all that it calls make is longer than what came in: it says more and counts as full. Else prove '..UptoSaid'. A law counts once. -/
mutual
def uptoBulk {H : Type} : DataW H → Nat
  | .lit (.string bytes) => bytes.length + 1
  | .lit _ => 1
  | .nil => 1
  | .ptr d => uptoBulk d + 1
  | .slice elems spare => uptoBulkAll elems + uptoBulkAll spare + 1
  | .agg parts => uptoBulkAll parts + 1
  | .iface _ d => uptoBulk d + 1
  | .map entries => uptoBulkEntries entries + 1
  | .held _ => 1
def uptoBulkAll {H : Type} : List (DataW H) → Nat
  | [] => 0
  | d :: r => uptoBulk d + uptoBulkAll r
def uptoBulkEntries {H : Type} : List (Lit × DataW H) → Nat
  | [] => 0
  | x :: r => uptoBulkEntry x + uptoBulkEntries r
def uptoBulkEntry {H : Type} : Lit × DataW H → Nat
  | (.string bytes, d) => bytes.length + uptoBulk d + 1
  | (_, d) => uptoBulk d + 1
 end
def uptoSmall : (H : Type) → List (DataW H) → Bool := fun _ ds => decide (uptoBulkAll ds ≤ 1048576)
def OpenSpec.upto (s : _root_.Go.ChangeSpec) : _root_.Go.OpenSpec := { _root_.Go.OpenSpec.ofChange s with cond := some uptoSmall }

/-- 'quintadenalaw13.DemandPipes', WHERE WHAT IT READS IS OF BULK AT MOST 1048576: true; the input reads as it did. -/
def demandPipesUptoRow : OpenClaim := { program := "ytlieijnhaolnhaagreat", sum := "0756aa75bc68a91cd0fc7c72a36552eb7ea108110c5fe9c48d2802cab2a11ea9", func := "quintadena/quintadenalaw13.DemandPipes", spec := "demandPipes", inPlace := ["math/bits.Add64"], unfollowed := true, recurses := true, named := ["math/bits.divideError", "math/bits.overflowError"], plainKeys := false, apart := false, narrowed := true }
def DemandPipesUptoSaid : Prop := demandPipesUptoRow.holds Tryz.pinned (OpenSpec.upto demandPipesSpec)

/-- 'quintadenalaw13.DemandSums', WHERE WHAT IT READS IS OF BULK AT MOST 1048576: true; the input reads as it did. -/
def demandSumsUptoRow : OpenClaim := { program := "ytlieijnhaolnhaagreat", sum := "0756aa75bc68a91cd0fc7c72a36552eb7ea108110c5fe9c48d2802cab2a11ea9", func := "quintadena/quintadenalaw13.DemandSums", spec := "demandSums", inPlace := ["math/bits.Add64"], unfollowed := true, recurses := true, named := ["math/bits.divideError", "math/bits.overflowError"], plainKeys := false, apart := false, narrowed := true }
def DemandSumsUptoSaid : Prop := demandSumsUptoRow.holds Tryz.pinned (OpenSpec.upto demandSumsSpec)

/-- 'quintadenalaw13.DemandPeaks', WHERE WHAT IT READS IS OF BULK AT MOST 1048576: true; the input reads as it did. -/
def demandPeaksUptoRow : OpenClaim := { program := "ytlieijnhaolnhaagreat", sum := "0756aa75bc68a91cd0fc7c72a36552eb7ea108110c5fe9c48d2802cab2a11ea9", func := "quintadena/quintadenalaw13.DemandPeaks", spec := "demandPeaks", inPlace := ["math/bits.Add64"], unfollowed := true, recurses := true, named := ["math/bits.divideError", "math/bits.overflowError"], plainKeys := false, apart := false, narrowed := true }
def DemandPeaksUptoSaid : Prop := demandPeaksUptoRow.holds Tryz.pinned (OpenSpec.upto demandPeaksSpec)

/-- 'quintadenalaw13.DemandParts', WHERE WHAT IT READS IS OF BULK AT MOST 1048576: true; the input reads as it did. -/
def demandPartsUptoRow : OpenClaim := { program := "ytlieijnhaolnhaagreat", sum := "0756aa75bc68a91cd0fc7c72a36552eb7ea108110c5fe9c48d2802cab2a11ea9", func := "quintadena/quintadenalaw13.DemandParts", spec := "demandParts", inPlace := ["math/bits.Add64"], unfollowed := true, recurses := true, named := ["math/bits.divideError", "math/bits.overflowError"], plainKeys := false, apart := false, narrowed := true }
def DemandPartsUptoSaid : Prop := demandPartsUptoRow.holds Tryz.pinned (OpenSpec.upto demandPartsSpec)

/-- 'quintadenalaw13.DemandKeys', WHERE WHAT IT READS IS OF BULK AT MOST 1048576: true; the input reads as it did. -/
def demandKeysUptoRow : OpenClaim := { program := "ytlieijnhaolnhaagreat", sum := "0756aa75bc68a91cd0fc7c72a36552eb7ea108110c5fe9c48d2802cab2a11ea9", func := "quintadena/quintadenalaw13.DemandKeys", spec := "demandKeys", inPlace := ["math/bits.Add64"], unfollowed := true, recurses := true, named := ["math/bits.divideError", "math/bits.overflowError"], plainKeys := false, apart := false, narrowed := true }
def DemandKeysUptoSaid : Prop := demandKeysUptoRow.holds Tryz.pinned (OpenSpec.upto demandKeysSpec)

end Rows
end Go.Proofs.YtlieijnhaolnhaaGreat
