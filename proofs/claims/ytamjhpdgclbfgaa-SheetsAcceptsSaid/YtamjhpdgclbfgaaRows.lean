/-
  No cell of these rows narrows 'for every input' (looked for: loops, veiled, ifaces, maps, wideKeys, modest, calm, conditions, laid).
  DERIVED. THE GIVEN ROWS OF THIS SEAT. 5 by the template 'for every input the law returns true; each argument reads behind the call as it read before'; 0 by the template 'total and deterministic' (their statements: YtamjhpdgclbfgaaTotals.lean).
  GIVEN WITH THE SEED: the statements are not yours to turn. If you find one false, say at which input.
  Laid BY PROGRAM, IN A SANDBOX (cutbox-rows.mjs): the forced cells as the released guide's own fill.sh prints them over the translation bc212af422bca8ab… (all of the seat's roots in one cut). By AI agents, Wed Nov 11 2026. No macro, syntax, notation, axiom, sorry.
-/
import Derived.Test.YtamjhpdgclbfgaaChecked
import GoSem.Claim
import GoSem.ClaimJoined
import GoSem.ClaimMapViews
import Derived.JoinedTies
import Derived.KernelRfl
namespace Go.Proofs.Ytamjhpdgclbfgaa
/- THE CELL 'sum', in the pinned program and in every row, IS THE sha256 OF THE DUMP (.gsa) THAT YtamjhpdgclbfgaaProg.lean LOADS. Nothing in Lean hashes anything: it is a label: what it is worth is what the hold of that sum in a sandbox is worth. -/
noncomputable def Try.pinned : Pinned := { name := "ytamjhpdgclbfgaa", sum := "bc212af422bca8ab2026fac979609223ad644447a6d53f1c6818914e1922bc8b", checked := Try.checked }
namespace Rows
def none {H : Type} : Left H := { results := [], args := [] }

/-- 'quintadenalaw09.SheetsNests': WHATEVER THE INPUT: true; the input reads as it did. -/
def sheetsNestsSpec : ChangeSpec := { name := "sheetsNests", fn := fun _ => fun
  | [d1, d2] => { results := [.lit (.bool true)], args := [d1, d2] }
  | _ => none }
def sheetsNestsRow : OpenClaim := { program := "ytamjhpdgclbfgaa", sum := "bc212af422bca8ab2026fac979609223ad644447a6d53f1c6818914e1922bc8b", func := "quintadena/quintadenalaw09.SheetsNests", spec := "sheetsNests", unfollowed := true, recurses := true, named := ["math/bits.divideError", "math/bits.overflowError"], apart := false }
def SheetsNestsSaid : Prop := sheetsNestsRow.holds Try.pinned (OpenSpec.ofChange sheetsNestsSpec)

/-- ITS FALSE NEIGHBOUR: 'it returns false'. Refute it at one input. -/
def sheetsNestsWrong : ChangeSpec := { name := "sheetsNests", fn := fun _ => fun
  | [d1, d2] => { results := [.lit (.bool false)], args := [d1, d2] }
  | _ => none }
def SheetsNestsWrongFalsely : Prop := sheetsNestsRow.holds Try.pinned (OpenSpec.ofChange sheetsNestsWrong)

/-- 'quintadenalaw09.SheetsQuick': WHATEVER THE INPUT: true; the input reads as it did. -/
def sheetsQuickSpec : ChangeSpec := { name := "sheetsQuick", fn := fun _ => fun
  | [d1, d2] => { results := [.lit (.bool true)], args := [d1, d2] }
  | _ => none }
def sheetsQuickRow : OpenClaim := { program := "ytamjhpdgclbfgaa", sum := "bc212af422bca8ab2026fac979609223ad644447a6d53f1c6818914e1922bc8b", func := "quintadena/quintadenalaw09.SheetsQuick", spec := "sheetsQuick", unfollowed := true, recurses := true, named := ["math/bits.divideError", "math/bits.overflowError"], apart := false }
def SheetsQuickSaid : Prop := sheetsQuickRow.holds Try.pinned (OpenSpec.ofChange sheetsQuickSpec)

/-- ITS FALSE NEIGHBOUR: 'it returns false'. Refute it at one input. -/
def sheetsQuickWrong : ChangeSpec := { name := "sheetsQuick", fn := fun _ => fun
  | [d1, d2] => { results := [.lit (.bool false)], args := [d1, d2] }
  | _ => none }
def SheetsQuickWrongFalsely : Prop := sheetsQuickRow.holds Try.pinned (OpenSpec.ofChange sheetsQuickWrong)

/-- 'quintadenalaw09.SheetsHolds': WHATEVER THE INPUT: true; the input reads as it did. -/
def sheetsHoldsSpec : ChangeSpec := { name := "sheetsHolds", fn := fun _ => fun
  | [d] => { results := [.lit (.bool true)], args := [d] }
  | _ => none }
def sheetsHoldsRow : OpenClaim := { program := "ytamjhpdgclbfgaa", sum := "bc212af422bca8ab2026fac979609223ad644447a6d53f1c6818914e1922bc8b", func := "quintadena/quintadenalaw09.SheetsHolds", spec := "sheetsHolds", unfollowed := true, recurses := true, named := ["math/bits.divideError", "math/bits.overflowError"], apart := false }
def SheetsHoldsSaid : Prop := sheetsHoldsRow.holds Try.pinned (OpenSpec.ofChange sheetsHoldsSpec)

/-- ITS FALSE NEIGHBOUR: 'it returns false'. Refute it at one input. -/
def sheetsHoldsWrong : ChangeSpec := { name := "sheetsHolds", fn := fun _ => fun
  | [d] => { results := [.lit (.bool false)], args := [d] }
  | _ => none }
def SheetsHoldsWrongFalsely : Prop := sheetsHoldsRow.holds Try.pinned (OpenSpec.ofChange sheetsHoldsWrong)

/-- 'quintadenalaw09.SheetsJudges': WHATEVER THE INPUT: true; the input reads as it did. -/
def sheetsJudgesSpec : ChangeSpec := { name := "sheetsJudges", fn := fun _ => fun
  | [d1, d2, d3] => { results := [.lit (.bool true)], args := [d1, d2, d3] }
  | _ => none }
def sheetsJudgesRow : OpenClaim := { program := "ytamjhpdgclbfgaa", sum := "bc212af422bca8ab2026fac979609223ad644447a6d53f1c6818914e1922bc8b", func := "quintadena/quintadenalaw09.SheetsJudges", spec := "sheetsJudges", unfollowed := true, recurses := true, named := ["math/bits.divideError", "math/bits.overflowError"], apart := false }
def SheetsJudgesSaid : Prop := sheetsJudgesRow.holds Try.pinned (OpenSpec.ofChange sheetsJudgesSpec)

/-- ITS FALSE NEIGHBOUR: 'it returns false'. Refute it at one input. -/
def sheetsJudgesWrong : ChangeSpec := { name := "sheetsJudges", fn := fun _ => fun
  | [d1, d2, d3] => { results := [.lit (.bool false)], args := [d1, d2, d3] }
  | _ => none }
def SheetsJudgesWrongFalsely : Prop := sheetsJudgesRow.holds Try.pinned (OpenSpec.ofChange sheetsJudgesWrong)

/-- 'quintadenalaw09.SheetsAccepts': WHATEVER THE INPUT: true; the input reads as it did. -/
def sheetsAcceptsSpec : ChangeSpec := { name := "sheetsAccepts", fn := fun _ => fun
  | [d1, d2] => { results := [.lit (.bool true)], args := [d1, d2] }
  | _ => none }
def sheetsAcceptsRow : OpenClaim := { program := "ytamjhpdgclbfgaa", sum := "bc212af422bca8ab2026fac979609223ad644447a6d53f1c6818914e1922bc8b", func := "quintadena/quintadenalaw09.SheetsAccepts", spec := "sheetsAccepts", unfollowed := true, recurses := true, named := ["math/bits.divideError", "math/bits.overflowError"], apart := false }
def SheetsAcceptsSaid : Prop := sheetsAcceptsRow.holds Try.pinned (OpenSpec.ofChange sheetsAcceptsSpec)

/-- ITS FALSE NEIGHBOUR: 'it returns false'. Refute it at one input. -/
def sheetsAcceptsWrong : ChangeSpec := { name := "sheetsAccepts", fn := fun _ => fun
  | [d1, d2] => { results := [.lit (.bool false)], args := [d1, d2] }
  | _ => none }
def SheetsAcceptsWrongFalsely : Prop := sheetsAcceptsRow.holds Try.pinned (OpenSpec.ofChange sheetsAcceptsWrong)

/- THE SECOND FORM. 'bulk': how many values and letters a reading holds, each counted each time it is reached (what is shared counts as often as it is met; a slice's spare places count too). A statement '..UptoSaid' is the law's where the arguments, and the package variables that the reading takes, are together of bulk at most 1048576: NARROWER than '..Said'. Prove '..Said' where nothing that the law and all that it calls make is longer than what came in: it says more and counts as full. Else prove '..UptoSaid'. A law counts once. -/
mutual
def uptoBulk {H : Type} : DataW H → Nat
  | .lit (.string bytes) => bytes.length + 1
  | .lit _ => 1
  | .nil => 1
  | .ptr d => uptoBulk d + 1
  | .slice elems spare => uptoBulkAll elems + uptoBulkAll spare + 1
  | .agg parts => uptoBulkAll parts + 1
  | .iface _ d => uptoBulk d + 1
  | .map entries => uptoBulkEntries entries + 1
  | .held _ => 1
def uptoBulkAll {H : Type} : List (DataW H) → Nat
  | [] => 0
  | d :: r => uptoBulk d + uptoBulkAll r
def uptoBulkEntries {H : Type} : List (Lit × DataW H) → Nat
  | [] => 0
  | x :: r => uptoBulkEntry x + uptoBulkEntries r
def uptoBulkEntry {H : Type} : Lit × DataW H → Nat
  | (.string bytes, d) => bytes.length + uptoBulk d + 1
  | (_, d) => uptoBulk d + 1
 end
def uptoSmall : (H : Type) → List (DataW H) → Bool := fun _ ds => decide (uptoBulkAll ds ≤ 1048576)
def OpenSpec.upto (s : _root_.Go.ChangeSpec) : _root_.Go.OpenSpec := { _root_.Go.OpenSpec.ofChange s with cond := some uptoSmall }

/-- 'quintadenalaw09.SheetsNests', WHERE WHAT IT READS IS OF BULK AT MOST 1048576: true; the input reads as it did. -/
def sheetsNestsUptoRow : OpenClaim := { program := "ytamjhpdgclbfgaa", sum := "bc212af422bca8ab2026fac979609223ad644447a6d53f1c6818914e1922bc8b", func := "quintadena/quintadenalaw09.SheetsNests", spec := "sheetsNests", unfollowed := true, recurses := true, named := ["math/bits.divideError", "math/bits.overflowError"], apart := false, narrowed := true }
def SheetsNestsUptoSaid : Prop := sheetsNestsUptoRow.holds Try.pinned (OpenSpec.upto sheetsNestsSpec)

/-- 'quintadenalaw09.SheetsQuick', WHERE WHAT IT READS IS OF BULK AT MOST 1048576: true; the input reads as it did. -/
def sheetsQuickUptoRow : OpenClaim := { program := "ytamjhpdgclbfgaa", sum := "bc212af422bca8ab2026fac979609223ad644447a6d53f1c6818914e1922bc8b", func := "quintadena/quintadenalaw09.SheetsQuick", spec := "sheetsQuick", unfollowed := true, recurses := true, named := ["math/bits.divideError", "math/bits.overflowError"], apart := false, narrowed := true }
def SheetsQuickUptoSaid : Prop := sheetsQuickUptoRow.holds Try.pinned (OpenSpec.upto sheetsQuickSpec)

/-- 'quintadenalaw09.SheetsHolds', WHERE WHAT IT READS IS OF BULK AT MOST 1048576: true; the input reads as it did. -/
def sheetsHoldsUptoRow : OpenClaim := { program := "ytamjhpdgclbfgaa", sum := "bc212af422bca8ab2026fac979609223ad644447a6d53f1c6818914e1922bc8b", func := "quintadena/quintadenalaw09.SheetsHolds", spec := "sheetsHolds", unfollowed := true, recurses := true, named := ["math/bits.divideError", "math/bits.overflowError"], apart := false, narrowed := true }
def SheetsHoldsUptoSaid : Prop := sheetsHoldsUptoRow.holds Try.pinned (OpenSpec.upto sheetsHoldsSpec)

/-- 'quintadenalaw09.SheetsJudges', WHERE WHAT IT READS IS OF BULK AT MOST 1048576: true; the input reads as it did. -/
def sheetsJudgesUptoRow : OpenClaim := { program := "ytamjhpdgclbfgaa", sum := "bc212af422bca8ab2026fac979609223ad644447a6d53f1c6818914e1922bc8b", func := "quintadena/quintadenalaw09.SheetsJudges", spec := "sheetsJudges", unfollowed := true, recurses := true, named := ["math/bits.divideError", "math/bits.overflowError"], apart := false, narrowed := true }
def SheetsJudgesUptoSaid : Prop := sheetsJudgesUptoRow.holds Try.pinned (OpenSpec.upto sheetsJudgesSpec)

/-- 'quintadenalaw09.SheetsAccepts', WHERE WHAT IT READS IS OF BULK AT MOST 1048576: true; the input reads as it did. -/
def sheetsAcceptsUptoRow : OpenClaim := { program := "ytamjhpdgclbfgaa", sum := "bc212af422bca8ab2026fac979609223ad644447a6d53f1c6818914e1922bc8b", func := "quintadena/quintadenalaw09.SheetsAccepts", spec := "sheetsAccepts", unfollowed := true, recurses := true, named := ["math/bits.divideError", "math/bits.overflowError"], apart := false, narrowed := true }
def SheetsAcceptsUptoSaid : Prop := sheetsAcceptsUptoRow.holds Try.pinned (OpenSpec.upto sheetsAcceptsSpec)

end Rows
end Go.Proofs.Ytamjhpdgclbfgaa
