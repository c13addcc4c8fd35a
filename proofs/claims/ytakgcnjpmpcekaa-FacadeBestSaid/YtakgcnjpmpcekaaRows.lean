/-
  No cell of these rows narrows 'for every input' (looked for: loops, veiled, ifaces, maps, wideKeys, modest, calm, conditions, laid).
  DERIVED. THE GIVEN ROWS OF THIS SEAT. 5 by the template 'for every input the law returns true; each argument reads behind the call as it read before'; 0 by the template 'total and deterministic' (their statements: YtakgcnjpmpcekaaTotals.lean).
  GIVEN WITH THE SEED: the statements are not yours to turn. If you find one false, say at which input.
  Laid BY PROGRAM, IN A SANDBOX (cutbox-rows.mjs): the forced cells as the released guide's own fill.sh prints them over the translation dc2cea54d4e08a80… (all of the seat's roots in one cut). By AI agents, Wed Nov 11 2026. No macro, syntax, notation, axiom, sorry.
-/
import Derived.Test.YtakgcnjpmpcekaaChecked
import GoSem.Claim
import GoSem.ClaimJoined
import GoSem.ClaimMapViews
import Derived.JoinedTies
import Derived.KernelRfl
namespace Go.Proofs.Ytakgcnjpmpcekaa
/- THE CELL 'sum', in the pinned program and in every row, IS THE sha256 OF THE DUMP (.gsa) THAT YtakgcnjpmpcekaaProg.lean LOADS. Nothing in Lean hashes anything: it is a label: what it is worth is what the hold of that sum in a sandbox is worth. -/
noncomputable def Try.pinned : Pinned := { name := "ytakgcnjpmpcekaa", sum := "dc2cea54d4e08a80b0a3206121041276969644bbb890454ae72f5b2229e75024", checked := Try.checked }
namespace Rows
def none {H : Type} : Left H := { results := [], args := [] }

/-- 'quintadenalaw24.FacadeOrders': WHATEVER THE INPUT: true; the input reads as it did. -/
def facadeOrdersSpec : ChangeSpec := { name := "facadeOrders", fn := fun _ => fun
  | [d1, d2, d3] => { results := [.lit (.bool true)], args := [d1, d2, d3] }
  | _ => none }
def facadeOrdersRow : OpenClaim := { program := "ytakgcnjpmpcekaa", sum := "dc2cea54d4e08a80b0a3206121041276969644bbb890454ae72f5b2229e75024", func := "quintadena/quintadenalaw24.FacadeOrders", spec := "facadeOrders", unfollowed := true, recurses := true, named := ["math/bits.divideError", "math/bits.overflowError"], apart := false }
def FacadeOrdersSaid : Prop := facadeOrdersRow.holds Try.pinned (OpenSpec.ofChange facadeOrdersSpec)

/-- ITS FALSE NEIGHBOUR: 'it returns false'. Refute it at one input. -/
def facadeOrdersWrong : ChangeSpec := { name := "facadeOrders", fn := fun _ => fun
  | [d1, d2, d3] => { results := [.lit (.bool false)], args := [d1, d2, d3] }
  | _ => none }
def FacadeOrdersWrongFalsely : Prop := facadeOrdersRow.holds Try.pinned (OpenSpec.ofChange facadeOrdersWrong)

/-- 'quintadenalaw24.FacadePlans': WHATEVER THE INPUT: true; the input reads as it did. -/
def facadePlansSpec : ChangeSpec := { name := "facadePlans", fn := fun _ => fun
  | [d1, d2, d3] => { results := [.lit (.bool true)], args := [d1, d2, d3] }
  | _ => none }
def facadePlansRow : OpenClaim := { program := "ytakgcnjpmpcekaa", sum := "dc2cea54d4e08a80b0a3206121041276969644bbb890454ae72f5b2229e75024", func := "quintadena/quintadenalaw24.FacadePlans", spec := "facadePlans", unfollowed := true, recurses := true, named := ["math/bits.divideError", "math/bits.overflowError"], apart := false }
def FacadePlansSaid : Prop := facadePlansRow.holds Try.pinned (OpenSpec.ofChange facadePlansSpec)

/-- ITS FALSE NEIGHBOUR: 'it returns false'. Refute it at one input. -/
def facadePlansWrong : ChangeSpec := { name := "facadePlans", fn := fun _ => fun
  | [d1, d2, d3] => { results := [.lit (.bool false)], args := [d1, d2, d3] }
  | _ => none }
def FacadePlansWrongFalsely : Prop := facadePlansRow.holds Try.pinned (OpenSpec.ofChange facadePlansWrong)

/-- 'quintadenalaw24.FacadeTells': WHATEVER THE INPUT: true; the input reads as it did. -/
def facadeTellsSpec : ChangeSpec := { name := "facadeTells", fn := fun _ => fun
  | [d1, d2, d3] => { results := [.lit (.bool true)], args := [d1, d2, d3] }
  | _ => none }
def facadeTellsRow : OpenClaim := { program := "ytakgcnjpmpcekaa", sum := "dc2cea54d4e08a80b0a3206121041276969644bbb890454ae72f5b2229e75024", func := "quintadena/quintadenalaw24.FacadeTells", spec := "facadeTells", unfollowed := true, recurses := true, named := ["math/bits.divideError", "math/bits.overflowError"], apart := false }
def FacadeTellsSaid : Prop := facadeTellsRow.holds Try.pinned (OpenSpec.ofChange facadeTellsSpec)

/-- ITS FALSE NEIGHBOUR: 'it returns false'. Refute it at one input. -/
def facadeTellsWrong : ChangeSpec := { name := "facadeTells", fn := fun _ => fun
  | [d1, d2, d3] => { results := [.lit (.bool false)], args := [d1, d2, d3] }
  | _ => none }
def FacadeTellsWrongFalsely : Prop := facadeTellsRow.holds Try.pinned (OpenSpec.ofChange facadeTellsWrong)

/-- 'quintadenalaw24.FacadeBest': WHATEVER THE INPUT: true; the input reads as it did. -/
def facadeBestSpec : ChangeSpec := { name := "facadeBest", fn := fun _ => fun
  | [d1, d2, d3] => { results := [.lit (.bool true)], args := [d1, d2, d3] }
  | _ => none }
def facadeBestRow : OpenClaim := { program := "ytakgcnjpmpcekaa", sum := "dc2cea54d4e08a80b0a3206121041276969644bbb890454ae72f5b2229e75024", func := "quintadena/quintadenalaw24.FacadeBest", spec := "facadeBest", unfollowed := true, recurses := true, named := ["math/bits.divideError", "math/bits.overflowError"], apart := false }
def FacadeBestSaid : Prop := facadeBestRow.holds Try.pinned (OpenSpec.ofChange facadeBestSpec)

/-- ITS FALSE NEIGHBOUR: 'it returns false'. Refute it at one input. -/
def facadeBestWrong : ChangeSpec := { name := "facadeBest", fn := fun _ => fun
  | [d1, d2, d3] => { results := [.lit (.bool false)], args := [d1, d2, d3] }
  | _ => none }
def FacadeBestWrongFalsely : Prop := facadeBestRow.holds Try.pinned (OpenSpec.ofChange facadeBestWrong)

/-- 'quintadenalaw24.FacadeEven': WHATEVER THE INPUT: true; the input reads as it did. -/
def facadeEvenSpec : ChangeSpec := { name := "facadeEven", fn := fun _ => fun
  | [d1, d2] => { results := [.lit (.bool true)], args := [d1, d2] }
  | _ => none }
def facadeEvenRow : OpenClaim := { program := "ytakgcnjpmpcekaa", sum := "dc2cea54d4e08a80b0a3206121041276969644bbb890454ae72f5b2229e75024", func := "quintadena/quintadenalaw24.FacadeEven", spec := "facadeEven", unfollowed := true, recurses := true, named := ["math/bits.divideError", "math/bits.overflowError"], apart := false }
def FacadeEvenSaid : Prop := facadeEvenRow.holds Try.pinned (OpenSpec.ofChange facadeEvenSpec)

/-- ITS FALSE NEIGHBOUR: 'it returns false'. Refute it at one input. -/
def facadeEvenWrong : ChangeSpec := { name := "facadeEven", fn := fun _ => fun
  | [d1, d2] => { results := [.lit (.bool false)], args := [d1, d2] }
  | _ => none }
def FacadeEvenWrongFalsely : Prop := facadeEvenRow.holds Try.pinned (OpenSpec.ofChange facadeEvenWrong)

/- THE SECOND FORM. 'bulk': how many values and letters a reading holds, each counted each time it is reached (what is shared counts as often as it is met; a slice's spare places count too). A statement '..UptoSaid' is the law's where the arguments, and the package variables that the reading takes, are together of bulk at most 1048576: NARROWER than '..Said'. Prove '..Said' where nothing that the law and all that it calls make is longer than what came in: it says more and counts as full. Else prove '..UptoSaid'. A law counts once. -/
mutual
def uptoBulk {H : Type} : DataW H → Nat
  | .lit (.string bytes) => bytes.length + 1
  | .lit _ => 1
  | .nil => 1
  | .ptr d => uptoBulk d + 1
  | .slice elems spare => uptoBulkAll elems + uptoBulkAll spare + 1
  | .agg parts => uptoBulkAll parts + 1
  | .iface _ d => uptoBulk d + 1
  | .map entries => uptoBulkEntries entries + 1
  | .held _ => 1
def uptoBulkAll {H : Type} : List (DataW H) → Nat
  | [] => 0
  | d :: r => uptoBulk d + uptoBulkAll r
def uptoBulkEntries {H : Type} : List (Lit × DataW H) → Nat
  | [] => 0
  | x :: r => uptoBulkEntry x + uptoBulkEntries r
def uptoBulkEntry {H : Type} : Lit × DataW H → Nat
  | (.string bytes, d) => bytes.length + uptoBulk d + 1
  | (_, d) => uptoBulk d + 1
 end
def uptoSmall : (H : Type) → List (DataW H) → Bool := fun _ ds => decide (uptoBulkAll ds ≤ 1048576)
def OpenSpec.upto (s : _root_.Go.ChangeSpec) : _root_.Go.OpenSpec := { _root_.Go.OpenSpec.ofChange s with cond := some uptoSmall }

/-- 'quintadenalaw24.FacadeOrders', WHERE WHAT IT READS IS OF BULK AT MOST 1048576: true; the input reads as it did. -/
def facadeOrdersUptoRow : OpenClaim := { program := "ytakgcnjpmpcekaa", sum := "dc2cea54d4e08a80b0a3206121041276969644bbb890454ae72f5b2229e75024", func := "quintadena/quintadenalaw24.FacadeOrders", spec := "facadeOrders", unfollowed := true, recurses := true, named := ["math/bits.divideError", "math/bits.overflowError"], apart := false, narrowed := true }
def FacadeOrdersUptoSaid : Prop := facadeOrdersUptoRow.holds Try.pinned (OpenSpec.upto facadeOrdersSpec)

/-- 'quintadenalaw24.FacadePlans', WHERE WHAT IT READS IS OF BULK AT MOST 1048576: true; the input reads as it did. -/
def facadePlansUptoRow : OpenClaim := { program := "ytakgcnjpmpcekaa", sum := "dc2cea54d4e08a80b0a3206121041276969644bbb890454ae72f5b2229e75024", func := "quintadena/quintadenalaw24.FacadePlans", spec := "facadePlans", unfollowed := true, recurses := true, named := ["math/bits.divideError", "math/bits.overflowError"], apart := false, narrowed := true }
def FacadePlansUptoSaid : Prop := facadePlansUptoRow.holds Try.pinned (OpenSpec.upto facadePlansSpec)

/-- 'quintadenalaw24.FacadeTells', WHERE WHAT IT READS IS OF BULK AT MOST 1048576: true; the input reads as it did. -/
def facadeTellsUptoRow : OpenClaim := { program := "ytakgcnjpmpcekaa", sum := "dc2cea54d4e08a80b0a3206121041276969644bbb890454ae72f5b2229e75024", func := "quintadena/quintadenalaw24.FacadeTells", spec := "facadeTells", unfollowed := true, recurses := true, named := ["math/bits.divideError", "math/bits.overflowError"], apart := false, narrowed := true }
def FacadeTellsUptoSaid : Prop := facadeTellsUptoRow.holds Try.pinned (OpenSpec.upto facadeTellsSpec)

/-- 'quintadenalaw24.FacadeBest', WHERE WHAT IT READS IS OF BULK AT MOST 1048576: true; the input reads as it did. -/
def facadeBestUptoRow : OpenClaim := { program := "ytakgcnjpmpcekaa", sum := "dc2cea54d4e08a80b0a3206121041276969644bbb890454ae72f5b2229e75024", func := "quintadena/quintadenalaw24.FacadeBest", spec := "facadeBest", unfollowed := true, recurses := true, named := ["math/bits.divideError", "math/bits.overflowError"], apart := false, narrowed := true }
def FacadeBestUptoSaid : Prop := facadeBestUptoRow.holds Try.pinned (OpenSpec.upto facadeBestSpec)

/-- 'quintadenalaw24.FacadeEven', WHERE WHAT IT READS IS OF BULK AT MOST 1048576: true; the input reads as it did. -/
def facadeEvenUptoRow : OpenClaim := { program := "ytakgcnjpmpcekaa", sum := "dc2cea54d4e08a80b0a3206121041276969644bbb890454ae72f5b2229e75024", func := "quintadena/quintadenalaw24.FacadeEven", spec := "facadeEven", unfollowed := true, recurses := true, named := ["math/bits.divideError", "math/bits.overflowError"], apart := false, narrowed := true }
def FacadeEvenUptoSaid : Prop := facadeEvenUptoRow.holds Try.pinned (OpenSpec.upto facadeEvenSpec)

end Rows
end Go.Proofs.Ytakgcnjpmpcekaa
