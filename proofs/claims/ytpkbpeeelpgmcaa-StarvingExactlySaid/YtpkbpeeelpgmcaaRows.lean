/-
  No cell of these rows narrows 'for every input' (looked for: loops, veiled, ifaces, maps, wideKeys, modest, calm, conditions, laid).
  DERIVED. THE GIVEN ROWS OF THIS SEAT. 2 by the template 'for every input the law returns true; each argument reads behind the call as it read before'; 0 by the template 'total and deterministic' (their statements: YtpkbpeeelpgmcaaTotals.lean).
  GIVEN WITH THE SEED: the statements are not yours to turn. If you find one false, say at which input.
  Laid BY PROGRAM, IN A SANDBOX (cutbox-rows.mjs): the forced cells as the released guide's own fill.sh prints them over the translation 2063d58f626c0155… (all of the seat's roots in one cut). By AI agents, Wed Nov 11 2026. No macro, syntax, notation, axiom, sorry.
-/
import Derived.Test.YtpkbpeeelpgmcaaChecked
import GoSem.Claim
import GoSem.ClaimJoined
import GoSem.ClaimMapViews
import Derived.JoinedTies
import Derived.KernelRfl
namespace Go.Proofs.Ytpkbpeeelpgmcaa
/- THE CELL 'sum', in the pinned program and in every row, IS THE sha256 OF THE DUMP (.gsa) THAT YtpkbpeeelpgmcaaProg.lean LOADS. Nothing in Lean hashes anything: it is a label: what it is worth is what the hold of that sum in a sandbox is worth. -/
noncomputable def Try.pinned : Pinned := { name := "ytpkbpeeelpgmcaa", sum := "2063d58f626c0155e7b3729653021d32aefe4700416e3a39803c9be53b4baa4f", checked := Try.checked }
namespace Rows
def none {H : Type} : Left H := { results := [], args := [] }

/-- 'quintadenalaw15.StarvingExactly': WHATEVER THE INPUT: true; the input reads as it did. -/
def starvingExactlySpec : ChangeSpec := { name := "starvingExactly", fn := fun _ => fun
  | [d1, d2] => { results := [.lit (.bool true)], args := [d1, d2] }
  | _ => none }
def starvingExactlyRow : OpenClaim := { program := "ytpkbpeeelpgmcaa", sum := "2063d58f626c0155e7b3729653021d32aefe4700416e3a39803c9be53b4baa4f", func := "quintadena/quintadenalaw15.StarvingExactly", spec := "starvingExactly", unfollowed := true, recurses := true, plainKeys := false, apart := false }
def StarvingExactlySaid : Prop := starvingExactlyRow.holds Try.pinned (OpenSpec.ofChange starvingExactlySpec)

/-- ITS FALSE NEIGHBOUR: 'it returns false'. Refute it at one input. -/
def starvingExactlyWrong : ChangeSpec := { name := "starvingExactly", fn := fun _ => fun
  | [d1, d2] => { results := [.lit (.bool false)], args := [d1, d2] }
  | _ => none }
def StarvingExactlyWrongFalsely : Prop := starvingExactlyRow.holds Try.pinned (OpenSpec.ofChange starvingExactlyWrong)

/-- 'quintadenalaw15.StarvingProves': WHATEVER THE INPUT: true; the input reads as it did. -/
def starvingProvesSpec : ChangeSpec := { name := "starvingProves", fn := fun _ => fun
  | [d1, d2, d3] => { results := [.lit (.bool true)], args := [d1, d2, d3] }
  | _ => none }
def starvingProvesRow : OpenClaim := { program := "ytpkbpeeelpgmcaa", sum := "2063d58f626c0155e7b3729653021d32aefe4700416e3a39803c9be53b4baa4f", func := "quintadena/quintadenalaw15.StarvingProves", spec := "starvingProves", unfollowed := true, recurses := true, plainKeys := false, apart := false }
def StarvingProvesSaid : Prop := starvingProvesRow.holds Try.pinned (OpenSpec.ofChange starvingProvesSpec)

/-- ITS FALSE NEIGHBOUR: 'it returns false'. Refute it at one input. -/
def starvingProvesWrong : ChangeSpec := { name := "starvingProves", fn := fun _ => fun
  | [d1, d2, d3] => { results := [.lit (.bool false)], args := [d1, d2, d3] }
  | _ => none }
def StarvingProvesWrongFalsely : Prop := starvingProvesRow.holds Try.pinned (OpenSpec.ofChange starvingProvesWrong)

/- THE SECOND FORM. 'bulk': how many values and letters a reading holds, each counted each time it is reached (what is shared counts as often as it is met; a slice's spare places count too). A statement '..UptoSaid' is the law's where the arguments, and the package variables that the reading takes, are together of bulk at most 1048576: NARROWER than '..Said'. Prove '..Said' where nothing that the law and all that it calls make is longer than what came in: it says more and counts as full. Else prove '..UptoSaid'. A law counts once. -/
mutual
def uptoBulk {H : Type} : DataW H → Nat
  | .lit (.string bytes) => bytes.length + 1
  | .lit _ => 1
  | .nil => 1
  | .ptr d => uptoBulk d + 1
  | .slice elems spare => uptoBulkAll elems + uptoBulkAll spare + 1
  | .agg parts => uptoBulkAll parts + 1
  | .iface _ d => uptoBulk d + 1
  | .map entries => uptoBulkEntries entries + 1
  | .held _ => 1
def uptoBulkAll {H : Type} : List (DataW H) → Nat
  | [] => 0
  | d :: r => uptoBulk d + uptoBulkAll r
def uptoBulkEntries {H : Type} : List (Lit × DataW H) → Nat
  | [] => 0
  | x :: r => uptoBulkEntry x + uptoBulkEntries r
def uptoBulkEntry {H : Type} : Lit × DataW H → Nat
  | (.string bytes, d) => bytes.length + uptoBulk d + 1
  | (_, d) => uptoBulk d + 1
 end
def uptoSmall : (H : Type) → List (DataW H) → Bool := fun _ ds => decide (uptoBulkAll ds ≤ 1048576)
def OpenSpec.upto (s : _root_.Go.ChangeSpec) : _root_.Go.OpenSpec := { _root_.Go.OpenSpec.ofChange s with cond := some uptoSmall }

/-- 'quintadenalaw15.StarvingExactly', WHERE WHAT IT READS IS OF BULK AT MOST 1048576: true; the input reads as it did. -/
def starvingExactlyUptoRow : OpenClaim := { program := "ytpkbpeeelpgmcaa", sum := "2063d58f626c0155e7b3729653021d32aefe4700416e3a39803c9be53b4baa4f", func := "quintadena/quintadenalaw15.StarvingExactly", spec := "starvingExactly", unfollowed := true, recurses := true, plainKeys := false, apart := false, narrowed := true }
def StarvingExactlyUptoSaid : Prop := starvingExactlyUptoRow.holds Try.pinned (OpenSpec.upto starvingExactlySpec)

/-- 'quintadenalaw15.StarvingProves', WHERE WHAT IT READS IS OF BULK AT MOST 1048576: true; the input reads as it did. -/
def starvingProvesUptoRow : OpenClaim := { program := "ytpkbpeeelpgmcaa", sum := "2063d58f626c0155e7b3729653021d32aefe4700416e3a39803c9be53b4baa4f", func := "quintadena/quintadenalaw15.StarvingProves", spec := "starvingProves", unfollowed := true, recurses := true, plainKeys := false, apart := false, narrowed := true }
def StarvingProvesUptoSaid : Prop := starvingProvesUptoRow.holds Try.pinned (OpenSpec.upto starvingProvesSpec)

end Rows
end Go.Proofs.Ytpkbpeeelpgmcaa
