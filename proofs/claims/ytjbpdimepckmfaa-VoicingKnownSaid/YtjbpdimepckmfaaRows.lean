/-
  No cell of these rows narrows 'for every input' (looked for: loops, veiled, ifaces, maps, wideKeys, modest, calm, conditions, laid).
  DERIVED. THE GIVEN ROWS OF THIS SEAT. 9 by the template 'for every input the law returns true; each argument reads behind the call as it read before'; 0 by the template 'total and deterministic' (their statements: YtjbpdimepckmfaaTotals.lean).
  GIVEN WITH THE SEED: the statements are not yours to turn. If you find one false, say at which input.
  Laid BY PROGRAM, IN A SANDBOX (cutbox-rows.mjs): the forced cells as the released guide's own fill.sh prints them over the translation 0cbc5accbf10e8e5… (all of the seat's roots in one cut). By AI agents, Wed Nov 11 2026. No macro, syntax, notation, axiom, sorry.
-/
import Derived.Test.YtjbpdimepckmfaaChecked
import GoSem.Claim
import GoSem.ClaimJoined
import GoSem.ClaimMapViews
import Derived.JoinedTies
import Derived.KernelRfl
namespace Go.Proofs.Ytjbpdimepckmfaa
/- THE CELL 'sum', in the pinned program and in every row, IS THE sha256 OF THE DUMP (.gsa) THAT YtjbpdimepckmfaaProg.lean LOADS. Nothing in Lean hashes anything: it is a label: what it is worth is what the hold of that sum in a sandbox is worth. -/
noncomputable def Try.pinned : Pinned := { name := "ytjbpdimepckmfaa", sum := "0cbc5accbf10e8e5499d79fb860743b71cfc4ecf26ab23405c6378fbecd48aef", checked := Try.checked }
namespace Rows
def none {H : Type} : Left H := { results := [], args := [] }

/-- 'quintadenalaw27.VoicingSame': WHATEVER THE INPUT: true; the input reads as it did. -/
def voicingSameSpec : ChangeSpec := { name := "voicingSame", fn := fun _ => fun
  | [d1, d2, d3] => { results := [.lit (.bool true)], args := [d1, d2, d3] }
  | _ => none }
def voicingSameRow : OpenClaim := { program := "ytjbpdimepckmfaa", sum := "0cbc5accbf10e8e5499d79fb860743b71cfc4ecf26ab23405c6378fbecd48aef", func := "quintadena/quintadenalaw27.VoicingSame", spec := "voicingSame", unfollowed := true, recurses := true, plainKeys := false, apart := false }
def VoicingSameSaid : Prop := voicingSameRow.holds Try.pinned (OpenSpec.ofChange voicingSameSpec)

/-- ITS FALSE NEIGHBOUR: 'it returns false'. Refute it at one input. -/
def voicingSameWrong : ChangeSpec := { name := "voicingSame", fn := fun _ => fun
  | [d1, d2, d3] => { results := [.lit (.bool false)], args := [d1, d2, d3] }
  | _ => none }
def VoicingSameWrongFalsely : Prop := voicingSameRow.holds Try.pinned (OpenSpec.ofChange voicingSameWrong)

/-- 'quintadenalaw27.VoicingSums': WHATEVER THE INPUT: true; the input reads as it did. -/
def voicingSumsSpec : ChangeSpec := { name := "voicingSums", fn := fun _ => fun
  | [d] => { results := [.lit (.bool true)], args := [d] }
  | _ => none }
def voicingSumsRow : OpenClaim := { program := "ytjbpdimepckmfaa", sum := "0cbc5accbf10e8e5499d79fb860743b71cfc4ecf26ab23405c6378fbecd48aef", func := "quintadena/quintadenalaw27.VoicingSums", spec := "voicingSums", unfollowed := true, recurses := true, plainKeys := false, apart := false }
def VoicingSumsSaid : Prop := voicingSumsRow.holds Try.pinned (OpenSpec.ofChange voicingSumsSpec)

/-- ITS FALSE NEIGHBOUR: 'it returns false'. Refute it at one input. -/
def voicingSumsWrong : ChangeSpec := { name := "voicingSums", fn := fun _ => fun
  | [d] => { results := [.lit (.bool false)], args := [d] }
  | _ => none }
def VoicingSumsWrongFalsely : Prop := voicingSumsRow.holds Try.pinned (OpenSpec.ofChange voicingSumsWrong)

/-- 'quintadenalaw27.VoicingNext': WHATEVER THE INPUT: true; the input reads as it did. -/
def voicingNextSpec : ChangeSpec := { name := "voicingNext", fn := fun _ => fun
  | [d1, d2] => { results := [.lit (.bool true)], args := [d1, d2] }
  | _ => none }
def voicingNextRow : OpenClaim := { program := "ytjbpdimepckmfaa", sum := "0cbc5accbf10e8e5499d79fb860743b71cfc4ecf26ab23405c6378fbecd48aef", func := "quintadena/quintadenalaw27.VoicingNext", spec := "voicingNext", unfollowed := true, recurses := true, plainKeys := false, apart := false }
def VoicingNextSaid : Prop := voicingNextRow.holds Try.pinned (OpenSpec.ofChange voicingNextSpec)

/-- ITS FALSE NEIGHBOUR: 'it returns false'. Refute it at one input. -/
def voicingNextWrong : ChangeSpec := { name := "voicingNext", fn := fun _ => fun
  | [d1, d2] => { results := [.lit (.bool false)], args := [d1, d2] }
  | _ => none }
def VoicingNextWrongFalsely : Prop := voicingNextRow.holds Try.pinned (OpenSpec.ofChange voicingNextWrong)

/-- 'quintadenalaw27.VoicingStates': WHATEVER THE INPUT: true; the input reads as it did. -/
def voicingStatesSpec : ChangeSpec := { name := "voicingStates", fn := fun _ => fun
  | [d1, d2] => { results := [.lit (.bool true)], args := [d1, d2] }
  | _ => none }
def voicingStatesRow : OpenClaim := { program := "ytjbpdimepckmfaa", sum := "0cbc5accbf10e8e5499d79fb860743b71cfc4ecf26ab23405c6378fbecd48aef", func := "quintadena/quintadenalaw27.VoicingStates", spec := "voicingStates", unfollowed := true, recurses := true, plainKeys := false, apart := false }
def VoicingStatesSaid : Prop := voicingStatesRow.holds Try.pinned (OpenSpec.ofChange voicingStatesSpec)

/-- ITS FALSE NEIGHBOUR: 'it returns false'. Refute it at one input. -/
def voicingStatesWrong : ChangeSpec := { name := "voicingStates", fn := fun _ => fun
  | [d1, d2] => { results := [.lit (.bool false)], args := [d1, d2] }
  | _ => none }
def VoicingStatesWrongFalsely : Prop := voicingStatesRow.holds Try.pinned (OpenSpec.ofChange voicingStatesWrong)

/-- 'quintadenalaw27.VoicingUndo': WHATEVER THE INPUT: true; the input reads as it did. -/
def voicingUndoSpec : ChangeSpec := { name := "voicingUndo", fn := fun _ => fun
  | [d1, d2, d3] => { results := [.lit (.bool true)], args := [d1, d2, d3] }
  | _ => none }
def voicingUndoRow : OpenClaim := { program := "ytjbpdimepckmfaa", sum := "0cbc5accbf10e8e5499d79fb860743b71cfc4ecf26ab23405c6378fbecd48aef", func := "quintadena/quintadenalaw27.VoicingUndo", spec := "voicingUndo", unfollowed := true, recurses := true, plainKeys := false, apart := false }
def VoicingUndoSaid : Prop := voicingUndoRow.holds Try.pinned (OpenSpec.ofChange voicingUndoSpec)

/-- ITS FALSE NEIGHBOUR: 'it returns false'. Refute it at one input. -/
def voicingUndoWrong : ChangeSpec := { name := "voicingUndo", fn := fun _ => fun
  | [d1, d2, d3] => { results := [.lit (.bool false)], args := [d1, d2, d3] }
  | _ => none }
def VoicingUndoWrongFalsely : Prop := voicingUndoRow.holds Try.pinned (OpenSpec.ofChange voicingUndoWrong)

/-- 'quintadenalaw27.VoicingMerges': WHATEVER THE INPUT: true; the input reads as it did. -/
def voicingMergesSpec : ChangeSpec := { name := "voicingMerges", fn := fun _ => fun
  | [d1, d2, d3] => { results := [.lit (.bool true)], args := [d1, d2, d3] }
  | _ => none }
def voicingMergesRow : OpenClaim := { program := "ytjbpdimepckmfaa", sum := "0cbc5accbf10e8e5499d79fb860743b71cfc4ecf26ab23405c6378fbecd48aef", func := "quintadena/quintadenalaw27.VoicingMerges", spec := "voicingMerges", unfollowed := true, recurses := true, plainKeys := false, apart := false }
def VoicingMergesSaid : Prop := voicingMergesRow.holds Try.pinned (OpenSpec.ofChange voicingMergesSpec)

/-- ITS FALSE NEIGHBOUR: 'it returns false'. Refute it at one input. -/
def voicingMergesWrong : ChangeSpec := { name := "voicingMerges", fn := fun _ => fun
  | [d1, d2, d3] => { results := [.lit (.bool false)], args := [d1, d2, d3] }
  | _ => none }
def VoicingMergesWrongFalsely : Prop := voicingMergesRow.holds Try.pinned (OpenSpec.ofChange voicingMergesWrong)

/-- 'quintadenalaw27.VoicingFaults': WHATEVER THE INPUT: true; the input reads as it did. -/
def voicingFaultsSpec : ChangeSpec := { name := "voicingFaults", fn := fun _ => fun
  | [d1, d2] => { results := [.lit (.bool true)], args := [d1, d2] }
  | _ => none }
def voicingFaultsRow : OpenClaim := { program := "ytjbpdimepckmfaa", sum := "0cbc5accbf10e8e5499d79fb860743b71cfc4ecf26ab23405c6378fbecd48aef", func := "quintadena/quintadenalaw27.VoicingFaults", spec := "voicingFaults", unfollowed := true, recurses := true, plainKeys := false, apart := false }
def VoicingFaultsSaid : Prop := voicingFaultsRow.holds Try.pinned (OpenSpec.ofChange voicingFaultsSpec)

/-- ITS FALSE NEIGHBOUR: 'it returns false'. Refute it at one input. -/
def voicingFaultsWrong : ChangeSpec := { name := "voicingFaults", fn := fun _ => fun
  | [d1, d2] => { results := [.lit (.bool false)], args := [d1, d2] }
  | _ => none }
def VoicingFaultsWrongFalsely : Prop := voicingFaultsRow.holds Try.pinned (OpenSpec.ofChange voicingFaultsWrong)

/-- 'quintadenalaw27.VoicingLack': WHATEVER THE INPUT: true; the input reads as it did. -/
def voicingLackSpec : ChangeSpec := { name := "voicingLack", fn := fun _ => fun
  | [d1, d2] => { results := [.lit (.bool true)], args := [d1, d2] }
  | _ => none }
def voicingLackRow : OpenClaim := { program := "ytjbpdimepckmfaa", sum := "0cbc5accbf10e8e5499d79fb860743b71cfc4ecf26ab23405c6378fbecd48aef", func := "quintadena/quintadenalaw27.VoicingLack", spec := "voicingLack", unfollowed := true, recurses := true, plainKeys := false, apart := false }
def VoicingLackSaid : Prop := voicingLackRow.holds Try.pinned (OpenSpec.ofChange voicingLackSpec)

/-- ITS FALSE NEIGHBOUR: 'it returns false'. Refute it at one input. -/
def voicingLackWrong : ChangeSpec := { name := "voicingLack", fn := fun _ => fun
  | [d1, d2] => { results := [.lit (.bool false)], args := [d1, d2] }
  | _ => none }
def VoicingLackWrongFalsely : Prop := voicingLackRow.holds Try.pinned (OpenSpec.ofChange voicingLackWrong)

/-- 'quintadenalaw27.VoicingKnown': WHATEVER THE INPUT: true; the input reads as it did. -/
def voicingKnownSpec : ChangeSpec := { name := "voicingKnown", fn := fun _ => fun
  | [] => { results := [.lit (.bool true)], args := [] }
  | _ => none }
def voicingKnownRow : OpenClaim := { program := "ytjbpdimepckmfaa", sum := "0cbc5accbf10e8e5499d79fb860743b71cfc4ecf26ab23405c6378fbecd48aef", func := "quintadena/quintadenalaw27.VoicingKnown", spec := "voicingKnown", unfollowed := true, recurses := true, plainKeys := false, apart := false }
def VoicingKnownSaid : Prop := voicingKnownRow.holds Try.pinned (OpenSpec.ofChange voicingKnownSpec)

/-- ITS FALSE NEIGHBOUR: 'it returns false'. Refute it at one input. -/
def voicingKnownWrong : ChangeSpec := { name := "voicingKnown", fn := fun _ => fun
  | [] => { results := [.lit (.bool false)], args := [] }
  | _ => none }
def VoicingKnownWrongFalsely : Prop := voicingKnownRow.holds Try.pinned (OpenSpec.ofChange voicingKnownWrong)

/- THE SECOND FORM. 'bulk': how many values and letters a reading holds, each counted each time it is reached (what is shared counts as often as it is met; a slice's spare places count too). A statement '..UptoSaid' is the law's where the arguments, and the package variables that the reading takes, are together of bulk at most 1048576: NARROWER than '..Said'. Prove '..Said' where nothing that the law and all that it calls make is longer than what came in: it says more and counts as full. Else prove '..UptoSaid'. A law counts once. -/
mutual
def uptoBulk {H : Type} : DataW H → Nat
  | .lit (.string bytes) => bytes.length + 1
  | .lit _ => 1
  | .nil => 1
  | .ptr d => uptoBulk d + 1
  | .slice elems spare => uptoBulkAll elems + uptoBulkAll spare + 1
  | .agg parts => uptoBulkAll parts + 1
  | .iface _ d => uptoBulk d + 1
  | .map entries => uptoBulkEntries entries + 1
  | .held _ => 1
def uptoBulkAll {H : Type} : List (DataW H) → Nat
  | [] => 0
  | d :: r => uptoBulk d + uptoBulkAll r
def uptoBulkEntries {H : Type} : List (Lit × DataW H) → Nat
  | [] => 0
  | x :: r => uptoBulkEntry x + uptoBulkEntries r
def uptoBulkEntry {H : Type} : Lit × DataW H → Nat
  | (.string bytes, d) => bytes.length + uptoBulk d + 1
  | (_, d) => uptoBulk d + 1
 end
def uptoSmall : (H : Type) → List (DataW H) → Bool := fun _ ds => decide (uptoBulkAll ds ≤ 1048576)
def OpenSpec.upto (s : _root_.Go.ChangeSpec) : _root_.Go.OpenSpec := { _root_.Go.OpenSpec.ofChange s with cond := some uptoSmall }

/-- 'quintadenalaw27.VoicingSame', WHERE WHAT IT READS IS OF BULK AT MOST 1048576: true; the input reads as it did. -/
def voicingSameUptoRow : OpenClaim := { program := "ytjbpdimepckmfaa", sum := "0cbc5accbf10e8e5499d79fb860743b71cfc4ecf26ab23405c6378fbecd48aef", func := "quintadena/quintadenalaw27.VoicingSame", spec := "voicingSame", unfollowed := true, recurses := true, plainKeys := false, apart := false, narrowed := true }
def VoicingSameUptoSaid : Prop := voicingSameUptoRow.holds Try.pinned (OpenSpec.upto voicingSameSpec)

/-- 'quintadenalaw27.VoicingSums', WHERE WHAT IT READS IS OF BULK AT MOST 1048576: true; the input reads as it did. -/
def voicingSumsUptoRow : OpenClaim := { program := "ytjbpdimepckmfaa", sum := "0cbc5accbf10e8e5499d79fb860743b71cfc4ecf26ab23405c6378fbecd48aef", func := "quintadena/quintadenalaw27.VoicingSums", spec := "voicingSums", unfollowed := true, recurses := true, plainKeys := false, apart := false, narrowed := true }
def VoicingSumsUptoSaid : Prop := voicingSumsUptoRow.holds Try.pinned (OpenSpec.upto voicingSumsSpec)

/-- 'quintadenalaw27.VoicingNext', WHERE WHAT IT READS IS OF BULK AT MOST 1048576: true; the input reads as it did. -/
def voicingNextUptoRow : OpenClaim := { program := "ytjbpdimepckmfaa", sum := "0cbc5accbf10e8e5499d79fb860743b71cfc4ecf26ab23405c6378fbecd48aef", func := "quintadena/quintadenalaw27.VoicingNext", spec := "voicingNext", unfollowed := true, recurses := true, plainKeys := false, apart := false, narrowed := true }
def VoicingNextUptoSaid : Prop := voicingNextUptoRow.holds Try.pinned (OpenSpec.upto voicingNextSpec)

/-- 'quintadenalaw27.VoicingStates', WHERE WHAT IT READS IS OF BULK AT MOST 1048576: true; the input reads as it did. -/
def voicingStatesUptoRow : OpenClaim := { program := "ytjbpdimepckmfaa", sum := "0cbc5accbf10e8e5499d79fb860743b71cfc4ecf26ab23405c6378fbecd48aef", func := "quintadena/quintadenalaw27.VoicingStates", spec := "voicingStates", unfollowed := true, recurses := true, plainKeys := false, apart := false, narrowed := true }
def VoicingStatesUptoSaid : Prop := voicingStatesUptoRow.holds Try.pinned (OpenSpec.upto voicingStatesSpec)

/-- 'quintadenalaw27.VoicingUndo', WHERE WHAT IT READS IS OF BULK AT MOST 1048576: true; the input reads as it did. -/
def voicingUndoUptoRow : OpenClaim := { program := "ytjbpdimepckmfaa", sum := "0cbc5accbf10e8e5499d79fb860743b71cfc4ecf26ab23405c6378fbecd48aef", func := "quintadena/quintadenalaw27.VoicingUndo", spec := "voicingUndo", unfollowed := true, recurses := true, plainKeys := false, apart := false, narrowed := true }
def VoicingUndoUptoSaid : Prop := voicingUndoUptoRow.holds Try.pinned (OpenSpec.upto voicingUndoSpec)

/-- 'quintadenalaw27.VoicingMerges', WHERE WHAT IT READS IS OF BULK AT MOST 1048576: true; the input reads as it did. -/
def voicingMergesUptoRow : OpenClaim := { program := "ytjbpdimepckmfaa", sum := "0cbc5accbf10e8e5499d79fb860743b71cfc4ecf26ab23405c6378fbecd48aef", func := "quintadena/quintadenalaw27.VoicingMerges", spec := "voicingMerges", unfollowed := true, recurses := true, plainKeys := false, apart := false, narrowed := true }
def VoicingMergesUptoSaid : Prop := voicingMergesUptoRow.holds Try.pinned (OpenSpec.upto voicingMergesSpec)

/-- 'quintadenalaw27.VoicingFaults', WHERE WHAT IT READS IS OF BULK AT MOST 1048576: true; the input reads as it did. -/
def voicingFaultsUptoRow : OpenClaim := { program := "ytjbpdimepckmfaa", sum := "0cbc5accbf10e8e5499d79fb860743b71cfc4ecf26ab23405c6378fbecd48aef", func := "quintadena/quintadenalaw27.VoicingFaults", spec := "voicingFaults", unfollowed := true, recurses := true, plainKeys := false, apart := false, narrowed := true }
def VoicingFaultsUptoSaid : Prop := voicingFaultsUptoRow.holds Try.pinned (OpenSpec.upto voicingFaultsSpec)

/-- 'quintadenalaw27.VoicingLack', WHERE WHAT IT READS IS OF BULK AT MOST 1048576: true; the input reads as it did. -/
def voicingLackUptoRow : OpenClaim := { program := "ytjbpdimepckmfaa", sum := "0cbc5accbf10e8e5499d79fb860743b71cfc4ecf26ab23405c6378fbecd48aef", func := "quintadena/quintadenalaw27.VoicingLack", spec := "voicingLack", unfollowed := true, recurses := true, plainKeys := false, apart := false, narrowed := true }
def VoicingLackUptoSaid : Prop := voicingLackUptoRow.holds Try.pinned (OpenSpec.upto voicingLackSpec)

/-- 'quintadenalaw27.VoicingKnown', WHERE WHAT IT READS IS OF BULK AT MOST 1048576: true; the input reads as it did. -/
def voicingKnownUptoRow : OpenClaim := { program := "ytjbpdimepckmfaa", sum := "0cbc5accbf10e8e5499d79fb860743b71cfc4ecf26ab23405c6378fbecd48aef", func := "quintadena/quintadenalaw27.VoicingKnown", spec := "voicingKnown", unfollowed := true, recurses := true, plainKeys := false, apart := false, narrowed := true }
def VoicingKnownUptoSaid : Prop := voicingKnownUptoRow.holds Try.pinned (OpenSpec.upto voicingKnownSpec)

end Rows
end Go.Proofs.Ytjbpdimepckmfaa
