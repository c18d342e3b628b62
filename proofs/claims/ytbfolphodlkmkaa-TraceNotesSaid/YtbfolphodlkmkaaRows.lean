/-
  No cell of these rows narrows 'for every input' (looked for: loops, veiled, ifaces, maps, wideKeys, modest, calm, conditions, laid).
  DERIVED. THE GIVEN ROWS OF THIS SEAT. 4 by the template 'for every input the law returns true; each argument reads behind the call as it read before'; 0 by the template 'total and deterministic' (their statements: YtbfolphodlkmkaaTotals.lean).
  GIVEN WITH THE SEED: the statements are not yours to turn. If you find one false, say at which input.
  Laid BY PROGRAM, IN A SANDBOX (cutbox-rows.mjs): the forced cells as the released guide's own fill.sh prints them over the translation 9a114e79e0592182… (all of the seat's roots in one cut). By AI agents, Wed Nov 11 2026. No macro, syntax, notation, axiom, sorry.
-/
import Derived.Test.YtbfolphodlkmkaaChecked
import GoSem.Claim
import GoSem.ClaimJoined
import GoSem.ClaimMapViews
import Derived.JoinedTies
import Derived.KernelRfl
namespace Go.Proofs.Ytbfolphodlkmkaa
/- THE CELL 'sum', in the pinned program and in every row, IS THE sha256 OF THE DUMP (.gsa) THAT YtbfolphodlkmkaaProg.lean LOADS. Nothing in Lean hashes anything: it is a label: what it is worth is what the hold of that sum in a sandbox is worth. -/
noncomputable def Try.pinned : Pinned := { name := "ytbfolphodlkmkaa", sum := "9a114e79e0592182a47d47d00320d4b88de2826b4b37d1f091dd687bcea5c9a9", checked := Try.checked }
namespace Rows
def none {H : Type} : Left H := { results := [], args := [] }

/-- 'chapletlaw19.TraceCuts': WHATEVER THE INPUT: true; the input reads as it did. -/
def traceCutsSpec : ChangeSpec := { name := "traceCuts", fn := fun _ => fun
  | [d1, d2, d3] => { results := [.lit (.bool true)], args := [d1, d2, d3] }
  | _ => none }
def traceCutsRow : OpenClaim := { program := "ytbfolphodlkmkaa", sum := "9a114e79e0592182a47d47d00320d4b88de2826b4b37d1f091dd687bcea5c9a9", func := "chaplet/chapletlaw19.TraceCuts", spec := "traceCuts", apart := false }
def TraceCutsSaid : Prop := traceCutsRow.holds Try.pinned (OpenSpec.ofChange traceCutsSpec)

/-- ITS FALSE NEIGHBOUR: 'it returns false'. Refute it at one input. -/
def traceCutsWrong : ChangeSpec := { name := "traceCuts", fn := fun _ => fun
  | [d1, d2, d3] => { results := [.lit (.bool false)], args := [d1, d2, d3] }
  | _ => none }
def TraceCutsWrongFalsely : Prop := traceCutsRow.holds Try.pinned (OpenSpec.ofChange traceCutsWrong)

/-- 'chapletlaw19.TraceForms': WHATEVER THE INPUT: true; the input reads as it did. -/
def traceFormsSpec : ChangeSpec := { name := "traceForms", fn := fun _ => fun
  | [d1, d2] => { results := [.lit (.bool true)], args := [d1, d2] }
  | _ => none }
def traceFormsRow : OpenClaim := { program := "ytbfolphodlkmkaa", sum := "9a114e79e0592182a47d47d00320d4b88de2826b4b37d1f091dd687bcea5c9a9", func := "chaplet/chapletlaw19.TraceForms", spec := "traceForms", apart := false }
def TraceFormsSaid : Prop := traceFormsRow.holds Try.pinned (OpenSpec.ofChange traceFormsSpec)

/-- ITS FALSE NEIGHBOUR: 'it returns false'. Refute it at one input. -/
def traceFormsWrong : ChangeSpec := { name := "traceForms", fn := fun _ => fun
  | [d1, d2] => { results := [.lit (.bool false)], args := [d1, d2] }
  | _ => none }
def TraceFormsWrongFalsely : Prop := traceFormsRow.holds Try.pinned (OpenSpec.ofChange traceFormsWrong)

/-- 'chapletlaw19.TraceNotes': WHATEVER THE INPUT: true; the input reads as it did. -/
def traceNotesSpec : ChangeSpec := { name := "traceNotes", fn := fun _ => fun
  | [d1, d2, d3] => { results := [.lit (.bool true)], args := [d1, d2, d3] }
  | _ => none }
def traceNotesRow : OpenClaim := { program := "ytbfolphodlkmkaa", sum := "9a114e79e0592182a47d47d00320d4b88de2826b4b37d1f091dd687bcea5c9a9", func := "chaplet/chapletlaw19.TraceNotes", spec := "traceNotes", apart := false }
def TraceNotesSaid : Prop := traceNotesRow.holds Try.pinned (OpenSpec.ofChange traceNotesSpec)

/-- ITS FALSE NEIGHBOUR: 'it returns false'. Refute it at one input. -/
def traceNotesWrong : ChangeSpec := { name := "traceNotes", fn := fun _ => fun
  | [d1, d2, d3] => { results := [.lit (.bool false)], args := [d1, d2, d3] }
  | _ => none }
def TraceNotesWrongFalsely : Prop := traceNotesRow.holds Try.pinned (OpenSpec.ofChange traceNotesWrong)

/-- 'chapletlaw19.TraceOwn': WHATEVER THE INPUT: true; the input reads as it did. -/
def traceOwnSpec : ChangeSpec := { name := "traceOwn", fn := fun _ => fun
  | [d1, d2] => { results := [.lit (.bool true)], args := [d1, d2] }
  | _ => none }
def traceOwnRow : OpenClaim := { program := "ytbfolphodlkmkaa", sum := "9a114e79e0592182a47d47d00320d4b88de2826b4b37d1f091dd687bcea5c9a9", func := "chaplet/chapletlaw19.TraceOwn", spec := "traceOwn", apart := false }
def TraceOwnSaid : Prop := traceOwnRow.holds Try.pinned (OpenSpec.ofChange traceOwnSpec)

/-- ITS FALSE NEIGHBOUR: 'it returns false'. Refute it at one input. -/
def traceOwnWrong : ChangeSpec := { name := "traceOwn", fn := fun _ => fun
  | [d1, d2] => { results := [.lit (.bool false)], args := [d1, d2] }
  | _ => none }
def TraceOwnWrongFalsely : Prop := traceOwnRow.holds Try.pinned (OpenSpec.ofChange traceOwnWrong)

/- THE SECOND FORM. 'bulk': how many values and letters a reading holds, each counted each time it is reached (what is shared counts as often as it is met; a slice's spare places count too). A statement '..UptoSaid' is the law's where the arguments, and the package variables that the reading takes, are together of bulk at most 1048576: NARROWER than '..Said'. Prove '..Said' where nothing that the law and all that it calls make is longer than what came in: it says more and counts as full. Else prove '..UptoSaid'. A law counts once. -/
mutual
def uptoBulk {H : Type} : DataW H → Nat
  | .lit (.string bytes) => bytes.length + 1
  | .lit _ => 1
  | .nil => 1
  | .ptr d => uptoBulk d + 1
  | .slice elems spare => uptoBulkAll elems + uptoBulkAll spare + 1
  | .agg parts => uptoBulkAll parts + 1
  | .iface _ d => uptoBulk d + 1
  | .map entries => uptoBulkEntries entries + 1
  | .held _ => 1
def uptoBulkAll {H : Type} : List (DataW H) → Nat
  | [] => 0
  | d :: r => uptoBulk d + uptoBulkAll r
def uptoBulkEntries {H : Type} : List (Lit × DataW H) → Nat
  | [] => 0
  | x :: r => uptoBulkEntry x + uptoBulkEntries r
def uptoBulkEntry {H : Type} : Lit × DataW H → Nat
  | (.string bytes, d) => bytes.length + uptoBulk d + 1
  | (_, d) => uptoBulk d + 1
 end
def uptoSmall : (H : Type) → List (DataW H) → Bool := fun _ ds => decide (uptoBulkAll ds ≤ 1048576)
def OpenSpec.upto (s : _root_.Go.ChangeSpec) : _root_.Go.OpenSpec := { _root_.Go.OpenSpec.ofChange s with cond := some uptoSmall }

/-- 'chapletlaw19.TraceCuts', WHERE WHAT IT READS IS OF BULK AT MOST 1048576: true; the input reads as it did. -/
def traceCutsUptoRow : OpenClaim := { program := "ytbfolphodlkmkaa", sum := "9a114e79e0592182a47d47d00320d4b88de2826b4b37d1f091dd687bcea5c9a9", func := "chaplet/chapletlaw19.TraceCuts", spec := "traceCuts", apart := false, narrowed := true }
def TraceCutsUptoSaid : Prop := traceCutsUptoRow.holds Try.pinned (OpenSpec.upto traceCutsSpec)

/-- 'chapletlaw19.TraceForms', WHERE WHAT IT READS IS OF BULK AT MOST 1048576: true; the input reads as it did. -/
def traceFormsUptoRow : OpenClaim := { program := "ytbfolphodlkmkaa", sum := "9a114e79e0592182a47d47d00320d4b88de2826b4b37d1f091dd687bcea5c9a9", func := "chaplet/chapletlaw19.TraceForms", spec := "traceForms", apart := false, narrowed := true }
def TraceFormsUptoSaid : Prop := traceFormsUptoRow.holds Try.pinned (OpenSpec.upto traceFormsSpec)

/-- 'chapletlaw19.TraceNotes', WHERE WHAT IT READS IS OF BULK AT MOST 1048576: true; the input reads as it did. -/
def traceNotesUptoRow : OpenClaim := { program := "ytbfolphodlkmkaa", sum := "9a114e79e0592182a47d47d00320d4b88de2826b4b37d1f091dd687bcea5c9a9", func := "chaplet/chapletlaw19.TraceNotes", spec := "traceNotes", apart := false, narrowed := true }
def TraceNotesUptoSaid : Prop := traceNotesUptoRow.holds Try.pinned (OpenSpec.upto traceNotesSpec)

/-- 'chapletlaw19.TraceOwn', WHERE WHAT IT READS IS OF BULK AT MOST 1048576: true; the input reads as it did. -/
def traceOwnUptoRow : OpenClaim := { program := "ytbfolphodlkmkaa", sum := "9a114e79e0592182a47d47d00320d4b88de2826b4b37d1f091dd687bcea5c9a9", func := "chaplet/chapletlaw19.TraceOwn", spec := "traceOwn", apart := false, narrowed := true }
def TraceOwnUptoSaid : Prop := traceOwnUptoRow.holds Try.pinned (OpenSpec.upto traceOwnSpec)

end Rows
end Go.Proofs.Ytbfolphodlkmkaa
