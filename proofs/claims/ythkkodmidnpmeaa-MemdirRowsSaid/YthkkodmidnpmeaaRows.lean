/-
  No cell of these rows narrows 'for every input' (looked for: loops, veiled, ifaces, maps, wideKeys, modest, calm, conditions, laid).
  DERIVED. THE GIVEN ROWS OF THIS SEAT. 4 by the template 'for every input the law returns true; each argument reads behind the call as it read before'; 0 by the template 'total and deterministic' (their statements: YthkkodmidnpmeaaTotals.lean).
  GIVEN WITH THE SEED: the statements are not yours to turn. If you find one false, say at which input.
  Laid BY PROGRAM, IN A SANDBOX (cutbox-rows.mjs): the forced cells as the released guide's own fill.sh prints them over the translation f1c2e08f3cab55a4… (all of the seat's roots in one cut). By AI agents, Wed Nov 11 2026. No macro, syntax, notation, axiom, sorry.
-/
import Derived.Test.YthkkodmidnpmeaaChecked
import GoSem.Claim
import GoSem.ClaimJoined
import GoSem.ClaimMapViews
import Derived.JoinedTies
import Derived.KernelRfl
namespace Go.Proofs.Ythkkodmidnpmeaa
/- THE CELL 'sum', in the pinned program and in every row, IS THE sha256 OF THE DUMP (.gsa) THAT YthkkodmidnpmeaaProg.lean LOADS. Nothing in Lean hashes anything: it is a label: what it is worth is what the hold of that sum in a sandbox is worth. -/
noncomputable def Try.pinned : Pinned := { name := "ythkkodmidnpmeaa", sum := "f1c2e08f3cab55a400ba328fd3156d7a8ec2b6a85cf8236b29177f6901d72c9f", checked := Try.checked }
namespace Rows
def none {H : Type} : Left H := { results := [], args := [] }

/-- 'chapletlaw09.MemdirParts': WHATEVER THE INPUT: true; the input reads as it did. -/
def memdirPartsSpec : ChangeSpec := { name := "memdirParts", fn := fun _ => fun
  | [d] => { results := [.lit (.bool true)], args := [d] }
  | _ => none }
def memdirPartsRow : OpenClaim := { program := "ythkkodmidnpmeaa", sum := "f1c2e08f3cab55a400ba328fd3156d7a8ec2b6a85cf8236b29177f6901d72c9f", func := "chaplet/chapletlaw09.MemdirParts", spec := "memdirParts", apart := false }
def MemdirPartsSaid : Prop := memdirPartsRow.holds Try.pinned (OpenSpec.ofChange memdirPartsSpec)

/-- ITS FALSE NEIGHBOUR: 'it returns false'. Refute it at one input. -/
def memdirPartsWrong : ChangeSpec := { name := "memdirParts", fn := fun _ => fun
  | [d] => { results := [.lit (.bool false)], args := [d] }
  | _ => none }
def MemdirPartsWrongFalsely : Prop := memdirPartsRow.holds Try.pinned (OpenSpec.ofChange memdirPartsWrong)

/-- 'chapletlaw09.MemdirErrors': WHATEVER THE INPUT: true; the input reads as it did. -/
def memdirErrorsSpec : ChangeSpec := { name := "memdirErrors", fn := fun _ => fun
  | [d1, d2] => { results := [.lit (.bool true)], args := [d1, d2] }
  | _ => none }
def memdirErrorsRow : OpenClaim := { program := "ythkkodmidnpmeaa", sum := "f1c2e08f3cab55a400ba328fd3156d7a8ec2b6a85cf8236b29177f6901d72c9f", func := "chaplet/chapletlaw09.MemdirErrors", spec := "memdirErrors", apart := false }
def MemdirErrorsSaid : Prop := memdirErrorsRow.holds Try.pinned (OpenSpec.ofChange memdirErrorsSpec)

/-- ITS FALSE NEIGHBOUR: 'it returns false'. Refute it at one input. -/
def memdirErrorsWrong : ChangeSpec := { name := "memdirErrors", fn := fun _ => fun
  | [d1, d2] => { results := [.lit (.bool false)], args := [d1, d2] }
  | _ => none }
def MemdirErrorsWrongFalsely : Prop := memdirErrorsRow.holds Try.pinned (OpenSpec.ofChange memdirErrorsWrong)

/-- 'chapletlaw09.MemdirPlays': WHATEVER THE INPUT: true; the input reads as it did. -/
def memdirPlaysSpec : ChangeSpec := { name := "memdirPlays", fn := fun _ => fun
  | [d1, d2, d3, d4, d5, d6, d7] => { results := [.lit (.bool true)], args := [d1, d2, d3, d4, d5, d6, d7] }
  | _ => none }
def memdirPlaysRow : OpenClaim := { program := "ythkkodmidnpmeaa", sum := "f1c2e08f3cab55a400ba328fd3156d7a8ec2b6a85cf8236b29177f6901d72c9f", func := "chaplet/chapletlaw09.MemdirPlays", spec := "memdirPlays", apart := false }
def MemdirPlaysSaid : Prop := memdirPlaysRow.holds Try.pinned (OpenSpec.ofChange memdirPlaysSpec)

/-- ITS FALSE NEIGHBOUR: 'it returns false'. Refute it at one input. -/
def memdirPlaysWrong : ChangeSpec := { name := "memdirPlays", fn := fun _ => fun
  | [d1, d2, d3, d4, d5, d6, d7] => { results := [.lit (.bool false)], args := [d1, d2, d3, d4, d5, d6, d7] }
  | _ => none }
def MemdirPlaysWrongFalsely : Prop := memdirPlaysRow.holds Try.pinned (OpenSpec.ofChange memdirPlaysWrong)

/-- 'chapletlaw09.MemdirRows': WHATEVER THE INPUT: true; the input reads as it did. -/
def memdirRowsSpec : ChangeSpec := { name := "memdirRows", fn := fun _ => fun
  | [d1, d2] => { results := [.lit (.bool true)], args := [d1, d2] }
  | _ => none }
def memdirRowsRow : OpenClaim := { program := "ythkkodmidnpmeaa", sum := "f1c2e08f3cab55a400ba328fd3156d7a8ec2b6a85cf8236b29177f6901d72c9f", func := "chaplet/chapletlaw09.MemdirRows", spec := "memdirRows", apart := false }
def MemdirRowsSaid : Prop := memdirRowsRow.holds Try.pinned (OpenSpec.ofChange memdirRowsSpec)

/-- ITS FALSE NEIGHBOUR: 'it returns false'. Refute it at one input. -/
def memdirRowsWrong : ChangeSpec := { name := "memdirRows", fn := fun _ => fun
  | [d1, d2] => { results := [.lit (.bool false)], args := [d1, d2] }
  | _ => none }
def MemdirRowsWrongFalsely : Prop := memdirRowsRow.holds Try.pinned (OpenSpec.ofChange memdirRowsWrong)

/- THE SECOND FORM. 'bulk': how many values and letters a reading holds, each counted each time it is reached (what is shared counts as often as it is met; a slice's spare places count too). A statement '..UptoSaid' is the law's where the arguments, and the package variables that the reading takes, are together of bulk at most 1048576: NARROWER than '..Said'. Prove '..Said' where nothing that the law and all that it calls make is longer than what came in: it says more and counts as full. Else prove '..UptoSaid'. A law counts once. -/
mutual
def uptoBulk {H : Type} : DataW H → Nat
  | .lit (.string bytes) => bytes.length + 1
  | .lit _ => 1
  | .nil => 1
  | .ptr d => uptoBulk d + 1
  | .slice elems spare => uptoBulkAll elems + uptoBulkAll spare + 1
  | .agg parts => uptoBulkAll parts + 1
  | .iface _ d => uptoBulk d + 1
  | .map entries => uptoBulkEntries entries + 1
  | .held _ => 1
def uptoBulkAll {H : Type} : List (DataW H) → Nat
  | [] => 0
  | d :: r => uptoBulk d + uptoBulkAll r
def uptoBulkEntries {H : Type} : List (Lit × DataW H) → Nat
  | [] => 0
  | x :: r => uptoBulkEntry x + uptoBulkEntries r
def uptoBulkEntry {H : Type} : Lit × DataW H → Nat
  | (.string bytes, d) => bytes.length + uptoBulk d + 1
  | (_, d) => uptoBulk d + 1
 end
def uptoSmall : (H : Type) → List (DataW H) → Bool := fun _ ds => decide (uptoBulkAll ds ≤ 1048576)
def OpenSpec.upto (s : _root_.Go.ChangeSpec) : _root_.Go.OpenSpec := { _root_.Go.OpenSpec.ofChange s with cond := some uptoSmall }

/-- 'chapletlaw09.MemdirParts', WHERE WHAT IT READS IS OF BULK AT MOST 1048576: true; the input reads as it did. -/
def memdirPartsUptoRow : OpenClaim := { program := "ythkkodmidnpmeaa", sum := "f1c2e08f3cab55a400ba328fd3156d7a8ec2b6a85cf8236b29177f6901d72c9f", func := "chaplet/chapletlaw09.MemdirParts", spec := "memdirParts", apart := false, narrowed := true }
def MemdirPartsUptoSaid : Prop := memdirPartsUptoRow.holds Try.pinned (OpenSpec.upto memdirPartsSpec)

/-- 'chapletlaw09.MemdirErrors', WHERE WHAT IT READS IS OF BULK AT MOST 1048576: true; the input reads as it did. -/
def memdirErrorsUptoRow : OpenClaim := { program := "ythkkodmidnpmeaa", sum := "f1c2e08f3cab55a400ba328fd3156d7a8ec2b6a85cf8236b29177f6901d72c9f", func := "chaplet/chapletlaw09.MemdirErrors", spec := "memdirErrors", apart := false, narrowed := true }
def MemdirErrorsUptoSaid : Prop := memdirErrorsUptoRow.holds Try.pinned (OpenSpec.upto memdirErrorsSpec)

/-- 'chapletlaw09.MemdirPlays', WHERE WHAT IT READS IS OF BULK AT MOST 1048576: true; the input reads as it did. -/
def memdirPlaysUptoRow : OpenClaim := { program := "ythkkodmidnpmeaa", sum := "f1c2e08f3cab55a400ba328fd3156d7a8ec2b6a85cf8236b29177f6901d72c9f", func := "chaplet/chapletlaw09.MemdirPlays", spec := "memdirPlays", apart := false, narrowed := true }
def MemdirPlaysUptoSaid : Prop := memdirPlaysUptoRow.holds Try.pinned (OpenSpec.upto memdirPlaysSpec)

/-- 'chapletlaw09.MemdirRows', WHERE WHAT IT READS IS OF BULK AT MOST 1048576: true; the input reads as it did. -/
def memdirRowsUptoRow : OpenClaim := { program := "ythkkodmidnpmeaa", sum := "f1c2e08f3cab55a400ba328fd3156d7a8ec2b6a85cf8236b29177f6901d72c9f", func := "chaplet/chapletlaw09.MemdirRows", spec := "memdirRows", apart := false, narrowed := true }
def MemdirRowsUptoSaid : Prop := memdirRowsUptoRow.holds Try.pinned (OpenSpec.upto memdirRowsSpec)

end Rows
end Go.Proofs.Ythkkodmidnpmeaa
