/-
  No cell of these rows narrows 'for every input' (looked for: loops, veiled, ifaces, maps, wideKeys, modest, calm, conditions, laid).
  DERIVED. THE GIVEN ROWS OF THIS SEAT. 4 by the template 'for every input the law returns true; each argument reads behind the call as it read before'; 0 by the template 'total and deterministic' (their statements: YtfoookmblfcmhaaTotals.lean).
  GIVEN WITH THE SEED: the statements are not yours to turn. If you find one false, say at which input.
  Laid BY PROGRAM, IN A SANDBOX (cutbox-rows.mjs): the forced cells as the released guide's own fill.sh prints them over the translation 427867232f66de8e… (all of the seat's roots in one cut). By AI agents, Wed Nov 11 2026. No macro, syntax, notation, axiom, sorry.
-/
import Derived.Test.YtfoookmblfcmhaaChecked
import GoSem.Claim
import GoSem.ClaimJoined
import GoSem.ClaimMapViews
import Derived.JoinedTies
import Derived.KernelRfl
namespace Go.Proofs.Ytfoookmblfcmhaa
/- THE CELL 'sum', in the pinned program and in every row, IS THE sha256 OF THE DUMP (.gsa) THAT YtfoookmblfcmhaaProg.lean LOADS. Nothing in Lean hashes anything: it is a label: what it is worth is what the hold of that sum in a sandbox is worth. -/
noncomputable def Try.pinned : Pinned := { name := "ytfoookmblfcmhaa", sum := "427867232f66de8e4c6aa9ad49951ca1b2e1bf72671b749ea0eabce71dd76d07", checked := Try.checked }
namespace Rows
def none {H : Type} : Left H := { results := [], args := [] }

/-- 'chapletlaw23.AtomicParts': WHATEVER THE INPUT: true; the input reads as it did. -/
def atomicPartsSpec : ChangeSpec := { name := "atomicParts", fn := fun _ => fun
  | [d1, d2, d3, d4] => { results := [.lit (.bool true)], args := [d1, d2, d3, d4] }
  | _ => none }
def atomicPartsRow : OpenClaim := { program := "ytfoookmblfcmhaa", sum := "427867232f66de8e4c6aa9ad49951ca1b2e1bf72671b749ea0eabce71dd76d07", func := "chaplet/chapletlaw23.AtomicParts", spec := "atomicParts", unfollowed := true, recurses := true, apart := false }
def AtomicPartsSaid : Prop := atomicPartsRow.holds Try.pinned (OpenSpec.ofChange atomicPartsSpec)

/-- ITS FALSE NEIGHBOUR: 'it returns false'. Refute it at one input. -/
def atomicPartsWrong : ChangeSpec := { name := "atomicParts", fn := fun _ => fun
  | [d1, d2, d3, d4] => { results := [.lit (.bool false)], args := [d1, d2, d3, d4] }
  | _ => none }
def AtomicPartsWrongFalsely : Prop := atomicPartsRow.holds Try.pinned (OpenSpec.ofChange atomicPartsWrong)

/-- 'chapletlaw23.AtomicDoes': WHATEVER THE INPUT: true; the input reads as it did. -/
def atomicDoesSpec : ChangeSpec := { name := "atomicDoes", fn := fun _ => fun
  | [d1, d2, d3, d4] => { results := [.lit (.bool true)], args := [d1, d2, d3, d4] }
  | _ => none }
def atomicDoesRow : OpenClaim := { program := "ytfoookmblfcmhaa", sum := "427867232f66de8e4c6aa9ad49951ca1b2e1bf72671b749ea0eabce71dd76d07", func := "chaplet/chapletlaw23.AtomicDoes", spec := "atomicDoes", unfollowed := true, recurses := true, apart := false }
def AtomicDoesSaid : Prop := atomicDoesRow.holds Try.pinned (OpenSpec.ofChange atomicDoesSpec)

/-- ITS FALSE NEIGHBOUR: 'it returns false'. Refute it at one input. -/
def atomicDoesWrong : ChangeSpec := { name := "atomicDoes", fn := fun _ => fun
  | [d1, d2, d3, d4] => { results := [.lit (.bool false)], args := [d1, d2, d3, d4] }
  | _ => none }
def AtomicDoesWrongFalsely : Prop := atomicDoesRow.holds Try.pinned (OpenSpec.ofChange atomicDoesWrong)

/-- 'chapletlaw23.AtomicReads': WHATEVER THE INPUT: true; the input reads as it did. -/
def atomicReadsSpec : ChangeSpec := { name := "atomicReads", fn := fun _ => fun
  | [d1, d2, d3] => { results := [.lit (.bool true)], args := [d1, d2, d3] }
  | _ => none }
def atomicReadsRow : OpenClaim := { program := "ytfoookmblfcmhaa", sum := "427867232f66de8e4c6aa9ad49951ca1b2e1bf72671b749ea0eabce71dd76d07", func := "chaplet/chapletlaw23.AtomicReads", spec := "atomicReads", unfollowed := true, recurses := true, apart := false }
def AtomicReadsSaid : Prop := atomicReadsRow.holds Try.pinned (OpenSpec.ofChange atomicReadsSpec)

/-- ITS FALSE NEIGHBOUR: 'it returns false'. Refute it at one input. -/
def atomicReadsWrong : ChangeSpec := { name := "atomicReads", fn := fun _ => fun
  | [d1, d2, d3] => { results := [.lit (.bool false)], args := [d1, d2, d3] }
  | _ => none }
def AtomicReadsWrongFalsely : Prop := atomicReadsRow.holds Try.pinned (OpenSpec.ofChange atomicReadsWrong)

/-- 'chapletlaw23.AtomicOrders': WHATEVER THE INPUT: true; the input reads as it did. -/
def atomicOrdersSpec : ChangeSpec := { name := "atomicOrders", fn := fun _ => fun
  | [d1, d2, d3] => { results := [.lit (.bool true)], args := [d1, d2, d3] }
  | _ => none }
def atomicOrdersRow : OpenClaim := { program := "ytfoookmblfcmhaa", sum := "427867232f66de8e4c6aa9ad49951ca1b2e1bf72671b749ea0eabce71dd76d07", func := "chaplet/chapletlaw23.AtomicOrders", spec := "atomicOrders", unfollowed := true, recurses := true, apart := false }
def AtomicOrdersSaid : Prop := atomicOrdersRow.holds Try.pinned (OpenSpec.ofChange atomicOrdersSpec)

/-- ITS FALSE NEIGHBOUR: 'it returns false'. Refute it at one input. -/
def atomicOrdersWrong : ChangeSpec := { name := "atomicOrders", fn := fun _ => fun
  | [d1, d2, d3] => { results := [.lit (.bool false)], args := [d1, d2, d3] }
  | _ => none }
def AtomicOrdersWrongFalsely : Prop := atomicOrdersRow.holds Try.pinned (OpenSpec.ofChange atomicOrdersWrong)

/- THE SECOND FORM. 'bulk': how many values and letters a reading holds, each counted each time it is reached (what is shared counts as often as it is met; a slice's spare places count too). A statement '..UptoSaid' is the law's where the arguments, and the package variables that the reading takes, are together of bulk at most 1048576: NARROWER than '..Said'. Prove '..Said' where nothing that the law and all that it calls make is longer than what came in: it says more and counts as full. Else prove '..UptoSaid'. A law counts once. -/
mutual
def uptoBulk {H : Type} : DataW H → Nat
  | .lit (.string bytes) => bytes.length + 1
  | .lit _ => 1
  | .nil => 1
  | .ptr d => uptoBulk d + 1
  | .slice elems spare => uptoBulkAll elems + uptoBulkAll spare + 1
  | .agg parts => uptoBulkAll parts + 1
  | .iface _ d => uptoBulk d + 1
  | .map entries => uptoBulkEntries entries + 1
  | .held _ => 1
def uptoBulkAll {H : Type} : List (DataW H) → Nat
  | [] => 0
  | d :: r => uptoBulk d + uptoBulkAll r
def uptoBulkEntries {H : Type} : List (Lit × DataW H) → Nat
  | [] => 0
  | x :: r => uptoBulkEntry x + uptoBulkEntries r
def uptoBulkEntry {H : Type} : Lit × DataW H → Nat
  | (.string bytes, d) => bytes.length + uptoBulk d + 1
  | (_, d) => uptoBulk d + 1
 end
def uptoSmall : (H : Type) → List (DataW H) → Bool := fun _ ds => decide (uptoBulkAll ds ≤ 1048576)
def OpenSpec.upto (s : _root_.Go.ChangeSpec) : _root_.Go.OpenSpec := { _root_.Go.OpenSpec.ofChange s with cond := some uptoSmall }

/-- 'chapletlaw23.AtomicParts', WHERE WHAT IT READS IS OF BULK AT MOST 1048576: true; the input reads as it did. -/
def atomicPartsUptoRow : OpenClaim := { program := "ytfoookmblfcmhaa", sum := "427867232f66de8e4c6aa9ad49951ca1b2e1bf72671b749ea0eabce71dd76d07", func := "chaplet/chapletlaw23.AtomicParts", spec := "atomicParts", unfollowed := true, recurses := true, apart := false, narrowed := true }
def AtomicPartsUptoSaid : Prop := atomicPartsUptoRow.holds Try.pinned (OpenSpec.upto atomicPartsSpec)

/-- 'chapletlaw23.AtomicDoes', WHERE WHAT IT READS IS OF BULK AT MOST 1048576: true; the input reads as it did. -/
def atomicDoesUptoRow : OpenClaim := { program := "ytfoookmblfcmhaa", sum := "427867232f66de8e4c6aa9ad49951ca1b2e1bf72671b749ea0eabce71dd76d07", func := "chaplet/chapletlaw23.AtomicDoes", spec := "atomicDoes", unfollowed := true, recurses := true, apart := false, narrowed := true }
def AtomicDoesUptoSaid : Prop := atomicDoesUptoRow.holds Try.pinned (OpenSpec.upto atomicDoesSpec)

/-- 'chapletlaw23.AtomicReads', WHERE WHAT IT READS IS OF BULK AT MOST 1048576: true; the input reads as it did. -/
def atomicReadsUptoRow : OpenClaim := { program := "ytfoookmblfcmhaa", sum := "427867232f66de8e4c6aa9ad49951ca1b2e1bf72671b749ea0eabce71dd76d07", func := "chaplet/chapletlaw23.AtomicReads", spec := "atomicReads", unfollowed := true, recurses := true, apart := false, narrowed := true }
def AtomicReadsUptoSaid : Prop := atomicReadsUptoRow.holds Try.pinned (OpenSpec.upto atomicReadsSpec)

/-- 'chapletlaw23.AtomicOrders', WHERE WHAT IT READS IS OF BULK AT MOST 1048576: true; the input reads as it did. -/
def atomicOrdersUptoRow : OpenClaim := { program := "ytfoookmblfcmhaa", sum := "427867232f66de8e4c6aa9ad49951ca1b2e1bf72671b749ea0eabce71dd76d07", func := "chaplet/chapletlaw23.AtomicOrders", spec := "atomicOrders", unfollowed := true, recurses := true, apart := false, narrowed := true }
def AtomicOrdersUptoSaid : Prop := atomicOrdersUptoRow.holds Try.pinned (OpenSpec.upto atomicOrdersSpec)

end Rows
end Go.Proofs.Ytfoookmblfcmhaa
