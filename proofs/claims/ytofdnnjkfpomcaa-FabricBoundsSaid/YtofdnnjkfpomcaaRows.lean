/-
  No cell of these rows narrows 'for every input' (looked for: loops, veiled, ifaces, maps, wideKeys, modest, calm, conditions, laid).
  DERIVED. THE GIVEN ROWS OF THIS SEAT. 5 by the template 'for every input the law returns true; each argument reads behind the call as it read before'; 0 by the template 'total and deterministic' (their statements: YtofdnnjkfpomcaaTotals.lean).
  GIVEN WITH THE SEED: the statements are not yours to turn. If you find one false, say at which input.
  Laid BY PROGRAM, IN A SANDBOX (cutbox-rows.mjs): the forced cells as the released guide's own fill.sh prints them over the translation 7ae4e8d05b6bcab5… (all of the seat's roots in one cut). By AI agents, Wed Nov 11 2026. No macro, syntax, notation, axiom, sorry.
-/
import Derived.Test.YtofdnnjkfpomcaaChecked
import GoSem.Claim
import GoSem.ClaimJoined
import GoSem.ClaimMapViews
import Derived.JoinedTies
import Derived.KernelRfl
namespace Go.Proofs.Ytofdnnjkfpomcaa
/- THE CELL 'sum', in the pinned program and in every row, IS THE sha256 OF THE DUMP (.gsa) THAT YtofdnnjkfpomcaaProg.lean LOADS. Nothing in Lean hashes anything: it is a label: what it is worth is what the hold of that sum in a sandbox is worth. -/
noncomputable def Try.pinned : Pinned := { name := "ytofdnnjkfpomcaa", sum := "7ae4e8d05b6bcab5176cd5e30054127bccdb779ba4d8203c17c7029d38d3c10a", checked := Try.checked }
namespace Rows
def none {H : Type} : Left H := { results := [], args := [] }

/-- 'chapletlaw06.FabricOrder': WHATEVER THE INPUT: true; the input reads as it did. -/
def fabricOrderSpec : ChangeSpec := { name := "fabricOrder", fn := fun _ => fun
  | [d1, d2] => { results := [.lit (.bool true)], args := [d1, d2] }
  | _ => none }
def fabricOrderRow : OpenClaim := { program := "ytofdnnjkfpomcaa", sum := "7ae4e8d05b6bcab5176cd5e30054127bccdb779ba4d8203c17c7029d38d3c10a", func := "chaplet/chapletlaw06.FabricOrder", spec := "fabricOrder", unfollowed := true, recurses := true, apart := false }
def FabricOrderSaid : Prop := fabricOrderRow.holds Try.pinned (OpenSpec.ofChange fabricOrderSpec)

/-- ITS FALSE NEIGHBOUR: 'it returns false'. Refute it at one input. -/
def fabricOrderWrong : ChangeSpec := { name := "fabricOrder", fn := fun _ => fun
  | [d1, d2] => { results := [.lit (.bool false)], args := [d1, d2] }
  | _ => none }
def FabricOrderWrongFalsely : Prop := fabricOrderRow.holds Try.pinned (OpenSpec.ofChange fabricOrderWrong)

/-- 'chapletlaw06.FabricFull': WHATEVER THE INPUT: true; the input reads as it did. -/
def fabricFullSpec : ChangeSpec := { name := "fabricFull", fn := fun _ => fun
  | [d1, d2, d3] => { results := [.lit (.bool true)], args := [d1, d2, d3] }
  | _ => none }
def fabricFullRow : OpenClaim := { program := "ytofdnnjkfpomcaa", sum := "7ae4e8d05b6bcab5176cd5e30054127bccdb779ba4d8203c17c7029d38d3c10a", func := "chaplet/chapletlaw06.FabricFull", spec := "fabricFull", unfollowed := true, recurses := true, apart := false }
def FabricFullSaid : Prop := fabricFullRow.holds Try.pinned (OpenSpec.ofChange fabricFullSpec)

/-- ITS FALSE NEIGHBOUR: 'it returns false'. Refute it at one input. -/
def fabricFullWrong : ChangeSpec := { name := "fabricFull", fn := fun _ => fun
  | [d1, d2, d3] => { results := [.lit (.bool false)], args := [d1, d2, d3] }
  | _ => none }
def FabricFullWrongFalsely : Prop := fabricFullRow.holds Try.pinned (OpenSpec.ofChange fabricFullWrong)

/-- 'chapletlaw06.FabricWay': WHATEVER THE INPUT: true; the input reads as it did. -/
def fabricWaySpec : ChangeSpec := { name := "fabricWay", fn := fun _ => fun
  | [d1, d2, d3, d4] => { results := [.lit (.bool true)], args := [d1, d2, d3, d4] }
  | _ => none }
def fabricWayRow : OpenClaim := { program := "ytofdnnjkfpomcaa", sum := "7ae4e8d05b6bcab5176cd5e30054127bccdb779ba4d8203c17c7029d38d3c10a", func := "chaplet/chapletlaw06.FabricWay", spec := "fabricWay", unfollowed := true, recurses := true, apart := false }
def FabricWaySaid : Prop := fabricWayRow.holds Try.pinned (OpenSpec.ofChange fabricWaySpec)

/-- ITS FALSE NEIGHBOUR: 'it returns false'. Refute it at one input. -/
def fabricWayWrong : ChangeSpec := { name := "fabricWay", fn := fun _ => fun
  | [d1, d2, d3, d4] => { results := [.lit (.bool false)], args := [d1, d2, d3, d4] }
  | _ => none }
def FabricWayWrongFalsely : Prop := fabricWayRow.holds Try.pinned (OpenSpec.ofChange fabricWayWrong)

/-- 'chapletlaw06.FabricPlays': WHATEVER THE INPUT: true; the input reads as it did. -/
def fabricPlaysSpec : ChangeSpec := { name := "fabricPlays", fn := fun _ => fun
  | [d1, d2] => { results := [.lit (.bool true)], args := [d1, d2] }
  | _ => none }
def fabricPlaysRow : OpenClaim := { program := "ytofdnnjkfpomcaa", sum := "7ae4e8d05b6bcab5176cd5e30054127bccdb779ba4d8203c17c7029d38d3c10a", func := "chaplet/chapletlaw06.FabricPlays", spec := "fabricPlays", unfollowed := true, recurses := true, apart := false }
def FabricPlaysSaid : Prop := fabricPlaysRow.holds Try.pinned (OpenSpec.ofChange fabricPlaysSpec)

/-- ITS FALSE NEIGHBOUR: 'it returns false'. Refute it at one input. -/
def fabricPlaysWrong : ChangeSpec := { name := "fabricPlays", fn := fun _ => fun
  | [d1, d2] => { results := [.lit (.bool false)], args := [d1, d2] }
  | _ => none }
def FabricPlaysWrongFalsely : Prop := fabricPlaysRow.holds Try.pinned (OpenSpec.ofChange fabricPlaysWrong)

/-- 'chapletlaw06.FabricBounds': WHATEVER THE INPUT: true; the input reads as it did. -/
def fabricBoundsSpec : ChangeSpec := { name := "fabricBounds", fn := fun _ => fun
  | [d1, d2] => { results := [.lit (.bool true)], args := [d1, d2] }
  | _ => none }
def fabricBoundsRow : OpenClaim := { program := "ytofdnnjkfpomcaa", sum := "7ae4e8d05b6bcab5176cd5e30054127bccdb779ba4d8203c17c7029d38d3c10a", func := "chaplet/chapletlaw06.FabricBounds", spec := "fabricBounds", unfollowed := true, recurses := true, apart := false }
def FabricBoundsSaid : Prop := fabricBoundsRow.holds Try.pinned (OpenSpec.ofChange fabricBoundsSpec)

/-- ITS FALSE NEIGHBOUR: 'it returns false'. Refute it at one input. -/
def fabricBoundsWrong : ChangeSpec := { name := "fabricBounds", fn := fun _ => fun
  | [d1, d2] => { results := [.lit (.bool false)], args := [d1, d2] }
  | _ => none }
def FabricBoundsWrongFalsely : Prop := fabricBoundsRow.holds Try.pinned (OpenSpec.ofChange fabricBoundsWrong)

/- THE SECOND FORM. 'bulk': how many values and letters a reading holds, each counted each time it is reached (what is shared counts as often as it is met; a slice's spare places count too). A statement '..UptoSaid' is the law's where the arguments, and the package variables that the reading takes, are together of bulk at most 1048576: NARROWER than '..Said'. Prove '..Said' where nothing that the law and all that it calls make is longer than what came in: it says more and counts as full. Else prove '..UptoSaid'. A law counts once. -/
mutual
def uptoBulk {H : Type} : DataW H → Nat
  | .lit (.string bytes) => bytes.length + 1
  | .lit _ => 1
  | .nil => 1
  | .ptr d => uptoBulk d + 1
  | .slice elems spare => uptoBulkAll elems + uptoBulkAll spare + 1
  | .agg parts => uptoBulkAll parts + 1
  | .iface _ d => uptoBulk d + 1
  | .map entries => uptoBulkEntries entries + 1
  | .held _ => 1
def uptoBulkAll {H : Type} : List (DataW H) → Nat
  | [] => 0
  | d :: r => uptoBulk d + uptoBulkAll r
def uptoBulkEntries {H : Type} : List (Lit × DataW H) → Nat
  | [] => 0
  | x :: r => uptoBulkEntry x + uptoBulkEntries r
def uptoBulkEntry {H : Type} : Lit × DataW H → Nat
  | (.string bytes, d) => bytes.length + uptoBulk d + 1
  | (_, d) => uptoBulk d + 1
 end
def uptoSmall : (H : Type) → List (DataW H) → Bool := fun _ ds => decide (uptoBulkAll ds ≤ 1048576)
def OpenSpec.upto (s : _root_.Go.ChangeSpec) : _root_.Go.OpenSpec := { _root_.Go.OpenSpec.ofChange s with cond := some uptoSmall }

/-- 'chapletlaw06.FabricOrder', WHERE WHAT IT READS IS OF BULK AT MOST 1048576: true; the input reads as it did. -/
def fabricOrderUptoRow : OpenClaim := { program := "ytofdnnjkfpomcaa", sum := "7ae4e8d05b6bcab5176cd5e30054127bccdb779ba4d8203c17c7029d38d3c10a", func := "chaplet/chapletlaw06.FabricOrder", spec := "fabricOrder", unfollowed := true, recurses := true, apart := false, narrowed := true }
def FabricOrderUptoSaid : Prop := fabricOrderUptoRow.holds Try.pinned (OpenSpec.upto fabricOrderSpec)

/-- 'chapletlaw06.FabricFull', WHERE WHAT IT READS IS OF BULK AT MOST 1048576: true; the input reads as it did. -/
def fabricFullUptoRow : OpenClaim := { program := "ytofdnnjkfpomcaa", sum := "7ae4e8d05b6bcab5176cd5e30054127bccdb779ba4d8203c17c7029d38d3c10a", func := "chaplet/chapletlaw06.FabricFull", spec := "fabricFull", unfollowed := true, recurses := true, apart := false, narrowed := true }
def FabricFullUptoSaid : Prop := fabricFullUptoRow.holds Try.pinned (OpenSpec.upto fabricFullSpec)

/-- 'chapletlaw06.FabricWay', WHERE WHAT IT READS IS OF BULK AT MOST 1048576: true; the input reads as it did. -/
def fabricWayUptoRow : OpenClaim := { program := "ytofdnnjkfpomcaa", sum := "7ae4e8d05b6bcab5176cd5e30054127bccdb779ba4d8203c17c7029d38d3c10a", func := "chaplet/chapletlaw06.FabricWay", spec := "fabricWay", unfollowed := true, recurses := true, apart := false, narrowed := true }
def FabricWayUptoSaid : Prop := fabricWayUptoRow.holds Try.pinned (OpenSpec.upto fabricWaySpec)

/-- 'chapletlaw06.FabricPlays', WHERE WHAT IT READS IS OF BULK AT MOST 1048576: true; the input reads as it did. -/
def fabricPlaysUptoRow : OpenClaim := { program := "ytofdnnjkfpomcaa", sum := "7ae4e8d05b6bcab5176cd5e30054127bccdb779ba4d8203c17c7029d38d3c10a", func := "chaplet/chapletlaw06.FabricPlays", spec := "fabricPlays", unfollowed := true, recurses := true, apart := false, narrowed := true }
def FabricPlaysUptoSaid : Prop := fabricPlaysUptoRow.holds Try.pinned (OpenSpec.upto fabricPlaysSpec)

/-- 'chapletlaw06.FabricBounds', WHERE WHAT IT READS IS OF BULK AT MOST 1048576: true; the input reads as it did. -/
def fabricBoundsUptoRow : OpenClaim := { program := "ytofdnnjkfpomcaa", sum := "7ae4e8d05b6bcab5176cd5e30054127bccdb779ba4d8203c17c7029d38d3c10a", func := "chaplet/chapletlaw06.FabricBounds", spec := "fabricBounds", unfollowed := true, recurses := true, apart := false, narrowed := true }
def FabricBoundsUptoSaid : Prop := fabricBoundsUptoRow.holds Try.pinned (OpenSpec.upto fabricBoundsSpec)

end Rows
end Go.Proofs.Ytofdnnjkfpomcaa
