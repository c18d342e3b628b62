/-
  No cell of these rows narrows 'for every input' (looked for: loops, veiled, ifaces, maps, wideKeys, modest, calm, conditions, laid).
  DERIVED. THE GIVEN ROWS OF THIS SEAT. 6 by the template 'for every input the law returns true; each argument reads behind the call as it read before'; 0 by the template 'total and deterministic' (their statements: YtdfbpdbfiffpbaaTotals.lean).
  GIVEN WITH THE SEED: the statements are not yours to turn. If you find one false, say at which input.
  Laid BY PROGRAM, IN A SANDBOX (cutbox-rows.mjs): the forced cells as the released guide's own fill.sh prints them over the translation 47b82e64cd98a56a… (all of the seat's roots in one cut). By AI agents, Wed Nov 11 2026. No macro, syntax, notation, axiom, sorry.
-/
import Derived.Test.YtdfbpdbfiffpbaaChecked
import GoSem.Claim
import GoSem.ClaimJoined
import GoSem.ClaimMapViews
import Derived.JoinedTies
import Derived.KernelRfl
namespace Go.Proofs.Ytdfbpdbfiffpbaa
/- THE CELL 'sum', in the pinned program and in every row, IS THE sha256 OF THE DUMP (.gsa) THAT YtdfbpdbfiffpbaaProg.lean LOADS. Nothing in Lean hashes anything: it is a label: what it is worth is what the hold of that sum in a sandbox is worth. -/
noncomputable def Try.pinned : Pinned := { name := "ytdfbpdbfiffpbaa", sum := "47b82e64cd98a56aeb0d6cf1a4c6c2ef71ecc543c06b359a9ae8d1da20d35764", checked := Try.checked }
namespace Rows
def none {H : Type} : Left H := { results := [], args := [] }

/-- 'chapletlaw02.PlanEdges': WHATEVER THE INPUT: true; the input reads as it did. -/
def planEdgesSpec : ChangeSpec := { name := "planEdges", fn := fun _ => fun
  | [d1, d2] => { results := [.lit (.bool true)], args := [d1, d2] }
  | _ => none }
def planEdgesRow : OpenClaim := { program := "ytdfbpdbfiffpbaa", sum := "47b82e64cd98a56aeb0d6cf1a4c6c2ef71ecc543c06b359a9ae8d1da20d35764", func := "chaplet/chapletlaw02.PlanEdges", spec := "planEdges", plainKeys := false, apart := false }
def PlanEdgesSaid : Prop := planEdgesRow.holds Try.pinned (OpenSpec.ofChange planEdgesSpec)

/-- ITS FALSE NEIGHBOUR: 'it returns false'. Refute it at one input. -/
def planEdgesWrong : ChangeSpec := { name := "planEdges", fn := fun _ => fun
  | [d1, d2] => { results := [.lit (.bool false)], args := [d1, d2] }
  | _ => none }
def PlanEdgesWrongFalsely : Prop := planEdgesRow.holds Try.pinned (OpenSpec.ofChange planEdgesWrong)

/-- 'chapletlaw02.PlanChecks': WHATEVER THE INPUT: true; the input reads as it did. -/
def planChecksSpec : ChangeSpec := { name := "planChecks", fn := fun _ => fun
  | [d1, d2, d3, d4] => { results := [.lit (.bool true)], args := [d1, d2, d3, d4] }
  | _ => none }
def planChecksRow : OpenClaim := { program := "ytdfbpdbfiffpbaa", sum := "47b82e64cd98a56aeb0d6cf1a4c6c2ef71ecc543c06b359a9ae8d1da20d35764", func := "chaplet/chapletlaw02.PlanChecks", spec := "planChecks", plainKeys := false, apart := false }
def PlanChecksSaid : Prop := planChecksRow.holds Try.pinned (OpenSpec.ofChange planChecksSpec)

/-- ITS FALSE NEIGHBOUR: 'it returns false'. Refute it at one input. -/
def planChecksWrong : ChangeSpec := { name := "planChecks", fn := fun _ => fun
  | [d1, d2, d3, d4] => { results := [.lit (.bool false)], args := [d1, d2, d3, d4] }
  | _ => none }
def PlanChecksWrongFalsely : Prop := planChecksRow.holds Try.pinned (OpenSpec.ofChange planChecksWrong)

/-- 'chapletlaw02.PlanLines': WHATEVER THE INPUT: true; the input reads as it did. -/
def planLinesSpec : ChangeSpec := { name := "planLines", fn := fun _ => fun
  | [d1, d2] => { results := [.lit (.bool true)], args := [d1, d2] }
  | _ => none }
def planLinesRow : OpenClaim := { program := "ytdfbpdbfiffpbaa", sum := "47b82e64cd98a56aeb0d6cf1a4c6c2ef71ecc543c06b359a9ae8d1da20d35764", func := "chaplet/chapletlaw02.PlanLines", spec := "planLines", plainKeys := false, apart := false }
def PlanLinesSaid : Prop := planLinesRow.holds Try.pinned (OpenSpec.ofChange planLinesSpec)

/-- ITS FALSE NEIGHBOUR: 'it returns false'. Refute it at one input. -/
def planLinesWrong : ChangeSpec := { name := "planLines", fn := fun _ => fun
  | [d1, d2] => { results := [.lit (.bool false)], args := [d1, d2] }
  | _ => none }
def PlanLinesWrongFalsely : Prop := planLinesRow.holds Try.pinned (OpenSpec.ofChange planLinesWrong)

/-- 'chapletlaw02.PlanApart': WHATEVER THE INPUT: true; the input reads as it did. -/
def planApartSpec : ChangeSpec := { name := "planApart", fn := fun _ => fun
  | [d] => { results := [.lit (.bool true)], args := [d] }
  | _ => none }
def planApartRow : OpenClaim := { program := "ytdfbpdbfiffpbaa", sum := "47b82e64cd98a56aeb0d6cf1a4c6c2ef71ecc543c06b359a9ae8d1da20d35764", func := "chaplet/chapletlaw02.PlanApart", spec := "planApart", plainKeys := false, apart := false }
def PlanApartSaid : Prop := planApartRow.holds Try.pinned (OpenSpec.ofChange planApartSpec)

/-- ITS FALSE NEIGHBOUR: 'it returns false'. Refute it at one input. -/
def planApartWrong : ChangeSpec := { name := "planApart", fn := fun _ => fun
  | [d] => { results := [.lit (.bool false)], args := [d] }
  | _ => none }
def PlanApartWrongFalsely : Prop := planApartRow.holds Try.pinned (OpenSpec.ofChange planApartWrong)

/-- 'chapletlaw02.PlanPrograms': WHATEVER THE INPUT: true; the input reads as it did. -/
def planProgramsSpec : ChangeSpec := { name := "planPrograms", fn := fun _ => fun
  | [d1, d2] => { results := [.lit (.bool true)], args := [d1, d2] }
  | _ => none }
def planProgramsRow : OpenClaim := { program := "ytdfbpdbfiffpbaa", sum := "47b82e64cd98a56aeb0d6cf1a4c6c2ef71ecc543c06b359a9ae8d1da20d35764", func := "chaplet/chapletlaw02.PlanPrograms", spec := "planPrograms", unfollowed := true, recurses := true, plainKeys := false, apart := false }
def PlanProgramsSaid : Prop := planProgramsRow.holds Try.pinned (OpenSpec.ofChange planProgramsSpec)

/-- ITS FALSE NEIGHBOUR: 'it returns false'. Refute it at one input. -/
def planProgramsWrong : ChangeSpec := { name := "planPrograms", fn := fun _ => fun
  | [d1, d2] => { results := [.lit (.bool false)], args := [d1, d2] }
  | _ => none }
def PlanProgramsWrongFalsely : Prop := planProgramsRow.holds Try.pinned (OpenSpec.ofChange planProgramsWrong)

/-- 'chapletlaw02.PlanTells': WHATEVER THE INPUT: true; the input reads as it did. -/
def planTellsSpec : ChangeSpec := { name := "planTells", fn := fun _ => fun
  | [d1, d2, d3, d4, d5, d6, d7] => { results := [.lit (.bool true)], args := [d1, d2, d3, d4, d5, d6, d7] }
  | _ => none }
def planTellsRow : OpenClaim := { program := "ytdfbpdbfiffpbaa", sum := "47b82e64cd98a56aeb0d6cf1a4c6c2ef71ecc543c06b359a9ae8d1da20d35764", func := "chaplet/chapletlaw02.PlanTells", spec := "planTells", unfollowed := true, recurses := true, plainKeys := false, apart := false }
def PlanTellsSaid : Prop := planTellsRow.holds Try.pinned (OpenSpec.ofChange planTellsSpec)

/-- ITS FALSE NEIGHBOUR: 'it returns false'. Refute it at one input. -/
def planTellsWrong : ChangeSpec := { name := "planTells", fn := fun _ => fun
  | [d1, d2, d3, d4, d5, d6, d7] => { results := [.lit (.bool false)], args := [d1, d2, d3, d4, d5, d6, d7] }
  | _ => none }
def PlanTellsWrongFalsely : Prop := planTellsRow.holds Try.pinned (OpenSpec.ofChange planTellsWrong)

/- THE SECOND FORM. 'bulk': how many values and letters a reading holds, each counted each time it is reached (what is shared counts as often as it is met; a slice's spare places count too). A statement '..UptoSaid' is the law's where the arguments, and the package variables that the reading takes, are together of bulk at most 1048576: NARROWER than '..Said'. Prove '..Said' where nothing that the law and all that it calls make is longer than what came in: it says more and counts as full. Else prove '..UptoSaid'. A law counts once. -/
mutual
def uptoBulk {H : Type} : DataW H → Nat
  | .lit (.string bytes) => bytes.length + 1
  | .lit _ => 1
  | .nil => 1
  | .ptr d => uptoBulk d + 1
  | .slice elems spare => uptoBulkAll elems + uptoBulkAll spare + 1
  | .agg parts => uptoBulkAll parts + 1
  | .iface _ d => uptoBulk d + 1
  | .map entries => uptoBulkEntries entries + 1
  | .held _ => 1
def uptoBulkAll {H : Type} : List (DataW H) → Nat
  | [] => 0
  | d :: r => uptoBulk d + uptoBulkAll r
def uptoBulkEntries {H : Type} : List (Lit × DataW H) → Nat
  | [] => 0
  | x :: r => uptoBulkEntry x + uptoBulkEntries r
def uptoBulkEntry {H : Type} : Lit × DataW H → Nat
  | (.string bytes, d) => bytes.length + uptoBulk d + 1
  | (_, d) => uptoBulk d + 1
 end
def uptoSmall : (H : Type) → List (DataW H) → Bool := fun _ ds => decide (uptoBulkAll ds ≤ 1048576)
def OpenSpec.upto (s : _root_.Go.ChangeSpec) : _root_.Go.OpenSpec := { _root_.Go.OpenSpec.ofChange s with cond := some uptoSmall }

/-- 'chapletlaw02.PlanEdges', WHERE WHAT IT READS IS OF BULK AT MOST 1048576: true; the input reads as it did. -/
def planEdgesUptoRow : OpenClaim := { program := "ytdfbpdbfiffpbaa", sum := "47b82e64cd98a56aeb0d6cf1a4c6c2ef71ecc543c06b359a9ae8d1da20d35764", func := "chaplet/chapletlaw02.PlanEdges", spec := "planEdges", plainKeys := false, apart := false, narrowed := true }
def PlanEdgesUptoSaid : Prop := planEdgesUptoRow.holds Try.pinned (OpenSpec.upto planEdgesSpec)

/-- 'chapletlaw02.PlanChecks', WHERE WHAT IT READS IS OF BULK AT MOST 1048576: true; the input reads as it did. -/
def planChecksUptoRow : OpenClaim := { program := "ytdfbpdbfiffpbaa", sum := "47b82e64cd98a56aeb0d6cf1a4c6c2ef71ecc543c06b359a9ae8d1da20d35764", func := "chaplet/chapletlaw02.PlanChecks", spec := "planChecks", plainKeys := false, apart := false, narrowed := true }
def PlanChecksUptoSaid : Prop := planChecksUptoRow.holds Try.pinned (OpenSpec.upto planChecksSpec)

/-- 'chapletlaw02.PlanLines', WHERE WHAT IT READS IS OF BULK AT MOST 1048576: true; the input reads as it did. -/
def planLinesUptoRow : OpenClaim := { program := "ytdfbpdbfiffpbaa", sum := "47b82e64cd98a56aeb0d6cf1a4c6c2ef71ecc543c06b359a9ae8d1da20d35764", func := "chaplet/chapletlaw02.PlanLines", spec := "planLines", plainKeys := false, apart := false, narrowed := true }
def PlanLinesUptoSaid : Prop := planLinesUptoRow.holds Try.pinned (OpenSpec.upto planLinesSpec)

/-- 'chapletlaw02.PlanApart', WHERE WHAT IT READS IS OF BULK AT MOST 1048576: true; the input reads as it did. -/
def planApartUptoRow : OpenClaim := { program := "ytdfbpdbfiffpbaa", sum := "47b82e64cd98a56aeb0d6cf1a4c6c2ef71ecc543c06b359a9ae8d1da20d35764", func := "chaplet/chapletlaw02.PlanApart", spec := "planApart", plainKeys := false, apart := false, narrowed := true }
def PlanApartUptoSaid : Prop := planApartUptoRow.holds Try.pinned (OpenSpec.upto planApartSpec)

/-- 'chapletlaw02.PlanPrograms', WHERE WHAT IT READS IS OF BULK AT MOST 1048576: true; the input reads as it did. -/
def planProgramsUptoRow : OpenClaim := { program := "ytdfbpdbfiffpbaa", sum := "47b82e64cd98a56aeb0d6cf1a4c6c2ef71ecc543c06b359a9ae8d1da20d35764", func := "chaplet/chapletlaw02.PlanPrograms", spec := "planPrograms", unfollowed := true, recurses := true, plainKeys := false, apart := false, narrowed := true }
def PlanProgramsUptoSaid : Prop := planProgramsUptoRow.holds Try.pinned (OpenSpec.upto planProgramsSpec)

/-- 'chapletlaw02.PlanTells', WHERE WHAT IT READS IS OF BULK AT MOST 1048576: true; the input reads as it did. -/
def planTellsUptoRow : OpenClaim := { program := "ytdfbpdbfiffpbaa", sum := "47b82e64cd98a56aeb0d6cf1a4c6c2ef71ecc543c06b359a9ae8d1da20d35764", func := "chaplet/chapletlaw02.PlanTells", spec := "planTells", unfollowed := true, recurses := true, plainKeys := false, apart := false, narrowed := true }
def PlanTellsUptoSaid : Prop := planTellsUptoRow.holds Try.pinned (OpenSpec.upto planTellsSpec)

end Rows
end Go.Proofs.Ytdfbpdbfiffpbaa
