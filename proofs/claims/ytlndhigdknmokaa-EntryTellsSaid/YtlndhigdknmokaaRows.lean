/-
  No cell of these rows narrows 'for every input' (looked for: loops, veiled, ifaces, maps, wideKeys, modest, calm, conditions, laid).
  DERIVED. THE GIVEN ROWS OF THIS SEAT. 4 by the template 'for every input the law returns true; each argument reads behind the call as it read before'; 0 by the template 'total and deterministic' (their statements: YtlndhigdknmokaaTotals.lean).
  GIVEN WITH THE SEED: the statements are not yours to turn. If you find one false, say at which input.
  Laid BY PROGRAM, IN A SANDBOX (cutbox-rows.mjs): the forced cells as the released guide's own fill.sh prints them over the translation 784aa4fb494e2216… (all of the seat's roots in one cut). By AI agents, Wed Nov 11 2026. No macro, syntax, notation, axiom, sorry.
-/
import Derived.Test.YtlndhigdknmokaaChecked
import GoSem.Claim
import GoSem.ClaimJoined
import GoSem.ClaimMapViews
import Derived.JoinedTies
import Derived.KernelRfl
namespace Go.Proofs.Ytlndhigdknmokaa
/- THE CELL 'sum', in the pinned program and in every row, IS THE sha256 OF THE DUMP (.gsa) THAT YtlndhigdknmokaaProg.lean LOADS. Nothing in Lean hashes anything: it is a label: what it is worth is what the hold of that sum in a sandbox is worth. -/
noncomputable def Try.pinned : Pinned := { name := "ytlndhigdknmokaa", sum := "784aa4fb494e22164b761380bcc250580770fe32a012b688db8d6313d3c78cbf", checked := Try.checked }
namespace Rows
def none {H : Type} : Left H := { results := [], args := [] }

/-- 'chapletlaw07.EntryLinks': WHATEVER THE INPUT: true; the input reads as it did. -/
def entryLinksSpec : ChangeSpec := { name := "entryLinks", fn := fun _ => fun
  | [d] => { results := [.lit (.bool true)], args := [d] }
  | _ => none }
def entryLinksRow : OpenClaim := { program := "ytlndhigdknmokaa", sum := "784aa4fb494e22164b761380bcc250580770fe32a012b688db8d6313d3c78cbf", func := "chaplet/chapletlaw07.EntryLinks", spec := "entryLinks", apart := false }
def EntryLinksSaid : Prop := entryLinksRow.holds Try.pinned (OpenSpec.ofChange entryLinksSpec)

/-- ITS FALSE NEIGHBOUR: 'it returns false'. Refute it at one input. -/
def entryLinksWrong : ChangeSpec := { name := "entryLinks", fn := fun _ => fun
  | [d] => { results := [.lit (.bool false)], args := [d] }
  | _ => none }
def EntryLinksWrongFalsely : Prop := entryLinksRow.holds Try.pinned (OpenSpec.ofChange entryLinksWrong)

/-- 'chapletlaw07.EntryWrites': WHATEVER THE INPUT: true; the input reads as it did. -/
def entryWritesSpec : ChangeSpec := { name := "entryWrites", fn := fun _ => fun
  | [d1, d2, d3, d4] => { results := [.lit (.bool true)], args := [d1, d2, d3, d4] }
  | _ => none }
def entryWritesRow : OpenClaim := { program := "ytlndhigdknmokaa", sum := "784aa4fb494e22164b761380bcc250580770fe32a012b688db8d6313d3c78cbf", func := "chaplet/chapletlaw07.EntryWrites", spec := "entryWrites", apart := false }
def EntryWritesSaid : Prop := entryWritesRow.holds Try.pinned (OpenSpec.ofChange entryWritesSpec)

/-- ITS FALSE NEIGHBOUR: 'it returns false'. Refute it at one input. -/
def entryWritesWrong : ChangeSpec := { name := "entryWrites", fn := fun _ => fun
  | [d1, d2, d3, d4] => { results := [.lit (.bool false)], args := [d1, d2, d3, d4] }
  | _ => none }
def EntryWritesWrongFalsely : Prop := entryWritesRow.holds Try.pinned (OpenSpec.ofChange entryWritesWrong)

/-- 'chapletlaw07.EntryCopies': WHATEVER THE INPUT: true; the input reads as it did. -/
def entryCopiesSpec : ChangeSpec := { name := "entryCopies", fn := fun _ => fun
  | [d1, d2, d3] => { results := [.lit (.bool true)], args := [d1, d2, d3] }
  | _ => none }
def entryCopiesRow : OpenClaim := { program := "ytlndhigdknmokaa", sum := "784aa4fb494e22164b761380bcc250580770fe32a012b688db8d6313d3c78cbf", func := "chaplet/chapletlaw07.EntryCopies", spec := "entryCopies", apart := false }
def EntryCopiesSaid : Prop := entryCopiesRow.holds Try.pinned (OpenSpec.ofChange entryCopiesSpec)

/-- ITS FALSE NEIGHBOUR: 'it returns false'. Refute it at one input. -/
def entryCopiesWrong : ChangeSpec := { name := "entryCopies", fn := fun _ => fun
  | [d1, d2, d3] => { results := [.lit (.bool false)], args := [d1, d2, d3] }
  | _ => none }
def EntryCopiesWrongFalsely : Prop := entryCopiesRow.holds Try.pinned (OpenSpec.ofChange entryCopiesWrong)

/-- 'chapletlaw07.EntryTells': WHATEVER THE INPUT: true; the input reads as it did. -/
def entryTellsSpec : ChangeSpec := { name := "entryTells", fn := fun _ => fun
  | [d1, d2, d3, d4, d5, d6, d7] => { results := [.lit (.bool true)], args := [d1, d2, d3, d4, d5, d6, d7] }
  | _ => none }
def entryTellsRow : OpenClaim := { program := "ytlndhigdknmokaa", sum := "784aa4fb494e22164b761380bcc250580770fe32a012b688db8d6313d3c78cbf", func := "chaplet/chapletlaw07.EntryTells", spec := "entryTells", apart := false }
def EntryTellsSaid : Prop := entryTellsRow.holds Try.pinned (OpenSpec.ofChange entryTellsSpec)

/-- ITS FALSE NEIGHBOUR: 'it returns false'. Refute it at one input. -/
def entryTellsWrong : ChangeSpec := { name := "entryTells", fn := fun _ => fun
  | [d1, d2, d3, d4, d5, d6, d7] => { results := [.lit (.bool false)], args := [d1, d2, d3, d4, d5, d6, d7] }
  | _ => none }
def EntryTellsWrongFalsely : Prop := entryTellsRow.holds Try.pinned (OpenSpec.ofChange entryTellsWrong)

/- THE SECOND FORM. 'bulk': how many values and letters a reading holds, each counted each time it is reached (what is shared counts as often as it is met; a slice's spare places count too). A statement '..UptoSaid' is the law's where the arguments, and the package variables that the reading takes, are together of bulk at most 1048576: NARROWER than '..Said'. Prove '..Said' where nothing that the law and all that it calls make is longer than what came in: it says more and counts as full. Else prove '..UptoSaid'. A law counts once. -/
mutual
def uptoBulk {H : Type} : DataW H → Nat
  | .lit (.string bytes) => bytes.length + 1
  | .lit _ => 1
  | .nil => 1
  | .ptr d => uptoBulk d + 1
  | .slice elems spare => uptoBulkAll elems + uptoBulkAll spare + 1
  | .agg parts => uptoBulkAll parts + 1
  | .iface _ d => uptoBulk d + 1
  | .map entries => uptoBulkEntries entries + 1
  | .held _ => 1
def uptoBulkAll {H : Type} : List (DataW H) → Nat
  | [] => 0
  | d :: r => uptoBulk d + uptoBulkAll r
def uptoBulkEntries {H : Type} : List (Lit × DataW H) → Nat
  | [] => 0
  | x :: r => uptoBulkEntry x + uptoBulkEntries r
def uptoBulkEntry {H : Type} : Lit × DataW H → Nat
  | (.string bytes, d) => bytes.length + uptoBulk d + 1
  | (_, d) => uptoBulk d + 1
 end
def uptoSmall : (H : Type) → List (DataW H) → Bool := fun _ ds => decide (uptoBulkAll ds ≤ 1048576)
def OpenSpec.upto (s : _root_.Go.ChangeSpec) : _root_.Go.OpenSpec := { _root_.Go.OpenSpec.ofChange s with cond := some uptoSmall }

/-- 'chapletlaw07.EntryLinks', WHERE WHAT IT READS IS OF BULK AT MOST 1048576: true; the input reads as it did. -/
def entryLinksUptoRow : OpenClaim := { program := "ytlndhigdknmokaa", sum := "784aa4fb494e22164b761380bcc250580770fe32a012b688db8d6313d3c78cbf", func := "chaplet/chapletlaw07.EntryLinks", spec := "entryLinks", apart := false, narrowed := true }
def EntryLinksUptoSaid : Prop := entryLinksUptoRow.holds Try.pinned (OpenSpec.upto entryLinksSpec)

/-- 'chapletlaw07.EntryWrites', WHERE WHAT IT READS IS OF BULK AT MOST 1048576: true; the input reads as it did. -/
def entryWritesUptoRow : OpenClaim := { program := "ytlndhigdknmokaa", sum := "784aa4fb494e22164b761380bcc250580770fe32a012b688db8d6313d3c78cbf", func := "chaplet/chapletlaw07.EntryWrites", spec := "entryWrites", apart := false, narrowed := true }
def EntryWritesUptoSaid : Prop := entryWritesUptoRow.holds Try.pinned (OpenSpec.upto entryWritesSpec)

/-- 'chapletlaw07.EntryCopies', WHERE WHAT IT READS IS OF BULK AT MOST 1048576: true; the input reads as it did. -/
def entryCopiesUptoRow : OpenClaim := { program := "ytlndhigdknmokaa", sum := "784aa4fb494e22164b761380bcc250580770fe32a012b688db8d6313d3c78cbf", func := "chaplet/chapletlaw07.EntryCopies", spec := "entryCopies", apart := false, narrowed := true }
def EntryCopiesUptoSaid : Prop := entryCopiesUptoRow.holds Try.pinned (OpenSpec.upto entryCopiesSpec)

/-- 'chapletlaw07.EntryTells', WHERE WHAT IT READS IS OF BULK AT MOST 1048576: true; the input reads as it did. -/
def entryTellsUptoRow : OpenClaim := { program := "ytlndhigdknmokaa", sum := "784aa4fb494e22164b761380bcc250580770fe32a012b688db8d6313d3c78cbf", func := "chaplet/chapletlaw07.EntryTells", spec := "entryTells", apart := false, narrowed := true }
def EntryTellsUptoSaid : Prop := entryTellsUptoRow.holds Try.pinned (OpenSpec.upto entryTellsSpec)

end Rows
end Go.Proofs.Ytlndhigdknmokaa
