/-
  No cell of these rows narrows 'for every input' (looked for: loops, veiled, ifaces, maps, wideKeys, modest, calm, conditions, laid).
  DERIVED. THE GIVEN ROWS OF THIS SEAT. 7 by the template 'for every input the law returns true; each argument reads behind the call as it read before'; 0 by the template 'total and deterministic' (their statements: YtccfcenhpmdemaaTotals.lean).
  GIVEN WITH THE SEED: the statements are not yours to turn. If you find one false, say at which input.
  Laid BY PROGRAM, IN A SANDBOX (cutbox-rows.mjs): the forced cells as the released guide's own fill.sh prints them over the translation 2bdf58c1fbe8c1b2… (all of the seat's roots in one cut). By AI agents, Wed Nov 11 2026. No macro, syntax, notation, axiom, sorry.
-/
import Derived.Test.YtccfcenhpmdemaaChecked
import GoSem.Claim
import GoSem.ClaimJoined
import GoSem.ClaimMapViews
import Derived.JoinedTies
import Derived.KernelRfl
namespace Go.Proofs.Ytccfcenhpmdemaa
/- THE CELL 'sum', in the pinned program and in every row, IS THE sha256 OF THE DUMP (.gsa) THAT YtccfcenhpmdemaaProg.lean LOADS. Nothing in Lean hashes anything: it is a label: what it is worth is what the hold of that sum in a sandbox is worth. -/
noncomputable def Try.pinned : Pinned := { name := "ytccfcenhpmdemaa", sum := "2bdf58c1fbe8c1b2b718863dee33b467fdd5178d8a70124385e211eea1294979", checked := Try.checked }
namespace Rows
def none {H : Type} : Left H := { results := [], args := [] }

/-- 'chapletlaw03.PacketForms': WHATEVER THE INPUT: true; the input reads as it did. -/
def packetFormsSpec : ChangeSpec := { name := "packetForms", fn := fun _ => fun
  | [d1, d2, d3, d4, d5, d6, d7, d8, d9] => { results := [.lit (.bool true)], args := [d1, d2, d3, d4, d5, d6, d7, d8, d9] }
  | _ => none }
def packetFormsRow : OpenClaim := { program := "ytccfcenhpmdemaa", sum := "2bdf58c1fbe8c1b2b718863dee33b467fdd5178d8a70124385e211eea1294979", func := "chaplet/chapletlaw03.PacketForms", spec := "packetForms", apart := false }
def PacketFormsSaid : Prop := packetFormsRow.holds Try.pinned (OpenSpec.ofChange packetFormsSpec)

/-- ITS FALSE NEIGHBOUR: 'it returns false'. Refute it at one input. -/
def packetFormsWrong : ChangeSpec := { name := "packetForms", fn := fun _ => fun
  | [d1, d2, d3, d4, d5, d6, d7, d8, d9] => { results := [.lit (.bool false)], args := [d1, d2, d3, d4, d5, d6, d7, d8, d9] }
  | _ => none }
def PacketFormsWrongFalsely : Prop := packetFormsRow.holds Try.pinned (OpenSpec.ofChange packetFormsWrong)

/-- 'chapletlaw03.PacketErrors': WHATEVER THE INPUT: true; the input reads as it did. -/
def packetErrorsSpec : ChangeSpec := { name := "packetErrors", fn := fun _ => fun
  | [d] => { results := [.lit (.bool true)], args := [d] }
  | _ => none }
def packetErrorsRow : OpenClaim := { program := "ytccfcenhpmdemaa", sum := "2bdf58c1fbe8c1b2b718863dee33b467fdd5178d8a70124385e211eea1294979", func := "chaplet/chapletlaw03.PacketErrors", spec := "packetErrors", apart := false }
def PacketErrorsSaid : Prop := packetErrorsRow.holds Try.pinned (OpenSpec.ofChange packetErrorsSpec)

/-- ITS FALSE NEIGHBOUR: 'it returns false'. Refute it at one input. -/
def packetErrorsWrong : ChangeSpec := { name := "packetErrors", fn := fun _ => fun
  | [d] => { results := [.lit (.bool false)], args := [d] }
  | _ => none }
def PacketErrorsWrongFalsely : Prop := packetErrorsRow.holds Try.pinned (OpenSpec.ofChange packetErrorsWrong)

/-- 'chapletlaw03.PacketKinds': WHATEVER THE INPUT: true; the input reads as it did. -/
def packetKindsSpec : ChangeSpec := { name := "packetKinds", fn := fun _ => fun
  | [d] => { results := [.lit (.bool true)], args := [d] }
  | _ => none }
def packetKindsRow : OpenClaim := { program := "ytccfcenhpmdemaa", sum := "2bdf58c1fbe8c1b2b718863dee33b467fdd5178d8a70124385e211eea1294979", func := "chaplet/chapletlaw03.PacketKinds", spec := "packetKinds", apart := false }
def PacketKindsSaid : Prop := packetKindsRow.holds Try.pinned (OpenSpec.ofChange packetKindsSpec)

/-- ITS FALSE NEIGHBOUR: 'it returns false'. Refute it at one input. -/
def packetKindsWrong : ChangeSpec := { name := "packetKinds", fn := fun _ => fun
  | [d] => { results := [.lit (.bool false)], args := [d] }
  | _ => none }
def PacketKindsWrongFalsely : Prop := packetKindsRow.holds Try.pinned (OpenSpec.ofChange packetKindsWrong)

/-- 'chapletlaw03.PacketSame': WHATEVER THE INPUT: true; the input reads as it did. -/
def packetSameSpec : ChangeSpec := { name := "packetSame", fn := fun _ => fun
  | [d1, d2, d3] => { results := [.lit (.bool true)], args := [d1, d2, d3] }
  | _ => none }
def packetSameRow : OpenClaim := { program := "ytccfcenhpmdemaa", sum := "2bdf58c1fbe8c1b2b718863dee33b467fdd5178d8a70124385e211eea1294979", func := "chaplet/chapletlaw03.PacketSame", spec := "packetSame", apart := false }
def PacketSameSaid : Prop := packetSameRow.holds Try.pinned (OpenSpec.ofChange packetSameSpec)

/-- ITS FALSE NEIGHBOUR: 'it returns false'. Refute it at one input. -/
def packetSameWrong : ChangeSpec := { name := "packetSame", fn := fun _ => fun
  | [d1, d2, d3] => { results := [.lit (.bool false)], args := [d1, d2, d3] }
  | _ => none }
def PacketSameWrongFalsely : Prop := packetSameRow.holds Try.pinned (OpenSpec.ofChange packetSameWrong)

/-- 'chapletlaw03.PacketPacks': WHATEVER THE INPUT: true; the input reads as it did. -/
def packetPacksSpec : ChangeSpec := { name := "packetPacks", fn := fun _ => fun
  | [d1, d2, d3, d4] => { results := [.lit (.bool true)], args := [d1, d2, d3, d4] }
  | _ => none }
def packetPacksRow : OpenClaim := { program := "ytccfcenhpmdemaa", sum := "2bdf58c1fbe8c1b2b718863dee33b467fdd5178d8a70124385e211eea1294979", func := "chaplet/chapletlaw03.PacketPacks", spec := "packetPacks", apart := false }
def PacketPacksSaid : Prop := packetPacksRow.holds Try.pinned (OpenSpec.ofChange packetPacksSpec)

/-- ITS FALSE NEIGHBOUR: 'it returns false'. Refute it at one input. -/
def packetPacksWrong : ChangeSpec := { name := "packetPacks", fn := fun _ => fun
  | [d1, d2, d3, d4] => { results := [.lit (.bool false)], args := [d1, d2, d3, d4] }
  | _ => none }
def PacketPacksWrongFalsely : Prop := packetPacksRow.holds Try.pinned (OpenSpec.ofChange packetPacksWrong)

/-- 'chapletlaw03.PacketUnpacks': WHATEVER THE INPUT: true; the input reads as it did. -/
def packetUnpacksSpec : ChangeSpec := { name := "packetUnpacks", fn := fun _ => fun
  | [d1, d2, d3, d4, d5, d6, d7] => { results := [.lit (.bool true)], args := [d1, d2, d3, d4, d5, d6, d7] }
  | _ => none }
def packetUnpacksRow : OpenClaim := { program := "ytccfcenhpmdemaa", sum := "2bdf58c1fbe8c1b2b718863dee33b467fdd5178d8a70124385e211eea1294979", func := "chaplet/chapletlaw03.PacketUnpacks", spec := "packetUnpacks", unfollowed := true, recurses := true, apart := false }
def PacketUnpacksSaid : Prop := packetUnpacksRow.holds Try.pinned (OpenSpec.ofChange packetUnpacksSpec)

/-- ITS FALSE NEIGHBOUR: 'it returns false'. Refute it at one input. -/
def packetUnpacksWrong : ChangeSpec := { name := "packetUnpacks", fn := fun _ => fun
  | [d1, d2, d3, d4, d5, d6, d7] => { results := [.lit (.bool false)], args := [d1, d2, d3, d4, d5, d6, d7] }
  | _ => none }
def PacketUnpacksWrongFalsely : Prop := packetUnpacksRow.holds Try.pinned (OpenSpec.ofChange packetUnpacksWrong)

/-- 'chapletlaw03.PacketBack': WHATEVER THE INPUT: true; the input reads as it did. -/
def packetBackSpec : ChangeSpec := { name := "packetBack", fn := fun _ => fun
  | [d1, d2, d3] => { results := [.lit (.bool true)], args := [d1, d2, d3] }
  | _ => none }
def packetBackRow : OpenClaim := { program := "ytccfcenhpmdemaa", sum := "2bdf58c1fbe8c1b2b718863dee33b467fdd5178d8a70124385e211eea1294979", func := "chaplet/chapletlaw03.PacketBack", spec := "packetBack", unfollowed := true, recurses := true, apart := false }
def PacketBackSaid : Prop := packetBackRow.holds Try.pinned (OpenSpec.ofChange packetBackSpec)

/-- ITS FALSE NEIGHBOUR: 'it returns false'. Refute it at one input. -/
def packetBackWrong : ChangeSpec := { name := "packetBack", fn := fun _ => fun
  | [d1, d2, d3] => { results := [.lit (.bool false)], args := [d1, d2, d3] }
  | _ => none }
def PacketBackWrongFalsely : Prop := packetBackRow.holds Try.pinned (OpenSpec.ofChange packetBackWrong)

/- THE SECOND FORM. 'bulk': how many values and letters a reading holds, each counted each time it is reached (what is shared counts as often as it is met; a slice's spare places count too). A statement '..UptoSaid' is the law's where the arguments, and the package variables that the reading takes, are together of bulk at most 1048576: NARROWER than '..Said'. Prove '..Said' where nothing that the law and all that it calls make is longer than what came in: it says more and counts as full. Else prove '..UptoSaid'. A law counts once. -/
mutual
def uptoBulk {H : Type} : DataW H → Nat
  | .lit (.string bytes) => bytes.length + 1
  | .lit _ => 1
  | .nil => 1
  | .ptr d => uptoBulk d + 1
  | .slice elems spare => uptoBulkAll elems + uptoBulkAll spare + 1
  | .agg parts => uptoBulkAll parts + 1
  | .iface _ d => uptoBulk d + 1
  | .map entries => uptoBulkEntries entries + 1
  | .held _ => 1
def uptoBulkAll {H : Type} : List (DataW H) → Nat
  | [] => 0
  | d :: r => uptoBulk d + uptoBulkAll r
def uptoBulkEntries {H : Type} : List (Lit × DataW H) → Nat
  | [] => 0
  | x :: r => uptoBulkEntry x + uptoBulkEntries r
def uptoBulkEntry {H : Type} : Lit × DataW H → Nat
  | (.string bytes, d) => bytes.length + uptoBulk d + 1
  | (_, d) => uptoBulk d + 1
 end
def uptoSmall : (H : Type) → List (DataW H) → Bool := fun _ ds => decide (uptoBulkAll ds ≤ 1048576)
def OpenSpec.upto (s : _root_.Go.ChangeSpec) : _root_.Go.OpenSpec := { _root_.Go.OpenSpec.ofChange s with cond := some uptoSmall }

/-- 'chapletlaw03.PacketForms', WHERE WHAT IT READS IS OF BULK AT MOST 1048576: true; the input reads as it did. -/
def packetFormsUptoRow : OpenClaim := { program := "ytccfcenhpmdemaa", sum := "2bdf58c1fbe8c1b2b718863dee33b467fdd5178d8a70124385e211eea1294979", func := "chaplet/chapletlaw03.PacketForms", spec := "packetForms", apart := false, narrowed := true }
def PacketFormsUptoSaid : Prop := packetFormsUptoRow.holds Try.pinned (OpenSpec.upto packetFormsSpec)

/-- 'chapletlaw03.PacketErrors', WHERE WHAT IT READS IS OF BULK AT MOST 1048576: true; the input reads as it did. -/
def packetErrorsUptoRow : OpenClaim := { program := "ytccfcenhpmdemaa", sum := "2bdf58c1fbe8c1b2b718863dee33b467fdd5178d8a70124385e211eea1294979", func := "chaplet/chapletlaw03.PacketErrors", spec := "packetErrors", apart := false, narrowed := true }
def PacketErrorsUptoSaid : Prop := packetErrorsUptoRow.holds Try.pinned (OpenSpec.upto packetErrorsSpec)

/-- 'chapletlaw03.PacketKinds', WHERE WHAT IT READS IS OF BULK AT MOST 1048576: true; the input reads as it did. -/
def packetKindsUptoRow : OpenClaim := { program := "ytccfcenhpmdemaa", sum := "2bdf58c1fbe8c1b2b718863dee33b467fdd5178d8a70124385e211eea1294979", func := "chaplet/chapletlaw03.PacketKinds", spec := "packetKinds", apart := false, narrowed := true }
def PacketKindsUptoSaid : Prop := packetKindsUptoRow.holds Try.pinned (OpenSpec.upto packetKindsSpec)

/-- 'chapletlaw03.PacketSame', WHERE WHAT IT READS IS OF BULK AT MOST 1048576: true; the input reads as it did. -/
def packetSameUptoRow : OpenClaim := { program := "ytccfcenhpmdemaa", sum := "2bdf58c1fbe8c1b2b718863dee33b467fdd5178d8a70124385e211eea1294979", func := "chaplet/chapletlaw03.PacketSame", spec := "packetSame", apart := false, narrowed := true }
def PacketSameUptoSaid : Prop := packetSameUptoRow.holds Try.pinned (OpenSpec.upto packetSameSpec)

/-- 'chapletlaw03.PacketPacks', WHERE WHAT IT READS IS OF BULK AT MOST 1048576: true; the input reads as it did. -/
def packetPacksUptoRow : OpenClaim := { program := "ytccfcenhpmdemaa", sum := "2bdf58c1fbe8c1b2b718863dee33b467fdd5178d8a70124385e211eea1294979", func := "chaplet/chapletlaw03.PacketPacks", spec := "packetPacks", apart := false, narrowed := true }
def PacketPacksUptoSaid : Prop := packetPacksUptoRow.holds Try.pinned (OpenSpec.upto packetPacksSpec)

/-- 'chapletlaw03.PacketUnpacks', WHERE WHAT IT READS IS OF BULK AT MOST 1048576: true; the input reads as it did. -/
def packetUnpacksUptoRow : OpenClaim := { program := "ytccfcenhpmdemaa", sum := "2bdf58c1fbe8c1b2b718863dee33b467fdd5178d8a70124385e211eea1294979", func := "chaplet/chapletlaw03.PacketUnpacks", spec := "packetUnpacks", unfollowed := true, recurses := true, apart := false, narrowed := true }
def PacketUnpacksUptoSaid : Prop := packetUnpacksUptoRow.holds Try.pinned (OpenSpec.upto packetUnpacksSpec)

/-- 'chapletlaw03.PacketBack', WHERE WHAT IT READS IS OF BULK AT MOST 1048576: true; the input reads as it did. -/
def packetBackUptoRow : OpenClaim := { program := "ytccfcenhpmdemaa", sum := "2bdf58c1fbe8c1b2b718863dee33b467fdd5178d8a70124385e211eea1294979", func := "chaplet/chapletlaw03.PacketBack", spec := "packetBack", unfollowed := true, recurses := true, apart := false, narrowed := true }
def PacketBackUptoSaid : Prop := packetBackUptoRow.holds Try.pinned (OpenSpec.upto packetBackSpec)

end Rows
end Go.Proofs.Ytccfcenhpmdemaa
