/- EntryWrites, with its arguments as they are read. -/
import Derived.Test.YtlndhigdknmokaaQWrites
import Derived.Test.YtlndhigdknmokaaK
namespace Go.Proofs.Ytlndhigdknmokaa.B
open Go.RowKit Go.Proofs.YtlndhigdknmokaaW.PrintWords Go.Proofs.Ytlndhigdknmokaa.E
set_option linter.unusedVariables false
theorem lawEntryWrites (w : World) (A0 : Option Addr) (c0 : Nat) (l0 : (List Int)) (r0 : (Kd.int .i64).C w A0 l0.length l0) (e0 : l0.length ≤ c0) (z0 : l0.length * 8 ≤ 140737488351232) (w0 : (∀ y ∈ l0, (Lit.int .i64 y).wf = true)) (A1 : Option Addr) (c1 : Nat) (l1 : (List Int)) (r1 : (Kd.int .i64).C w A1 l1.length l1) (e1 : l1.length ≤ c1) (z1 : l1.length * 8 ≤ 140737488351232) (w1 : (∀ y ∈ l1, (Lit.int .i64 y).wf = true)) (A2 : Option Addr) (c2 : Nat) (l2 : (List Int)) (r2 : (Kd.int .i64).C w A2 l2.length l2) (e2 : l2.length ≤ c2) (z2 : l2.length * 8 ≤ 140737488351232) (w2 : (∀ y ∈ l2, (Lit.int .i64 y).wf = true)) (a3 : Bool) :
    Calls Try.prog 4 #[.slice A0 l0.length c0, .slice A1 l1.length c1, .slice A2 l2.length c2, .bool a3] w fun e w' => e = .returned (.bool true) ∧ Below w.heap.size w w' :=
  law_calls (E.writes rfl _ _ _ l0 l1 l2 rfl rfl rfl (by simpa [nrow] using z0) a3) rfl (args_cons (arg_g (nums_rep r0 e0)) (args_cons (arg_g (nums_rep r1 e1)) (args_cons (arg_g (nums_rep r2 e2)) (args_cons (arg_g (.bool (.sym a3))) args_nil))))
end Go.Proofs.Ytlndhigdknmokaa.B
