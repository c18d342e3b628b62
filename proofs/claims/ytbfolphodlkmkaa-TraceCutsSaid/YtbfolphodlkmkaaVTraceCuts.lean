/- TraceCuts, with its arguments as they are read. -/
import Derived.Test.YtbfolphodlkmkaaQCuts
import Derived.Test.YtbfolphodlkmkaaK
namespace Go.Proofs.Ytbfolphodlkmkaa.B
open Go.RowKit Go.Proofs.YtbfolphodlkmkaaW.PrintWords Go.Proofs.Ytbfolphodlkmkaa.E
set_option linter.unusedVariables false
theorem lawTraceCuts (w : World) (A0 : Option Addr) (c0 : Nat) (l0 : (List Int)) (r0 : (Kd.int .i64).C w A0 l0.length l0) (e0 : l0.length ≤ c0) (z0 : l0.length * 8 ≤ 140737488351232) (w0 : (∀ y ∈ l0, (Lit.int .i64 y).wf = true)) (a1 : Int) (w1 : (Lit.int .i64 a1).wf = true) (a2 : Int) (w2 : (Lit.int .i64 a2).wf = true) :
    Calls Try.prog 3 #[.slice A0 l0.length c0, .int .i64 a1, .int .i64 a2] w fun e w' => e = .returned (.bool true) ∧ Below w.heap.size w w' :=
  law_calls (E.cuts rfl _ l0 rfl a1 a2) rfl (args_cons (arg_g (nums_rep r0 e0)) (args_cons (arg_g (.int .i64 (.sym a1))) (args_cons (arg_g (.int .i64 (.sym a2))) args_nil)))
end Go.Proofs.Ytbfolphodlkmkaa.B
