/- TraceForms, with its arguments as they are read. -/
import Derived.Test.YtbfolphodlkmkaaQForms
import Derived.Test.YtbfolphodlkmkaaK
namespace Go.Proofs.Ytbfolphodlkmkaa.B
open Go.RowKit Go.Proofs.YtbfolphodlkmkaaW.PrintWords Go.Proofs.Ytbfolphodlkmkaa.E
set_option linter.unusedVariables false
theorem lawTraceForms (w : World) (a0 : Int) (w0 : (Lit.int .i64 a0).wf = true) (a1 : Int) (w1 : (Lit.int .i64 a1).wf = true) :
    Calls Try.prog 4 #[.int .i64 a0, .int .i64 a1] w fun e w' => e = .returned (.bool true) ∧ Below w.heap.size w w' :=
  law_calls (E.forms rfl a0 a1) rfl (args_cons (arg_g (.int .i64 (.sym a0))) (args_cons (arg_g (.int .i64 (.sym a1))) args_nil))
end Go.Proofs.Ytbfolphodlkmkaa.B
