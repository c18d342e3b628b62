/- QueueTurns, with its arguments as they are read. -/
import Derived.Test.YtfbbldnbobacnaaQTurns
import Derived.Test.YtfbbldnbobacnaaK
namespace Go.Proofs.Ytfbbldnbobacnaa.B
open Go.RowKit Go.Proofs.YtfbbldnbobacnaaW.PrintWords Go.Proofs.Ytfbbldnbobacnaa.E
set_option linter.unusedVariables false
theorem lawQueueTurns (w : World) (a0 : Int) (w0 : (Lit.int .i64 a0).wf = true) (a1 : Int) (w1 : (Lit.int .i64 a1).wf = true) (a2 : Int) (w2 : (Lit.int .i64 a2).wf = true) :
    Calls Try.prog 6 #[.int .i64 a0, .int .i64 a1, .int .i64 a2] w fun e w' => e = .returned (.bool true) ∧ Below w.heap.size w w' :=
  law_calls (E.turns rfl a0 a1 a2) rfl (args_cons (arg_g (.int .i64 (.sym a0))) (args_cons (arg_g (.int .i64 (.sym a1))) (args_cons (arg_g (.int .i64 (.sym a2))) args_nil)))
end Go.Proofs.Ytfbbldnbobacnaa.B
