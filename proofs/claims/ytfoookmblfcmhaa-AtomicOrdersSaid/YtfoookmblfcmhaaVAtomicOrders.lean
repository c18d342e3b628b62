/- AtomicOrders, with its arguments as they are read. -/
import Derived.Test.YtfoookmblfcmhaaAOrders
import Derived.Test.YtfoookmblfcmhaaK
namespace Go.Proofs.Ytfoookmblfcmhaa.B
open Go.RowKit Go.Proofs.YtfoookmblfcmhaaW.PrintWords Go.Proofs.Ytfoookmblfcmhaa.E
set_option linter.unusedVariables false
theorem lawAtomicOrders (w : World) (a0 : Int) (w0 : (Lit.int .i64 a0).wf = true) (a1 : Int) (w1 : (Lit.int .i64 a1).wf = true) (a2 : Bool) :
    Calls Try.prog 6 #[.int .i64 a0, .int .i64 a1, .bool a2] w fun e w' => e = .returned (.bool true) ∧ Below w.heap.size w w' :=
  law_calls (E.orders rfl a0 a1 a2) rfl (args_cons (arg_g (.int .i64 (.sym a0))) (args_cons (arg_g (.int .i64 (.sym a1))) (args_cons (arg_g (.bool (.sym a2))) args_nil)))
end Go.Proofs.Ytfoookmblfcmhaa.B
