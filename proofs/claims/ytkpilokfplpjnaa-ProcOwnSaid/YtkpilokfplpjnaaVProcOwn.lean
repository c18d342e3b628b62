/- ProcOwn, with its arguments as they are read. -/
import Derived.Test.YtkpilokfplpjnaaQOwn
import Derived.Test.YtkpilokfplpjnaaK
namespace Go.Proofs.Ytkpilokfplpjnaa.B
open Go.RowKit Go.Proofs.YtkpilokfplpjnaaW.PrintWords Go.Proofs.Ytkpilokfplpjnaa.E
set_option linter.unusedVariables false
theorem lawProcOwn (w : World) (a0 : Int) (w0 : (Lit.int .i64 a0).wf = true) (a1 : Int) (w1 : (Lit.int .i64 a1).wf = true) :
    Calls Try.prog 3 #[.int .i64 a0, .int .i64 a1] w fun e w' => e = .returned (.bool true) ∧ Below w.heap.size w w' :=
  law_calls (E.own rfl a0 a1 (wf64 w1)) rfl (args_cons (arg_g (.int .i64 (.sym a0))) (args_cons (arg_g (.int .i64 (.sym a1))) args_nil))
end Go.Proofs.Ytkpilokfplpjnaa.B
