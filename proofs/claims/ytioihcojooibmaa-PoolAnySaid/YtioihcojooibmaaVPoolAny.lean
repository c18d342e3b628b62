/- PoolAny, with its arguments as they are read. -/
import Derived.Test.YtioihcojooibmaaQAny
import Derived.Test.YtioihcojooibmaaK
namespace Go.Proofs.Ytioihcojooibmaa.B
open Go.RowKit Go.Proofs.YtioihcojooibmaaW.PrintWords Go.Proofs.Ytioihcojooibmaa.E
set_option linter.unusedVariables false
theorem lawPoolAny (w : World) (a0 : Int) (w0 : (Lit.int .i64 a0).wf = true) (A1 : Option Addr) (c1 : Nat) (l1 : (List Int)) (r1 : (Kd.int .i64).C w A1 l1.length l1) (e1 : l1.length ≤ c1) (z1 : l1.length * 8 ≤ 140737488351232) (w1 : (∀ y ∈ l1, (Lit.int .i64 y).wf = true)) :
    Calls Try.prog 3 #[.int .i64 a0, .slice A1 l1.length c1] w fun e w' => e = .returned (.bool true) ∧ Below w.heap.size w w' :=
  law_calls (E.any_ rfl a0 _ l1 rfl (by omega)) rfl (args_cons (arg_g (.int .i64 (.sym a0))) (args_cons (arg_g (nums_rep r1 e1)) args_nil))
end Go.Proofs.Ytioihcojooibmaa.B
