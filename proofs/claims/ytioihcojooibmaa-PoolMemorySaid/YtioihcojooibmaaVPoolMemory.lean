/- PoolMemory, with its arguments as they are read. -/
import Derived.Test.YtioihcojooibmaaQMem
import Derived.Test.YtioihcojooibmaaK
namespace Go.Proofs.Ytioihcojooibmaa.B
open Go.RowKit Go.Proofs.YtioihcojooibmaaW.PrintWords Go.Proofs.Ytioihcojooibmaa.E
set_option linter.unusedVariables false
theorem lawPoolMemory (w : World) (A0 : Option Addr) (c0 : Nat) (l0 : (List Int)) (r0 : (Kd.int .i64).C w A0 l0.length l0) (e0 : l0.length ≤ c0) (z0 : l0.length * 8 ≤ 140737488351232) (w0 : (∀ y ∈ l0, (Lit.int .i64 y).wf = true)) :
    Calls Try.prog 4 #[.slice A0 l0.length c0] w fun e w' => e = .returned (.bool true) ∧ Below w.heap.size w w' :=
  law_calls (E.memory rfl _ l0 rfl (by simp [nrow]; omega)) rfl (args_cons (arg_g (nums_rep r0 e0)) args_nil)
end Go.Proofs.Ytioihcojooibmaa.B
