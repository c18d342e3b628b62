/- QueueOrder, with its arguments as they are read. -/
import Derived.Test.YtfbbldnbobacnaaQOrder
import Derived.Test.YtfbbldnbobacnaaK
namespace Go.Proofs.Ytfbbldnbobacnaa.B
open Go.RowKit Go.Proofs.YtfbbldnbobacnaaW.PrintWords Go.Proofs.Ytfbbldnbobacnaa.E
set_option linter.unusedVariables false
theorem lawQueueOrder (w : World) (a0 : Int) (w0 : (Lit.int .i64 a0).wf = true) (A1 : Option Addr) (c1 : Nat) (l1 : (List Bool)) (r1 : Kd.bool.C w A1 l1.length l1) (e1 : l1.length ≤ c1) (z1 : l1.length * 1 ≤ 140737488351232) (w1 : (∀ y ∈ l1, True)) :
    Calls Try.prog 3 #[.int .i64 a0, .slice A1 l1.length c1] w fun e w' => e = .returned (.bool true) ∧ Below w.heap.size w w' :=
  law_calls (E.order rfl a0 _ l1 rfl) rfl (args_cons (arg_g (.int .i64 (.sym a0))) (args_cons (arg_g (bools_rep r1 e1)) args_nil))
end Go.Proofs.Ytfbbldnbobacnaa.B
