/- QueuePlays, with its arguments as they are read. -/
import Derived.Test.YtfbbldnbobacnaaQPlays
import Derived.Test.YtfbbldnbobacnaaK
namespace Go.Proofs.Ytfbbldnbobacnaa.B
open Go.RowKit Go.Proofs.YtfbbldnbobacnaaW.PrintWords Go.Proofs.Ytfbbldnbobacnaa.E
set_option linter.unusedVariables false
theorem lawQueuePlays (w : World) (a0 : Int) (w0 : (Lit.int .i64 a0).wf = true) (A1 : Option Addr) (c1 : Nat) (l1 : (List Int)) (r1 : (Kd.int .i64).C w A1 l1.length l1) (e1 : l1.length ≤ c1) (z1 : l1.length * 8 ≤ 140737488351232) (w1 : (∀ y ∈ l1, (Lit.int .i64 y).wf = true)) (A2 : Option Addr) (c2 : Nat) (l2 : (List Int)) (r2 : (Kd.int .i64).C w A2 l2.length l2) (e2 : l2.length ≤ c2) (z2 : l2.length * 8 ≤ 140737488351232) (w2 : (∀ y ∈ l2, (Lit.int .i64 y).wf = true)) :
    Calls Try.prog 5 #[.int .i64 a0, .slice A1 l1.length c1, .slice A2 l2.length c2] w fun e w' => e = .returned (.bool true) ∧ Below w.heap.size w w' :=
  law_calls (E.plays rfl a0 _ _ l1 l2 rfl rfl (by omega)) rfl (args_cons (arg_g (.int .i64 (.sym a0))) (args_cons (arg_g (nums_rep r1 e1)) (args_cons (arg_g (nums_rep r2 e2)) args_nil)))
end Go.Proofs.Ytfbbldnbobacnaa.B
