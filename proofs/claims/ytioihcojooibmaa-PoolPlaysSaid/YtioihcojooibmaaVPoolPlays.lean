/- PoolPlays, with its arguments as they are read. -/
import Derived.Test.YtioihcojooibmaaQPlays
import Derived.Test.YtioihcojooibmaaK
namespace Go.Proofs.Ytioihcojooibmaa.B
open Go.RowKit Go.Proofs.YtioihcojooibmaaW.PrintWords Go.Proofs.Ytioihcojooibmaa.E
set_option linter.unusedVariables false
theorem lawPoolPlays (w : World) (a0 : Int) (w0 : (Lit.int .i64 a0).wf = true) (A1 : Option Addr) (c1 : Nat) (l1 : (List Int)) (r1 : (Kd.int .i64).C w A1 l1.length l1) (e1 : l1.length ≤ c1) (z1 : l1.length * 8 ≤ 140737488351232) (w1 : (∀ y ∈ l1, (Lit.int .i64 y).wf = true)) (A2 : Option Addr) (c2 : Nat) (l2 : (List Int)) (r2 : (Kd.int .i64).C w A2 l2.length l2) (e2 : l2.length ≤ c2) (z2 : l2.length * 8 ≤ 140737488351232) (w2 : (∀ y ∈ l2, (Lit.int .i64 y).wf = true)) (A3 : Option Addr) (c3 : Nat) (l3 : (List Int)) (r3 : (Kd.int .i64).C w A3 l3.length l3) (e3 : l3.length ≤ c3) (z3 : l3.length * 8 ≤ 140737488351232) (w3 : (∀ y ∈ l3, (Lit.int .i64 y).wf = true)) :
    Calls Try.prog 5 #[.int .i64 a0, .slice A1 l1.length c1, .slice A2 l2.length c2, .slice A3 l3.length c3] w fun e w' => e = .returned (.bool true) ∧ Below w.heap.size w w' :=
  law_calls (E.plays rfl a0 _ _ _ l1 l2 l3 rfl rfl rfl (by omega)) rfl (args_cons (arg_g (.int .i64 (.sym a0))) (args_cons (arg_g (nums_rep r1 e1)) (args_cons (arg_g (nums_rep r2 e2)) (args_cons (arg_g (nums_rep r3 e3)) args_nil))))
end Go.Proofs.Ytioihcojooibmaa.B
