/- PacketSame, with its arguments as they are read. -/
import Derived.Test.YtccfcenhpmdemaaQPSame
import Derived.Test.YtccfcenhpmdemaaK
namespace Go.Proofs.Ytccfcenhpmdemaa.B
open Go.RowKit Go.Proofs.YtccfcenhpmdemaaW.PrintWords Go.Proofs.Ytccfcenhpmdemaa.E
set_option linter.unusedVariables false
theorem lawPacketSame (w : World) (a0 : Int) (w0 : (Lit.int .i64 a0).wf = true) (a1 : Int) (w1 : (Lit.int .i64 a1).wf = true) (A2 : Option Addr) (c2 : Nat) (l2 : (List Int)) (r2 : (Kd.int .i64).C w A2 l2.length l2) (e2 : l2.length ≤ c2) (z2 : l2.length * 8 ≤ 140737488351232) (w2 : (∀ y ∈ l2, (Lit.int .i64 y).wf = true)) :
    Calls Try.prog 6 #[.int .i64 a0, .int .i64 a1, .slice A2 l2.length c2] w fun e w' => e = .returned (.bool true) ∧ Below w.heap.size w w' :=
  law_calls (E.same_ rfl a0 a1 _ l2 rfl (by simp [nrow]; omega)) rfl (args_cons (arg_g (.int .i64 (.sym a0))) (args_cons (arg_g (.int .i64 (.sym a1))) (args_cons (arg_g (nums_rep r2 e2)) args_nil)))
end Go.Proofs.Ytccfcenhpmdemaa.B
