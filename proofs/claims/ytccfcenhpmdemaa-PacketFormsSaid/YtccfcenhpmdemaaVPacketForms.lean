/- PacketForms, with its arguments as they are read. -/
import Derived.Test.YtccfcenhpmdemaaQForms
import Derived.Test.YtccfcenhpmdemaaK
namespace Go.Proofs.Ytccfcenhpmdemaa.B
open Go.RowKit Go.Proofs.YtccfcenhpmdemaaW.PrintWords Go.Proofs.Ytccfcenhpmdemaa.E
set_option linter.unusedVariables false
theorem lawPacketForms (w : World) (a0 : Int) (w0 : (Lit.int .i64 a0).wf = true) (a1 : Int) (w1 : (Lit.int .i64 a1).wf = true) (a2 : Int) (w2 : (Lit.int .i64 a2).wf = true) (a3 : Int) (w3 : (Lit.int .i64 a3).wf = true) (a4 : Int) (w4 : (Lit.int .i64 a4).wf = true) (a5 : Int) (w5 : (Lit.int .i64 a5).wf = true) (a6 : Int) (w6 : (Lit.int .i64 a6).wf = true) (a7 : Bool) (A8 : Option Addr) (c8 : Nat) (l8 : (List Int)) (r8 : (Kd.int .i64).C w A8 l8.length l8) (e8 : l8.length ≤ c8) (z8 : l8.length * 8 ≤ 140737488351232) (w8 : (∀ y ∈ l8, (Lit.int .i64 y).wf = true)) :
    Calls Try.prog 3 #[.int .i64 a0, .int .i64 a1, .int .i64 a2, .int .i64 a3, .int .i64 a4, .int .i64 a5, .int .i64 a6, .bool a7, .slice A8 l8.length c8] w fun e w' => e = .returned (.bool true) ∧ Below w.heap.size w w' :=
  law_calls (E.forms rfl a0 a1 a2 a3 a4 a5 a6 a7 _ l8 rfl (by simp [nrow]; omega)) rfl (args_cons (arg_g (.int .i64 (.sym a0))) (args_cons (arg_g (.int .i64 (.sym a1))) (args_cons (arg_g (.int .i64 (.sym a2))) (args_cons (arg_g (.int .i64 (.sym a3))) (args_cons (arg_g (.int .i64 (.sym a4))) (args_cons (arg_g (.int .i64 (.sym a5))) (args_cons (arg_g (.int .i64 (.sym a6))) (args_cons (arg_g (.bool (.sym a7))) (args_cons (arg_g (nums_rep r8 e8)) args_nil)))))))))
end Go.Proofs.Ytccfcenhpmdemaa.B
