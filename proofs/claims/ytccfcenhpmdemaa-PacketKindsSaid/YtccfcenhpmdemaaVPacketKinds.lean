/- PacketKinds, with its arguments as they are read. -/
import Derived.Test.YtccfcenhpmdemaaQKinds
import Derived.Test.YtccfcenhpmdemaaK
namespace Go.Proofs.Ytccfcenhpmdemaa.B
open Go.RowKit Go.Proofs.YtccfcenhpmdemaaW.PrintWords Go.Proofs.Ytccfcenhpmdemaa.E
set_option linter.unusedVariables false
theorem lawPacketKinds (w : World) (a0 : Int) (w0 : (Lit.int .i64 a0).wf = true) :
    Calls Try.prog 5 #[.int .i64 a0] w fun e w' => e = .returned (.bool true) ∧ Below w.heap.size w w' :=
  law_calls (E.kinds rfl a0) rfl (args_cons (arg_g (.int .i64 (.sym a0))) args_nil)
end Go.Proofs.Ytccfcenhpmdemaa.B
