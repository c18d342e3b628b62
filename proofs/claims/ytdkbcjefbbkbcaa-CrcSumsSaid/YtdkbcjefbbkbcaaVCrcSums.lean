/- CrcSums, with its arguments as they are read. -/
import Derived.Test.YtdkbcjefbbkbcaaQSums
import Derived.Test.YtdkbcjefbbkbcaaK
namespace Go.Proofs.Ytdkbcjefbbkbcaa.B
open Go.RowKit Go.Proofs.YtdkbcjefbbkbcaaW.PrintWords Go.Proofs.Ytdkbcjefbbkbcaa.E
set_option linter.unusedVariables false
theorem lawCrcSums (w : World) (A0 : Option Addr) (c0 : Nat) (l0 : (List Int)) (r0 : (Kd.int .u8).C w A0 l0.length l0) (e0 : l0.length ≤ c0) (z0 : l0.length * 1 ≤ 140737488351232) (w0 : (∀ y ∈ l0, (Lit.int .u8 y).wf = true)) (a1 : Int) (w1 : (Lit.int .i64 a1).wf = true) (a2 : Int) (w2 : (Lit.int .u16 a2).wf = true) (a3 : Int) (w3 : (Lit.int .i64 a3).wf = true) :
    Calls Try.prog 8 #[.slice A0 l0.length c0, .int .i64 a1, .int .u16 a2, .int .i64 a3] w fun e w' => e = .returned (.bool true) ∧ Below w.heap.size w w' :=
  law_calls (E.sums rfl _ (Exists.imp (fun _ h => h.1) (rowsB w0)) a1 (wf64 w1) a2 (wordIs w2) a3) rfl (args_cons (arg_g (nums_rep r0 e0)) (args_cons (arg_g (.int .i64 (.sym a1))) (args_cons (arg_g (.int .u16 (.sym a2))) (args_cons (arg_g (.int .i64 (.sym a3))) args_nil))))
end Go.Proofs.Ytdkbcjefbbkbcaa.B
