/- EntryTells, with its arguments as they are read. -/
import Derived.Test.YtlndhigdknmokaaQTells
import Derived.Test.YtlndhigdknmokaaK
namespace Go.Proofs.Ytlndhigdknmokaa.B
open Go.RowKit Go.Proofs.YtlndhigdknmokaaW.PrintWords Go.Proofs.Ytlndhigdknmokaa.E
set_option linter.unusedVariables false
theorem lawEntryTells (w : World) (a0 : Int) (w0 : (Lit.int .i64 a0).wf = true) (a1 : Int) (w1 : (Lit.int .i64 a1).wf = true) (a2 : Int) (w2 : (Lit.int .i64 a2).wf = true) (a3 : Int) (w3 : (Lit.int .i64 a3).wf = true) (a4 : Int) (w4 : (Lit.int .i64 a4).wf = true) (a5 : Bool) (A6 : Option Addr) (c6 : Nat) (l6 : (List Int)) (r6 : (Kd.int .i64).C w A6 l6.length l6) (e6 : l6.length ≤ c6) (z6 : l6.length * 8 ≤ 140737488351232) (w6 : (∀ y ∈ l6, (Lit.int .i64 y).wf = true)) :
    Calls Try.prog 6 #[.int .i64 a0, .int .i64 a1, .int .i64 a2, .int .i64 a3, .int .i64 a4, .bool a5, .slice A6 l6.length c6] w fun e w' => e = .returned (.bool true) ∧ Below w.heap.size w w' :=
  law_calls (E.tells rfl a0 a1 a2 a3 a4 a5 _ l6 rfl (by simpa [nrow] using z6)) rfl (args_cons (arg_g (.int .i64 (.sym a0))) (args_cons (arg_g (.int .i64 (.sym a1))) (args_cons (arg_g (.int .i64 (.sym a2))) (args_cons (arg_g (.int .i64 (.sym a3))) (args_cons (arg_g (.int .i64 (.sym a4))) (args_cons (arg_g (.bool (.sym a5))) (args_cons (arg_g (nums_rep r6 e6)) args_nil)))))))
end Go.Proofs.Ytlndhigdknmokaa.B
