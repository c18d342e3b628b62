/- CrcAdds, with its arguments as they are read. -/
import Derived.Test.YtdkbcjefbbkbcaaQAdds
import Derived.Test.YtdkbcjefbbkbcaaK
namespace Go.Proofs.Ytdkbcjefbbkbcaa.B
open Go.RowKit Go.Proofs.YtdkbcjefbbkbcaaW.PrintWords Go.Proofs.Ytdkbcjefbbkbcaa.E
set_option linter.unusedVariables false
theorem lawCrcAdds (w : World) (A0 : Option Addr) (c0 : Nat) (l0 : (List Int)) (r0 : (Kd.int .u8).C w A0 l0.length l0) (e0 : l0.length ≤ c0) (z0 : l0.length * 1 ≤ 140737488351232) (w0 : (∀ y ∈ l0, (Lit.int .u8 y).wf = true)) (A1 : Option Addr) (c1 : Nat) (l1 : (List Int)) (r1 : (Kd.int .u8).C w A1 l1.length l1) (e1 : l1.length ≤ c1) (z1 : l1.length * 1 ≤ 140737488351232) (w1 : (∀ y ∈ l1, (Lit.int .u8 y).wf = true)) :
    Calls Try.prog 4 #[.slice A0 l0.length c0, .slice A1 l1.length c1] w fun e w' => e = .returned (.bool true) ∧ Below w.heap.size w w' :=
  law_calls (E.adds rfl _ _ (Exists.imp (fun _ h => h.1) (rowsB w0)) (Exists.imp (fun _ h => h.1) (rowsB w1))) rfl (args_cons (arg_g (nums_rep r0 e0)) (args_cons (arg_g (nums_rep r1 e1)) args_nil))
end Go.Proofs.Ytdkbcjefbbkbcaa.B
