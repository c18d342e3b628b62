/- ProcPlays, with its arguments as they are read. -/
import Derived.Test.YtkpilokfplpjnaaQPlays
import Derived.Test.YtkpilokfplpjnaaK
namespace Go.Proofs.Ytkpilokfplpjnaa.B
open Go.RowKit Go.Proofs.YtkpilokfplpjnaaW.PrintWords Go.Proofs.Ytkpilokfplpjnaa.E
set_option linter.unusedVariables false
theorem lawProcPlays (w : World) (A0 : Option Addr) (c0 : Nat) (l0 : (List Int)) (r0 : (Kd.int .i64).C w A0 l0.length l0) (e0 : l0.length ≤ c0) (z0 : l0.length * 8 ≤ 140737488351232) (w0 : (∀ y ∈ l0, (Lit.int .i64 y).wf = true)) (A1 : Option Addr) (c1 : Nat) (l1 : (List Int)) (r1 : (Kd.int .i64).C w A1 l1.length l1) (e1 : l1.length ≤ c1) (z1 : l1.length * 8 ≤ 140737488351232) (w1 : (∀ y ∈ l1, (Lit.int .i64 y).wf = true)) (A2 : Option Addr) (c2 : Nat) (l2 : (List Int)) (r2 : (Kd.int .i64).C w A2 l2.length l2) (e2 : l2.length ≤ c2) (z2 : l2.length * 8 ≤ 140737488351232) (w2 : (∀ y ∈ l2, (Lit.int .i64 y).wf = true)) (A3 : Option Addr) (c3 : Nat) (l3 : (List Int)) (r3 : (Kd.int .i64).C w A3 l3.length l3) (e3 : l3.length ≤ c3) (z3 : l3.length * 8 ≤ 140737488351232) (w3 : (∀ y ∈ l3, (Lit.int .i64 y).wf = true)) :
    Calls Try.prog 5 #[.slice A0 l0.length c0, .slice A1 l1.length c1, .slice A2 l2.length c2, .slice A3 l3.length c3] w fun e w' => e = .returned (.bool true) ∧ Below w.heap.size w w' :=
  law_calls (E.plays rfl _ _ _ _ l0 l1 l2 l3 rfl rfl rfl rfl (by omega) (by omega) (by omega) (by omega)) rfl (args_cons (arg_g (nums_rep r0 e0)) (args_cons (arg_g (nums_rep r1 e1)) (args_cons (arg_g (nums_rep r2 e2)) (args_cons (arg_g (nums_rep r3 e3)) args_nil))))
end Go.Proofs.Ytkpilokfplpjnaa.B
