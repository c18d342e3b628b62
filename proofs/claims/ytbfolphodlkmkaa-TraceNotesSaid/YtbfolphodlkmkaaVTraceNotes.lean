/- TraceNotes, with its arguments as they are read. -/
import Derived.Test.YtbfolphodlkmkaaTNotes
import Derived.Test.YtbfolphodlkmkaaK
namespace Go.Proofs.Ytbfolphodlkmkaa.B
open Go.RowKit Go.Proofs.YtbfolphodlkmkaaW.PrintWords Go.Proofs.Ytbfolphodlkmkaa.E
set_option linter.unusedVariables false
def gA (x : GAct) : List G := [.int .i64 (.sym x.node), .int .i64 (.sym x.index), .int .i64 (.sym x.value), .bool (.sym x.done)]
theorem acts_rep {w : World} {Ad : Option Addr} {xs : List GAct} {c : Nat} (h : kGAct.C w Ad xs.length xs) (hc : xs.length ≤ c) : GRep (fun k => k < w.heap.size) w (.rows 4 (xs.map gA)) (.slice Ad xs.length c) :=
  rows_rep (d := kGAct) (g := gA) (by decide) (fun x cs hk => by
    have hk := kGAct_open hk
    subst hk
    refine ⟨rfl, fun i y hi => ?_⟩
    match i with
    | 0 => cases hi; exact ⟨_, rfl, .int .i64 (.sym x.node)⟩
    | 1 => cases hi; exact ⟨_, rfl, .int .i64 (.sym x.index)⟩
    | 2 => cases hi; exact ⟨_, rfl, .int .i64 (.sym x.value)⟩
    | 3 => cases hi; exact ⟨_, rfl, .bool (.sym x.done)⟩
    | i + 4 => simp [gA] at hi) h hc
theorem lawTraceNotes (w : World) (a0 : Int) (w0 : (Lit.int .i64 a0).wf = true) (A1 : Option Addr) (c1 : Nat) (l1 : (List GAct)) (r1 : kGAct.C w A1 l1.length l1) (e1 : l1.length ≤ c1) (z1 : l1.length * 32 ≤ 140737488351232) (w1 : (∀ y ∈ l1, wfGAct y)) (a2 : Bool) :
    Calls Try.prog 5 #[.int .i64 a0, .slice A1 l1.length c1, .bool a2] w fun e w' => e = .returned (.bool true) ∧ Below w.heap.size w w' := by
  exact law_calls (E.notes rfl a0 a2 (l1.map gA) (l1.map fun x => ⟨x.node, x.index, x.value, x.done⟩) (by unfold E.isAC; rw [List.map_map]; rfl)) rfl (args_cons (arg_g (.int .i64 (.sym a0))) (args_cons (arg_g (acts_rep r1 e1)) (args_cons (arg_g (.bool (.sym a2))) args_nil)))
end Go.Proofs.Ytbfolphodlkmkaa.B
