/- PlanTells, with its arguments as they are read. -/
import Derived.Test.YtdfbpdbfiffpbaaPTells
import Derived.Test.YtdfbpdbfiffpbaaK
namespace Go.Proofs.Ytdfbpdbfiffpbaa.B
open Go.RowKit Go.Proofs.YtdfbpdbfiffpbaaW.PrintWords Go.Proofs.Ytdfbpdbfiffpbaa.E
set_option linter.unusedVariables false
theorem cells_nil {F : Env} {m : Mem} {w : World} : ∀ (i : Nat) (x : C), ([] : List C)[i]? = some x → ∃ u, ([] : List Value)[i]? = some u ∧ CRep F m w x u := fun i x h => by simp at h
theorem cells_cons {F : Env} {m : Mem} {w : World} {x : C} {u : Value} {l : List C} {us : List Value} (h : CRep F m w x u) (hl : ∀ (i : Nat) (x : C), l[i]? = some x → ∃ u, us[i]? = some u ∧ CRep F m w x u) :
    ∀ (i : Nat) (y : C), (x :: l)[i]? = some y → ∃ u', (u :: us)[i]? = some u' ∧ CRep F m w y u' := fun i y hi => by
  cases i with
  | zero => simp at hi; subst hi; exact ⟨u, rfl, h⟩
  | succ i => simpa using hl i y (by simpa using hi)
theorem arg_agg {w : World} {l : List C} {us : List Value} (h0 : us.length = l.length) (h : ∀ (i : Nat) (x : C), l[i]? = some x → ∃ u, us[i]? = some u ∧ CRep (nought w) [] w x u) : V1Rep (nought w) [] w (.agg l) (.agg us.toArray) :=
  ⟨us.toArray, rfl, by simpa using h0, fun i x hi => by simpa using h i x hi⟩
theorem cell_g {w : World} {x : G} {u : Value} (h : GRep (fun k => k < w.heap.size) w x u) : CRep (nought w) [] w (.g x) u := h
theorem lawPlanTells (w : World) (cs0 : List Value) (x0 : GSetup) (r0 : kGSetup.K w x0 cs0) (w0 : wfGSetup x0) (a1 : Int) (w1 : (Lit.int .i64 a1).wf = true) (a2 : Int) (w2 : (Lit.int .i64 a2).wf = true) (A3 : Option Addr) (c3 : Nat) (l3 : (List Int)) (r3 : (Kd.int .i64).C w A3 l3.length l3) (e3 : l3.length ≤ c3) (z3 : l3.length * 8 ≤ 140737488351232) (w3 : (∀ y ∈ l3, (Lit.int .i64 y).wf = true)) (A4 : Option Addr) (c4 : Nat) (l4 : (List Int)) (r4 : (Kd.int .i64).C w A4 l4.length l4) (e4 : l4.length ≤ c4) (z4 : l4.length * 8 ≤ 140737488351232) (w4 : (∀ y ∈ l4, (Lit.int .i64 y).wf = true)) (A5 : Option Addr) (c5 : Nat) (l5 : (List Int)) (r5 : (Kd.int .i64).C w A5 l5.length l5) (e5 : l5.length ≤ c5) (z5 : l5.length * 8 ≤ 140737488351232) (w5 : (∀ y ∈ l5, (Lit.int .i64 y).wf = true)) (a6 : Int) (w6 : (Lit.int .i64 a6).wf = true) :
    Calls Try.prog 8 #[.agg cs0.toArray, .int .i64 a1, .int .i64 a2, .slice A3 l3.length c3, .slice A4 l4.length c4, .slice A5 l5.length c5, .int .i64 a6] w fun e w' => e = .returned (.bool true) ∧ Below w.heap.size w w' := by
  obtain ⟨AA0, cc0, AA1, cc1, AA2, cc2, AA3, cc3, AA4, cc4, rfl, mm0, gg0, mm1, gg1, mm2, gg2, mm3, gg3, mm4, gg4⟩ := kGSetup_open r0
  exact law_calls (E.ptells rfl x0.nodes x0.lines x0.words x0.sets x0.ways x0.out x0.in_ a1 a2 a6 _ _ _ _ _ _ _ _ _ _ _ _ _ l3 l4 l5 rfl rfl rfl rfl rfl rfl rfl rfl) rfl (args_cons (arg_agg rfl (cells_cons (cell_g (.int .i64 (.sym _))) (cells_cons (cell_g (.int .i64 (.sym _))) (cells_cons (cell_g (.int .i64 (.sym _))) (cells_cons (cell_g (.int .i64 (.sym _))) (cells_cons (cell_g (.int .i64 (.sym _))) (cells_cons (cell_g (.int .i64 (.sym _))) (cells_cons (cell_g (.int .i64 (.sym _))) (cells_cons (cell_g (nums_rep gg0 mm0)) (cells_cons (cell_g (nums_rep gg1 mm1)) (cells_cons (cell_g (nums_rep gg2 mm2)) (cells_cons (cell_g (nums_rep gg3 mm3)) (cells_cons (cell_g (nums_rep gg4 mm4)) cells_nil))))))))))))) (args_cons (arg_g (.int .i64 (.sym a1))) (args_cons (arg_g (.int .i64 (.sym a2))) (args_cons (arg_g (nums_rep r3 e3)) (args_cons (arg_g (nums_rep r4 e4)) (args_cons (arg_g (nums_rep r5 e5)) (args_cons (arg_g (.int .i64 (.sym a6))) args_nil)))))))
end Go.Proofs.Ytdfbpdbfiffpbaa.B
