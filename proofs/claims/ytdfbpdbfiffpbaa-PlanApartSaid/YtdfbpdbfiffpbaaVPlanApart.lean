/- PlanApart, with its arguments as they are read. -/
import Derived.Test.YtdfbpdbfiffpbaaPA
import Derived.Test.YtdfbpdbfiffpbaaK
namespace Go.Proofs.Ytdfbpdbfiffpbaa.B
open Go.RowKit Go.Proofs.YtdfbpdbfiffpbaaW.PrintWords Go.Proofs.Ytdfbpdbfiffpbaa.E
set_option linter.unusedVariables false
theorem cells_nil {F : Env} {m : Mem} {w : World} : ∀ (i : Nat) (x : C), ([] : List C)[i]? = some x → ∃ u, ([] : List Value)[i]? = some u ∧ CRep F m w x u := fun i x h => by simp at h
theorem cells_cons {F : Env} {m : Mem} {w : World} {x : C} {u : Value} {l : List C} {us : List Value} (h : CRep F m w x u) (hl : ∀ (i : Nat) (x : C), l[i]? = some x → ∃ u, us[i]? = some u ∧ CRep F m w x u) :
    ∀ (i : Nat) (y : C), (x :: l)[i]? = some y → ∃ u', (u :: us)[i]? = some u' ∧ CRep F m w y u' := fun i y hi => by
  cases i with
  | zero => simp at hi; subst hi; exact ⟨u, rfl, h⟩
  | succ i => simpa using hl i y (by simpa using hi)
theorem arg_agg {w : World} {l : List C} {us : List Value} (h0 : us.length = l.length) (h : ∀ (i : Nat) (x : C), l[i]? = some x → ∃ u, us[i]? = some u ∧ CRep (nought w) [] w x u) : V1Rep (nought w) [] w (.agg l) (.agg us.toArray) :=
  ⟨us.toArray, rfl, by simpa using h0, fun i x hi => by simpa using h i x hi⟩
theorem cell_g {w : World} {x : G} {u : Value} (h : GRep (fun k => k < w.heap.size) w x u) : CRep (nought w) [] w (.g x) u := h
theorem lawPlanApart (w : World) (cs0 : List Value) (x0 : GSetup) (r0 : kGSetup.K w x0 cs0) (w0 : wfGSetup x0) :
    Calls Try.prog 6 #[.agg cs0.toArray] w fun e w' => e = .returned (.bool true) ∧ Below w.heap.size w w' := by
  obtain ⟨AA0, cc0, AA1, cc1, AA2, cc2, AA3, cc3, AA4, cc4, rfl, mm0, gg0, mm1, gg1, mm2, gg2, mm3, gg3, mm4, gg4⟩ := kGSetup_open r0
  exact law_calls (E.apart rfl x0.nodes x0.lines x0.words x0.sets x0.ways x0.out x0.in_ _ _ _ _ _ _ rfl) rfl (args_cons (arg_agg rfl (cells_cons (cell_g (.int .i64 (.sym _))) (cells_cons (cell_g (.int .i64 (.sym _))) (cells_cons (cell_g (.int .i64 (.sym _))) (cells_cons (cell_g (.int .i64 (.sym _))) (cells_cons (cell_g (.int .i64 (.sym _))) (cells_cons (cell_g (.int .i64 (.sym _))) (cells_cons (cell_g (.int .i64 (.sym _))) (cells_cons (cell_g (nums_rep gg0 mm0)) (cells_cons (cell_g (nums_rep gg1 mm1)) (cells_cons (cell_g (nums_rep gg2 mm2)) (cells_cons (cell_g (nums_rep gg3 mm3)) (cells_cons (cell_g (nums_rep gg4 mm4)) cells_nil))))))))))))) args_nil)
end Go.Proofs.Ytdfbpdbfiffpbaa.B
