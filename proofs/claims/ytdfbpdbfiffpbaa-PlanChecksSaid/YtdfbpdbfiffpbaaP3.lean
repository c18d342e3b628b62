/- plan: the reference's Check; whether any configuration may be. -/
import Derived.Test.YtdfbpdbfiffpbaaP2
namespace Go.Proofs.Ytdfbpdbfiffpbaa.B
open Go.RowKit Go.Proofs.YtdfbpdbfiffpbaaW.PrintWords Go.Proofs.YtdfbpdbfiffpbaaW.PrintLast Go.Proofs.YtdfbpdbfiffpbaaW.PrintMore
set_option linter.unusedVariables false

set_option maxHeartbeats 400000 in
theorem ref_within (n m : Int) (w : World) :
    Calls Try.prog 28 #[.int .i64 n, .int .i64 m] w fun e w' => e = .returned (.bool (wi n m)) ∧ w = w' := by
  by_cases h1 : 1 ≤ n
  all_goals
    go_enter Try.func28, Try.ntmps28
    go_wp2
    go_ret
    exact ⟨ret_bool (by simp [wi]; omega), rfl⟩
set_option maxHeartbeats 4000000 in
theorem ref_check (c : GConfig) (A : Option Addr) (n cc : Nat) (w : World) :
    Calls Try.prog 14 #[(.agg #[.int .i64 c.nodes, .int .i64 c.lines, .int .i64 c.words, .int .i64 c.sets, .int .i64 c.ways, .int .i64 c.out, .int .i64 c.in_, .slice A n cc])] w fun e w' => e = .returned (.bool (ckB c n)) ∧ New w w' := by
  go_enter Try.func14, Try.ntmps14
  go_wp2_with (go_at_call 28; (with_reducible refine (ref_within _ _ _).mono ?_); rintro e w' ⟨rfl, rfl⟩)
  all_goals
    go_ret
    refine ⟨ret_bool ?_, (Ext.refl _ _).alloc _⟩
    unfold ckB
    first | (simp [*]; done) | skip
  rw [mul_small (by assumption) (by assumption)]
  simp [*]
end Go.Proofs.Ytdfbpdbfiffpbaa.B
