/- PlanEdges: for every input that can be read as data the law returns true, and each argument reads as it did: no further condition. -/
import Derived.Test.YtdfbpdbfiffpbaaPPlanEdgesx2
namespace Go.Proofs.Ytdfbpdbfiffpbaa.Pure
open Go.RowKit Go.Proofs.Ytdfbpdbfiffpbaa.PPlanEdges Go.Proofs.YtdfbpdbfiffpbaaW.PrintWords Go.Proofs.YtdfbpdbfiffpbaaW.PrintLast

theorem tmod_emod (v n : Int) (h : 1 ≤ n) : v % n = if v.tmod n < 0 then v.tmod n + n else v.tmod n := by
  rw [Int.tmod_eq_emod]
  have h1 := Int.emod_nonneg v (show n ≠ 0 by omega)
  have h2 := Int.emod_lt_of_pos v (show 0 < n by omega)
  by_cases hc : 0 ≤ v ∨ n ∣ v
  · rw [if_pos hc]
    split <;> omega
  · rw [if_neg hc]
    split <;> omega
theorem within_is (v n : Int) (h : 1 ≤ n) (hn : n ≤ 1000000) : chapletkeep_Within.f v n = some (v % n) := by
  have h0 := tmod_emod v n h
  have h1 := Int.emod_nonneg v (show n ≠ 0 by omega)
  have h2 := Int.emod_lt_of_pos v (show 0 < n by omega)
  unfold chapletkeep_Within.f
  rw [if_neg (by omega), if_neg (by omega)]
  split
  · rename_i hc
    rw [if_pos hc] at h0
    unfold wrap64
    simp only [Option.some.injEq]
    omega
  · rename_i hc
    rw [if_neg hc] at h0
    rw [h0]
def restOf (w n : Int) : Option Bool :=
  if w = 0 then (chapletlaw02_PlanEdges.j0 10 (wrap64 (n - 1)) 6 (wrap64 (n - 1)) 1 1 1 1 1 1)
  else if w = 1 then (chapletlaw02_PlanEdges.j0 10 (wrap64 (n - 1)) 8 1 (wrap64 (n - 1)) 1 1 1 1 1)
  else if w = 2 then (chapletlaw02_PlanEdges.j0 10 (wrap64 (n - 1)) 4 1 1 (wrap64 (n - 1)) 1 1 1 1)
  else if w = 3 then (chapletlaw02_PlanEdges.j0 10 (wrap64 (n - 1)) 4 1 1 1 (wrap64 (n - 1)) 1 1 1)
  else if w = 4 then (chapletlaw02_PlanEdges.j0 10 (wrap64 (n - 1)) 3 1 1 1 1 (wrap64 (n - 1)) 1 1)
  else if w = 5 then (chapletlaw02_PlanEdges.j0 10 (wrap64 (n - 1)) 8 1 1 1 1 1 (wrap64 (n - 1)) 1)
  else (chapletlaw02_PlanEdges.j0 10 (wrap64 (n - 1)) 8 1 1 1 1 1 1 (wrap64 (n - 1)))
theorem rest_true (w n : Int) (hw : w = 0 ∨ w = 1 ∨ w = 2 ∨ w = 3 ∨ w = 4 ∨ w = 5 ∨ w = 6) (hn : n = 0 ∨ n = 1 ∨ n = 2 ∨ n = 3 ∨ n = 4 ∨ n = 5 ∨ n = 6 ∨ n = 7 ∨ n = 8 ∨ n = 9 ∨ n = 10 ∨ n = 11) : restOf w n = some true := by
  rcases hw with rfl | rfl | rfl | rfl | rfl | rfl | rfl
  all_goals
    rcases hn with rfl | rfl | rfl | rfl | rfl | rfl | rfl | rfl | rfl | rfl | rfl | rfl
  all_goals
    simp [restOf, chapletlaw02_PlanEdges.j0, chapletlaw02_PlanEdges.j1, chapletlaw02_PlanEdges.j2, plan_Check.f, plan_Check.j0, plan_Check.j1, plan_within.f, chapletlaw02_wakes.f, wrap64]
theorem PlanEdges : chapletlaw02_PlanEdges.Pure := by
  intro a0 a1 _ _
  refine ⟨10, ?_⟩
  unfold chapletlaw02_PlanEdges.f
  rw [within_is _ _ (by omega) (by omega)]
  have h7 : a0 % 7 = 0 ∨ a0 % 7 = 1 ∨ a0 % 7 = 2 ∨ a0 % 7 = 3 ∨ a0 % 7 = 4 ∨ a0 % 7 = 5 ∨ a0 % 7 = 6 := by omega
  have hr : ∀ (w n : Int), 0 ≤ w → w < 7 → 0 ≤ n → n < 12 → restOf w n = some true := fun w n h0 h1 h2 h3 => rest_true w n (by omega) (by omega)
  have q0 : wrap64 (rd [6, 8, 4, 4, 3, 8, 8] 0 + 4) = 10 := by simp [rd, wrap64]
  have q1 : wrap64 (rd [6, 8, 4, 4, 3, 8, 8] 1 + 4) = 12 := by simp [rd, wrap64]
  have q2 : wrap64 (rd [6, 8, 4, 4, 3, 8, 8] 2 + 4) = 8 := by simp [rd, wrap64]
  have q3 : wrap64 (rd [6, 8, 4, 4, 3, 8, 8] 3 + 4) = 8 := by simp [rd, wrap64]
  have q4 : wrap64 (rd [6, 8, 4, 4, 3, 8, 8] 4 + 4) = 7 := by simp [rd, wrap64]
  have q5 : wrap64 (rd [6, 8, 4, 4, 3, 8, 8] 5 + 4) = 12 := by simp [rd, wrap64]
  have q6 : wrap64 (rd [6, 8, 4, 4, 3, 8, 8] 6 + 4) = 12 := by simp [rd, wrap64]
  simp only [Option.bind_some]
  rcases h7 with h | h | h | h | h | h | h <;> rw [h]
  all_goals
    rw [if_pos (by decide), if_pos (by decide)]
  · rw [q0, within_is _ _ (by decide) (by decide)]
    exact hr 0 (a1 % 10) (by omega) (by omega) (by omega) (by omega)
  · rw [q1, within_is _ _ (by decide) (by decide)]
    exact hr 1 (a1 % 12) (by omega) (by omega) (by omega) (by omega)
  · rw [q2, within_is _ _ (by decide) (by decide)]
    exact hr 2 (a1 % 8) (by omega) (by omega) (by omega) (by omega)
  · rw [q3, within_is _ _ (by decide) (by decide)]
    exact hr 3 (a1 % 8) (by omega) (by omega) (by omega) (by omega)
  · rw [q4, within_is _ _ (by decide) (by decide)]
    exact hr 4 (a1 % 7) (by omega) (by omega) (by omega) (by omega)
  · rw [q5, within_is _ _ (by decide) (by decide)]
    exact hr 5 (a1 % 12) (by omega) (by omega) (by omega) (by omega)
  · rw [q6, within_is _ _ (by decide) (by decide)]
    exact hr 6 (a1 % 12) (by omega) (by omega) (by omega) (by omega)

end Go.Proofs.Ytdfbpdbfiffpbaa.Pure
