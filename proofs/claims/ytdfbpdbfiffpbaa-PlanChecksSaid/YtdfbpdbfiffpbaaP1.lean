/- plan: contracts of the functions that PlanEdges reaches. -/
import Derived.Test.YtdfbpdbfiffpbaaK
import Derived.Outline
namespace Go.Proofs.Ytdfbpdbfiffpbaa.B
open Go.RowKit Go.Proofs.YtdfbpdbfiffpbaaW.PrintWords Go.Proofs.YtdfbpdbfiffpbaaW.PrintLast Go.Proofs.YtdfbpdbfiffpbaaW.PrintMore
set_option linter.unusedVariables false

theorem tmod_emod (v n : Int) (h : 1 ≤ n) : v % n = if v.tmod n < 0 then v.tmod n + n else v.tmod n := by
  rw [Int.tmod_eq_emod]
  have h1 := Int.emod_nonneg v (show n ≠ 0 by omega)
  have h2 := Int.emod_lt_of_pos v (show 0 < n by omega)
  by_cases hc : 0 ≤ v ∨ n ∣ v
  · rw [if_pos hc]
    split <;> omega
  · rw [if_neg hc]
    split <;> omega
set_option maxHeartbeats 400000 in
theorem keep_within (v n : Int) (w : World) (h : 1 ≤ n) (hn : n ≤ 1000000) :
    Calls Try.prog 9 #[.int .i64 v, .int .i64 n] w fun e w' => e = .returned (.int .i64 (v % n)) ∧ w = w' := by
  have h0 := tmod_emod v n h
  have h1 := Int.emod_nonneg v (show n ≠ 0 by omega)
  have h2 := Int.emod_lt_of_pos v (show 0 < n by omega)
  generalize v % n = r at *
  have H0 := Lib.hid h0
  clear h0
  have c1 : ¬ n < 1 := by omega
  have c2 : (n == 0) = false := by simp; omega
  go_enter Try.func9, Try.ntmps9
  go_wp2
  · have hc : v.tmod n < 0 := by assumption
    go_ret
    refine ⟨ret_int ?_, rfl⟩
    rw [H0.out, if_pos hc] at h2 h1 ⊢
    unfold wrap64
    omega
  · have hc : 0 ≤ v.tmod n := by assumption
    go_ret
    refine ⟨ret_int ?_, rfl⟩
    rw [H0.out, if_neg (by omega)]
/-- from 1 to m -/
def wi (n m : Int) : Bool := decide (1 ≤ n) && decide (n ≤ m)
theorem wi_iff {n m : Int} : wi n m = true ↔ 1 ≤ n ∧ n ≤ m := by simp [wi]
set_option maxHeartbeats 400000 in
theorem plan_within (n m : Int) (w : World) :
    Calls Try.prog 26 #[.int .i64 n, .int .i64 m] w fun e w' => e = .returned (.bool (wi n m)) ∧ w = w' := by
  by_cases h1 : 1 ≤ n
  all_goals
    go_enter Try.func26, Try.ntmps26
    go_wp2
    go_ret
    exact ⟨ret_bool (by simp [wi]; omega), rfl⟩
def ckB (c : GConfig) (n : Nat) : Bool := (wi c.nodes 6 && wi c.lines 8 && wi c.words 4) && (wi c.sets 4 && wi c.ways 3) && (wi c.out 8 && wi c.in_ 8) && decide ((n : Int) ≤ c.lines * c.words)
def ckR (c : GConfig) (n : Nat) : Int := if ckB c n then 0 else 1
theorem wrap_small (x : Int) (h : -9223372036854775808 ≤ x) (h' : x ≤ 9223372036854775807) : wrap64 x = x := by unfold wrap64; omega
theorem mul_small {a b : Int} (h1 : wi a 8 = true) (h2 : wi b 4 = true) : wrap64 (a * b) = a * b := by
  rw [wi_iff] at h1 h2
  have : 0 ≤ a * b := Int.mul_nonneg (by omega) (by omega)
  have : a * b ≤ 8 * 4 := Int.mul_le_mul h1.2 h2.2 (by omega) (by omega)
  exact wrap_small _ (by omega) (by omega)
set_option maxHeartbeats 4000000 in
theorem plan_check (c : GConfig) (A : Option Addr) (n cc : Nat) (w : World) :
    Calls Try.prog 10 #[(.agg #[.int .i64 c.nodes, .int .i64 c.lines, .int .i64 c.words, .int .i64 c.sets, .int .i64 c.ways, .int .i64 c.out, .int .i64 c.in_, .slice A n cc])] w fun e w' => e = .returned (.int .i64 (ckR c n)) ∧ New w w' := by
  go_enter Try.func10, Try.ntmps10
  go_wp2_with (go_at_call 26; (with_reducible refine (plan_within _ _ _).mono ?_); rintro e w' ⟨rfl, rfl⟩)
  all_goals
    go_ret
    refine ⟨ret_int ?_, (Ext.refl _ _).alloc _⟩
    unfold ckR ckB
    first | (simp [*]; done) | skip
  · have h : wrap64 (c.lines * c.words) < ↑n := by assumption
    rw [mul_small (by assumption) (by assumption)] at h
    simp [*]
  · have h : ↑n ≤ wrap64 (c.lines * c.words) := by assumption
    rw [mul_small (by assumption) (by assumption)] at h
    simp [*]
set_option maxHeartbeats 4000000 in
theorem wakes02 (w : World) : Calls Try.prog 11 #[] w fun e w' => e = .returned (.bool true) ∧ New w w' := by
  go_enter Try.func11, Try.ntmps11
  go_wp2_with (go_at_call 10; (with_reducible refine (plan_check ⟨_, _, _, _, _, _, _, []⟩ _ _ _ _).mono ?_); rintro e w' ⟨rfl, hn⟩)
  go_ret
  exact ⟨ret_bool (by decide), Ext.then_new (by assumption) hn⟩
end Go.Proofs.Ytdfbpdbfiffpbaa.B
