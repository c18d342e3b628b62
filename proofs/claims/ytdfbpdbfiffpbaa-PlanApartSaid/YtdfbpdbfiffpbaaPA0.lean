/- Contracts: a line's words, wakes. -/
import Derived.Test.YtdfbpdbfiffpbaaMC
namespace Go.Proofs.Ytdfbpdbfiffpbaa.E
open Go
set_option linter.unusedVariables false
set_option maxRecDepth 100000
set_option linter.unusedSimpArgs false

/-- A line's words: none, where there is no such line. -/
def wordsA (q : CF) (z : Int) : List Int := if 0 ≤ z ∧ z < q.b then wordsL q.ini q.c.toNat z.toNat else []
theorem wordsA_len (q : CF) (hq : q.ok) (z : Int) : (wordsA q z).length ≤ 2 := by
  have := hq.hc
  unfold wordsA
  split
  · rw [wordsL_len]; omega
  · simp
section
variable {P : Program} (hp : P = Try.prog)
include hp
theorem pwithin (x n : Int) : LValid P 26 [.c (.g (.int .i64 (.lit x))), .c (.g (.int .i64 (.lit n)))] [] (fun v m1 => ∃ t, t = (decide (1 ≤ x) && decide (x ≤ n)) ∧ v = boo t ∧ m1 = []) := by
  refine bx (LValid.sy (LValid.boo ?_))
  show LValid P 26 [.c (.g (.int .i64 (.sym x))), .c (.g (.int .i64 (.sym n)))] [] _
  obtain ⟨I, hI⟩ := ref
  refine fn_sim hI (mo hp) (cc hp c26) fun Post hP => ?_
  cbv
  refine .br (fun h => ?_) (fun h => ?_) <;> cbv
  · have h' : 1 ≤ x := by simpa [hI, ints, rCmp] using h
    exact hP _ _ [] [] _ _ .nil rfl rfl rfl rfl rfl ⟨_, rfl, by show I.cmp .leq x n = _; rw [hI]; simp [ints, rCmp, h'], rfl⟩
  · have h' : ¬ 1 ≤ x := by simpa [hI, ints, rCmp] using h
    exact hP _ _ [] [] _ _ .nil rfl rfl rfl rfl rfl ⟨_, rfl, by show (false : Bool) = _; simp [h'], rfl⟩
theorem check0 : LValid P 10 [.agg [.g (.int .i64 (.lit 0)), .g (.int .i64 (.lit 0)), .g (.int .i64 (.lit 0)), .g (.int .i64 (.lit 0)), .g (.int .i64 (.lit 0)), .g (.int .i64 (.lit 0)), .g (.int .i64 (.lit 0)), .g .nil]] [] (fun v m1 => v = i64 1 ∧ m1 = []) := by
  refine LValid.num ?_
  obtain ⟨I, hI⟩ := ref
  refine fn_sim hI (mo hp) (cc hp c10) fun Post hP => ?_
  cbv
  repeat' first
    | (refine .go [] [] [] (pwithin hp _ _) rfl rfl rfl rfl rfl rfl ?_; rintro r m1 ⟨_, rfl, rfl, rfl⟩; cbv)
    | (refine br_f rfl ?_; cbv)
    | (refine br_t rfl ?_; cbv)
    | (refine br_f ?_ ?_; (focus (rw [hI]; rfl)); cbv)
    | (refine br_t ?_ ?_; (focus (rw [hI]; rfl)); cbv)
  exact hP _ _ [] [] _ _ .nil rfl rfl rfl rfl rfl ⟨_, rfl, rfl, rfl⟩
theorem check1 : LValid P 10 [.agg [.g (.int .i64 (.lit 1)), .g (.int .i64 (.lit 1)), .g (.int .i64 (.lit 1)), .g (.int .i64 (.lit 1)), .g (.int .i64 (.lit 1)), .g (.int .i64 (.lit 1)), .g (.int .i64 (.lit 1)), .g .nil]] [] (fun v m1 => v = i64 0 ∧ m1 = []) := by
  refine LValid.num ?_
  obtain ⟨I, hI⟩ := ref
  refine fn_sim hI (mo hp) (cc hp c10) fun Post hP => ?_
  cbv
  repeat' first
    | (refine .go [] [] [] (pwithin hp _ _) rfl rfl rfl rfl rfl rfl ?_; rintro r m1 ⟨_, rfl, rfl, rfl⟩; cbv)
    | (refine br_f rfl ?_; cbv)
    | (refine br_t rfl ?_; cbv)
    | (refine br_f ?_ ?_; (focus (rw [hI]; rfl)); cbv)
    | (refine br_t ?_ ?_; (focus (rw [hI]; rfl)); cbv)
  exact hP _ _ [] [] _ _ .nil rfl rfl rfl rfl rfl ⟨_, rfl, rfl, rfl⟩
theorem wakes : LValid P 11 [] [] (fun v m1 => v = boo true ∧ m1 = []) := by
  refine LValid.boo ?_
  obtain ⟨I, hI⟩ := ref
  refine fn_sim hI (mo hp) (cc hp c11) fun Post hP => ?_
  cbv
  refine .go [] [] [] (check0 hp) rfl rfl rfl rfl rfl rfl ?_
  rintro r m1 ⟨rfl, rfl⟩
  cbv
  refine br_t (by rw [hI]; rfl) ?_
  cbv
  refine .go [] [] [] (check1 hp) rfl rfl rfl rfl rfl rfl ?_
  rintro r m1 ⟨rfl, rfl⟩
  cbv
  exact hP _ _ [] [] _ _ .nil rfl rfl rfl rfl rfl ⟨_, rfl, by rw [hI]; rfl, rfl⟩
theorem wordsG (q : CF) (hq : q.ok) (L : List (List G)) (hL : isL .i64 L q.ini) (z : Int) : LValid P 19 [q.arg L, gi .i64 z] [] (fun v m1 => ∃ W, isL .i64 W (wordsA q z) ∧ v = .one (.c (.g (.rows 1 W))) ∧ m1 = []) := by
  by_cases h : 0 ≤ z ∧ z < q.b
  · have := words hp q hq L hL (.sym z) z.toNat (by unfold isN; show z = _; omega) (by omega)
    unfold wordsA
    rw [if_pos h]
    exact this
  · refine LValid.nilr 1 (R := fun v m1 => v = .one (.c (.g .nil)) ∧ m1 = []) ?_ (fun v m1 ⟨h1, h2⟩ => .inr ⟨h1, [], by unfold wordsA; rw [if_neg h]; rfl, rfl, h2⟩)
    obtain ⟨I, hI⟩ := ref
    obtain ⟨qa, qb, qc, qd, qe, qf, qg, ini⟩ := q
    have h : ¬ (0 ≤ z ∧ z < qb) := h
    have hg : I.cmp .lss z 0 = false → I.cmp .geq z qb = true := fun g => by
      rw [hI] at g ⊢
      have g := of_decide_eq_false (show decide (z < 0) = false from g)
      show decide (z ≥ qb) = true
      exact decide_eq_true (by omega)
    clear h
    refine fn_sim hI (mo hp) (cc hp c19) fun Post hP => ?_
    cbv
    refine .br (fun g => ?_) (fun g => ?_)
    · cbv
      exact hP _ _ [] [] _ _ .nil rfl rfl rfl rfl rfl ⟨rfl, rfl⟩
    · have hg := hg g
      cbv
      refine br_t hg ?_
      cbv
      exact hP _ _ [] [] _ _ .nil rfl rfl rfl rfl rfl ⟨rfl, rfl⟩
end
end Go.Proofs.Ytdfbpdbfiffpbaa.E
