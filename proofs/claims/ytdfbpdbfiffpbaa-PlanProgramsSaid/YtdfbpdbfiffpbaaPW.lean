/- Plain facts on the programs of a setup. -/
import Derived.Test.YtdfbpdbfiffpbaaPE
namespace Go.Proofs.Ytdfbpdbfiffpbaa.E
open Go
set_option linter.unusedVariables false
set_option maxRecDepth 100000

/-- A program: at most so many operations, each of which may be. -/
def isP (L : List (List G)) (ops : List OP) (ok : OP → Bool) : Prop := isO L ops ∧ ops.length ≤ 24 ∧ ∀ o ∈ ops, ok o = true
theorem isP_nil (ok : OP → Bool) : isP [] [] ok := ⟨rfl, Nat.zero_le _, fun o h => by cases h⟩
theorem isP_app {I : Ints} (hI : I = ints) {L : List (List G)} {ops : List OP} {ok : OP → Bool} (h : isP L ops ok) (g : I.cmp .lss (I.ofNat (I.len L)) 24 = true) (o : OP) (ho : ok o = true) : isP (I.app L [o.row]) (ops ++ [o]) ok ∧ I.len (I.app L [o.row]) ≤ 24 := by
  obtain ⟨h1, h2, h3⟩ := h
  rw [hI] at g
  have hl : ((L.length : Nat) : Int) < 24 := of_decide_eq_true (show decide (((L.length : Nat) : Int) < 24) = true from g)
  rw [h1.len] at hl
  have h4 : isO (I.app L [o.row]) (ops ++ [o]) := by rw [hI]; exact h1.app rfl
  refine ⟨⟨h4, by simp; omega, fun x hx => ?_⟩, ?_⟩
  · rcases List.mem_append.1 hx with hx | hx
    · exact h3 x hx
    · simp at hx
      rw [hx]
      exact ho
  · have h5 := h4.len
    rw [hI] at h5 ⊢
    refine Nat.le_trans (Nat.le_of_eq h5) ?_
    simp
    omega
/-- The kinds of a setup's operations. -/
def seven : List (List G) := [[.int .i64 (.lit 1)], [.int .i64 (.lit 2)], [.int .i64 (.lit 3)], [.int .i64 (.lit 1)], [.int .i64 (.lit 2)], [.int .i64 (.lit 1)], [.int .i64 (.lit 4)]]
theorem seven_in (t : Int) : ∃ (iy : Nat) (kd : Int), isN (win t 7) iy ∧ iy < 7 ∧ (1 ≤ kd ∧ kd ≤ 4) ∧ seven[iy]? = some [.int .i64 (.lit kd)] := by
  have h := win_in t 7 (by omega) (by omega)
  generalize win t 7 = y at h
  have e : y = 0 ∨ y = 1 ∨ y = 2 ∨ y = 3 ∨ y = 4 ∨ y = 5 ∨ y = 6 := by omega
  rcases e with rfl | rfl | rfl | rfl | rfl | rfl | rfl
  · exact ⟨0, 1, rfl, by omega, by omega, rfl⟩
  · exact ⟨1, 2, rfl, by omega, by omega, rfl⟩
  · exact ⟨2, 3, rfl, by omega, by omega, rfl⟩
  · exact ⟨3, 1, rfl, by omega, by omega, rfl⟩
  · exact ⟨4, 2, rfl, by omega, by omega, rfl⟩
  · exact ⟨5, 1, rfl, by omega, by omega, rfl⟩
  · exact ⟨6, 4, rfl, by omega, by omega, rfl⟩
theorem okOp_is (q : CF) (k a v : Int) (hk : 1 ≤ k ∧ k ≤ 4) (ha : 0 ≤ a ∧ a < q.b * q.c) (hv : v = 0 ∨ k = 2 ∨ k = 3) : okOp q ⟨k, a, v⟩ = true := by
  unfold okOp
  simp only [Bool.and_eq_true, Bool.or_eq_true, decide_eq_true_eq, beq_iff_eq]
  exact ⟨⟨⟨hk.1, hk.2⟩, ha⟩, by rcases hv with h | h | h <;> simp [h]⟩
theorem add1_in (v n : Int) (h : 0 < n) (hn : n ≤ 100) : 1 ≤ rBin .add .i64 1 (win v n) ∧ rBin .add .i64 1 (win v n) ≤ n := by
  have h1 := win_in v n h (by omega)
  have e : rBin .add .i64 1 (win v n) = 1 + win v n := by
    show IntKind.i64.wrap (1 + win v n) = _
    rw [wrap_in] <;> omega
  rw [e]
  omega
theorem CFof_in (a b c d e f g : Int) (xs : List Int) : (1 ≤ (CFof a b c d e f g xs).b ∧ (CFof a b c d e f g xs).b ≤ 4) ∧ (1 ≤ (CFof a b c d e f g xs).c ∧ (CFof a b c d e f g xs).c ≤ 2) := ⟨add1_in b 4 (by omega) (by omega), add1_in c 2 (by omega) (by omega)⟩
end Go.Proofs.Ytdfbpdbfiffpbaa.E
