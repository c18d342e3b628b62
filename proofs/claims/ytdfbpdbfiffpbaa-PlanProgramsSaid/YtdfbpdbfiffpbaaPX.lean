/- Plain facts on programs that may be, and that may not. -/
import Derived.Test.YtdfbpdbfiffpbaaPT
namespace Go.Proofs.Ytdfbpdbfiffpbaa.E
open Go
set_option linter.unusedVariables false
set_option maxRecDepth 100000

theorem okProgs_good {q : CF} {ps : List (List OP)} (hl : (ps.length : Int) = q.a) (h : ∀ ops ∈ ps, ops.length ≤ 24 ∧ ∀ o ∈ ops, okOp q o = true) : okProgs q ps = true := by
  have : ps.any (badProg q) = false := by
    rw [List.any_eq_false]
    intro ops hm
    obtain ⟨h1, h2⟩ := h ops hm
    unfold badProg
    have h3 : ops.any (fun o => !okOp q o) = false := by
      rw [List.any_eq_false]
      intro o ho
      rw [h2 o ho]
      decide
    rw [h3, decide_eq_false (by omega)]
    decide
  unfold okProgs
  simp [this, hl]
theorem okProgs_len {q : CF} {ps : List (List OP)} (hl : (ps.length : Int) ≠ q.a) : okProgs q ps = false := by unfold okProgs; simp [hl]
theorem okProgs_bad {q : CF} {ps : List (List OP)} (ops : List OP) (hm : ops ∈ ps) (h : badProg q ops = true) : okProgs q ps = false := by
  have : ps.any (badProg q) = true := List.any_eq_true.2 ⟨ops, hm, h⟩
  unfold okProgs
  simp [this]
theorem bad_long {q : CF} {ops : List OP} (h : 24 < ops.length) : badProg q ops = true := by unfold badProg; simp [h]
theorem bad_op {q : CF} {ops : List OP} (o : OP) (hm : o ∈ ops) (h : okOp q o = false) : badProg q ops = true := by
  unfold badProg
  rw [Bool.or_eq_true]
  exact .inr (List.any_eq_true.2 ⟨o, hm, by rw [h]; rfl⟩)
theorem isPs_snoc {L : List (List G)} {ps : List (List OP)} (h : isPs L ps) : isPs (L ++ [[.nil]]) (ps ++ [[]]) := ⟨by simp [h.1], fun i ops hi => by
  rw [List.getElem?_append] at hi
  split at hi
  · rename_i hlt
    obtain ⟨g, h1, h2⟩ := h.2 i ops hi
    exact ⟨g, by rw [List.getElem?_append_left (by rw [h.1]; exact hlt)]; exact h1, h2⟩
  · rename_i hge
    rw [List.getElem?_append_right (by rw [h.1]; omega), h.1]
    cases hq : i - ps.length with
    | zero => rw [hq] at hi; simp at hi; subst hi; exact ⟨_, rfl, .inr ⟨rfl, rfl⟩⟩
    | succ m => rw [hq] at hi; simp at hi⟩
/-- One thing of them may not be. -/
def rows7 (mo : Int) : List (List G) := [[.int .i64 (.sym 0), .int .i64 (.sym 0), .int .i64 (.sym 0)], [.int .i64 (.sym 5), .int .i64 (.sym 0), .int .i64 (.sym 0)], [.int .i64 (.sym (-1)), .int .i64 (.sym 0), .int .i64 (.sym 0)], [.int .i64 (.sym 1), .int .i64 (.sym (-1)), .int .i64 (.sym 0)],
  [.int .i64 (.sym 2), .int .i64 (.sym mo), .int .i64 (.sym 0)], [.int .i64 (.sym 1), .int .i64 (.sym 0), .int .i64 (.sym 1)], [.int .i64 (.sym 4), .int .i64 (.sym 0), .int .i64 (.sym (-1))]]
theorem bad7 (q : CF) (i : Nat) (hi : i < 7) : ∃ bk ba bv, (rows7 (q.b * q.c))[i]? = some [.int .i64 (.sym bk), .int .i64 (.sym ba), .int .i64 (.sym bv)] ∧ okOp q ⟨bk, ba, bv⟩ = false := by
  have e : i = 0 ∨ i = 1 ∨ i = 2 ∨ i = 3 ∨ i = 4 ∨ i = 5 ∨ i = 6 := by omega
  rcases e with rfl | rfl | rfl | rfl | rfl | rfl | rfl
  · exact ⟨_, _, _, rfl, rfl⟩
  · exact ⟨_, _, _, rfl, rfl⟩
  · exact ⟨_, _, _, rfl, rfl⟩
  · exact ⟨_, _, _, rfl, by unfold okOp; simp⟩
  · exact ⟨_, _, _, rfl, by unfold okOp; simp⟩
  · exact ⟨_, _, _, rfl, by unfold okOp; simp⟩
  · exact ⟨_, _, _, rfl, by unfold okOp; simp⟩
/-- A program of 24 operations, of which so many are laid. -/
def fill (mo v : Int) (i : Nat) : List OP := (List.range 24).map fun j => if j < i then ⟨3, (j : Int).tmod mo, v⟩ else ⟨0, 0, 0⟩
theorem fill_len (mo v : Int) (i : Nat) : (fill mo v i).length = 24 := by unfold fill; simp
theorem fill_zero (mo v : Int) : isO (List.replicate 24 [.int .i64 (.sym 0), .int .i64 (.sym 0), .int .i64 (.sym 0)]) (fill mo v 0) := rfl
theorem fill_get (mo v : Int) (i j : Nat) (hj : j < 24) : (fill mo v i)[j]? = some (if j < i then ⟨3, (j : Int).tmod mo, v⟩ else ⟨0, 0, 0⟩) := by
  unfold fill
  rw [List.getElem?_map, List.getElem?_range hj]
  rfl
theorem fill_step (mo v : Int) (i : Nat) (hi : i < 24) : (fill mo v i).set i ⟨3, (i : Int).tmod mo, v⟩ = fill mo v (i + 1) := by
  refine List.ext_getElem? fun j => ?_
  rw [List.getElem?_set]
  by_cases hj : j < 24
  · rw [fill_get mo v (i + 1) j hj, fill_get mo v i j hj, fill_len]
    by_cases h : i = j
    · subst h
      simp [hi]
    · rw [if_neg h]
      by_cases h2 : j < i
      · rw [if_pos h2, if_pos (by omega)]
      · rw [if_neg h2, if_neg (by omega)]
  · rw [List.getElem?_eq_none (by rw [fill_len]; omega), List.getElem?_eq_none (l := fill mo v (i + 1)) (by rw [fill_len]; omega), if_neg (by omega)]
theorem fill_ok (q : CF) (v : Int) (hm : 0 < q.b * q.c) : ∀ o ∈ fill (q.b * q.c) v 24, okOp q o = true := fun o ho => by
  unfold fill at ho
  obtain ⟨j, hj, rfl⟩ := List.mem_map.1 ho
  rw [if_pos (by simpa using hj)]
  exact okOp_is q 3 _ v (by omega) ⟨Int.tmod_nonneg _ (by omega), Int.tmod_lt_of_pos _ hm⟩ (.inr (.inr rfl))
end Go.Proofs.Ytdfbpdbfiffpbaa.E
