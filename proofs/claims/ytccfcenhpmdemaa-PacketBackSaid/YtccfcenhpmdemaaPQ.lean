/- Contract: a packet by small numbers, how = 0: one that may be. -/
import Derived.Test.YtccfcenhpmdemaaPR
namespace Go.Proofs.Ytccfcenhpmdemaa.E
open Go
set_option linter.unusedVariables false
set_option maxRecDepth 100000

/-- The packet that is made of any. -/
def pk0 (q : PK) : PK := ⟨1 + win q.k 9, win q.f 4, win q.t 4, win q.i 5, win q.l 4, win q.p 5 - 1, win q.s 3, q.b, q.d.take 4⟩
theorem pk0_check (q : PK) : checkB (pk0 q) = true := by
  have h1 := win_in q.k 9 (by decide) (by decide)
  have h2 := win_in q.f 4 (by decide) (by decide)
  have h3 := win_in q.t 4 (by decide) (by decide)
  have h4 := win_in q.i 5 (by decide) (by decide)
  have h5 := win_in q.l 4 (by decide) (by decide)
  have h6 := win_in q.p 5 (by decide) (by decide)
  have h7 := win_in q.s 3 (by decide) (by decide)
  unfold checkB belB pk0
  simp only [Bool.and_eq_true, decide_eq_true_eq, List.length_take]
  omega
section
variable {P : Program} (hp : P = Try.prog)
include hp
theorem withinL (v n : Int) : LValid P 10 [.c (.g (.int .i64 (.sym v))), .c (.g (.int .i64 (.lit n)))] [] (fun r m1 => ∃ t, t = win v n ∧ r = i64 t ∧ m1 = []) := within hp (.sym v) (.lit n)
set_option maxHeartbeats 16000000 in
theorem pplay0 (q : PK) (D : List (List G)) (hD : isL .i64 D q.d) : LValid P 21 [q.told (.bor 1 D), .c (.g (.int .i64 (.lit 0)))] []
    (fun v m1 => ∃ (r : PK) (D' : List (List G)), r = pk0 q ∧ isL .i64 D' r.d ∧ v = .one (r.told (.row 0 1 none)) ∧ m1 = [.sym 1 D']) := by
  refine LValid.sy ?_
  obtain ⟨k, f, t, i, l, p, s, b, d⟩ := q
  show LValid P 21 [.agg [.g (.int .i64 (.sym k)), .g (.int .i64 (.sym f)), .g (.int .i64 (.sym t)), .g (.int .i64 (.sym i)), .g (.int .i64 (.sym l)), .g (.int .i64 (.sym p)), .g (.int .i64 (.sym s)), .g (.bool (.sym b)), .bor 1 D], .c (.g (.int .i64 (.sym 0)))] [] _
  have hD : isL .i64 D d := hD
  obtain ⟨I, hI⟩ := ref
  have hc4 := cut8 hp D (.lit 4) 4 rfl (by omega)
  have hl4 : ∀ l', l' = D.take 4 → isL .i64 l' (d.take 4) := fun l' h => by unfold isL at hD ⊢; rw [h, hD]; simp [nrow, List.map_take]
  have hadd : ∀ y, y = win k 9 → I.bin .add .i64 1 y = 1 + win k 9 := fun y h => by
    have := win_in k 9 (by decide) (by decide)
    rw [h, hI]
    exact wrap_in _ (by omega) (by omega)
  have hsub : ∀ y, y = win p 5 → I.bin .sub .i64 y 1 = win p 5 - 1 := fun y h => by
    have := win_in p 5 (by decide) (by decide)
    rw [h, hI]
    exact wrap_in _ (by omega) (by omega)
  have hmk : ∀ (k2 f2 t2 i2 l2 p2 s2 : Int), k2 = 1 + win k 9 → f2 = win f 4 → t2 = win t 4 → i2 = win i 5 → l2 = win l 4 → p2 = win p 5 - 1 → s2 = win s 3 → (⟨k2, f2, t2, i2, l2, p2, s2, b, d.take 4⟩ : PK) = pk0 ⟨k, f, t, i, l, p, s, b, d⟩ := fun k2 f2 t2 i2 l2 p2 s2 h1 h2 h3 h4 h5 h6 h7 => by rw [h1, h2, h3, h4, h5, h6, h7]; rfl
  obtain ⟨r0, hr0⟩ : ∃ r0, r0 = pk0 ⟨k, f, t, i, l, p, s, b, d⟩ := ⟨_, rfl⟩
  rw [← hr0] at hmk ⊢
  refine fn_sim hI (mo hp) (ccj hp c21) fun Post hP => ?_
  clear hr0
  cbv
  refine .join_next (fun ts m => ∃ (k2 f2 t2 i2 l2 p2 s2 : Int) (D2 : List (List G)), isL .i64 D2 (d.take 4) ∧ (⟨k2, f2, t2, i2, l2, p2, s2, b, d.take 4⟩ : PK) = r0 ∧
      ts = fr 85 [(1, i64 0), (2, .one (.c (.ptr 0 (.lit 0) 9 0))), (4, .one (.c (.ptr 1 (.lit 0) 9 0))), (5, .one (.c (.ptr 2 (.lit 0) 9 0)))] ∧
      m = [.lit 9 [[.g (.int .i64 (.sym k)), .g (.int .i64 (.sym f)), .g (.int .i64 (.sym t)), .g (.int .i64 (.sym i)), .g (.int .i64 (.sym l)), .g (.int .i64 (.sym p)), .g (.int .i64 (.sym s)), .g (.bool (.sym b)), .bor 1 D]], .lit 9 [[.g (.int .i64 (.sym 0)), .g (.int .i64 (.sym 0)), .g (.int .i64 (.sym 0)), .g (.int .i64 (.sym 0)), .g (.int .i64 (.sym 0)), .g (.int .i64 (.sym 0)), .g (.int .i64 (.sym 0)), .g (.bool (.sym false)), .g .nil]], .lit 9 [[.g (.int .i64 (.sym k2)), .g (.int .i64 (.sym f2)), .g (.int .i64 (.sym t2)), .g (.int .i64 (.sym i2)), .g (.int .i64 (.sym l2)), .g (.int .i64 (.sym p2)), .g (.int .i64 (.sym s2)), .g (.bool (.sym b)), .row 3 1 none]], .sym 1 D2]) ?_ ?_
  · intro next hnx
    clear hP
    cbv
    refine .drawn [] ?_
    cbv
    repeat' first
      | (refine .both ?_ ?_)
      | (refine .go [] [] [] (withinL hp _ _) rfl rfl rfl rfl rfl rfl ?_; rintro r m1 ⟨y, hy, rfl, rfl⟩; cbv)
    all_goals
      refine .go [] [] [.bor 1] hc4 rfl rfl rfl rfl rfl rfl ?_
      rintro r m1 ⟨l', hl', rfl, rfl⟩
      have h1 := hl4 l' hl'
      clear hl'
      cbv
      first
        | exact hnx _ _ [0, 1, 2, 3] [] [1, 2, 4, 5] _ _ (by decide) rfl rfl rfl ⟨_, _, _, _, _, _, _, l', h1, hmk _ _ _ _ _ _ _ (hadd _ (by assumption)) (by assumption) (by assumption) (by assumption) (by assumption) (hsub _ (by assumption)) (by assumption), rfl, rfl⟩
        | exact hnx _ _ [0, 1, 3, 2] [] [1, 2, 4, 5] _ _ (by decide) rfl rfl rfl ⟨_, _, _, _, _, _, _, l', h1, hmk _ _ _ _ _ _ _ (hadd _ (by assumption)) (by assumption) (by assumption) (by assumption) (by assumption) (hsub _ (by assumption)) (by assumption), rfl, rfl⟩
  rintro ts m ⟨k2, f2, t2, i2, l2, p2, s2, D2, h1, h2, rfl, rfl⟩
  clear hc4 hl4 hmk hadd hsub
  cbv
  refine .go [] [] [] (withinL hp _ _) rfl rfl rfl rfl rfl rfl ?_
  rintro r m1 ⟨y, hy, rfl, rfl⟩
  have hy0 : y = 0 := by rw [hy]; rfl
  subst hy0
  cbv
  repeat (refine br_f (by rw [hI]; rfl) ?_; cbv)
  exact hP _ _ [3] [] _ _ (by decide) rfl rfl rfl rfl rfl ⟨r0, D2, rfl, by rw [← h2]; exact h1, by rw [← h2]; rfl, rfl⟩
end
end Go.Proofs.Ytccfcenhpmdemaa.E
