/- Contract: a packet by small numbers. -/
import Derived.Test.YtccfcenhpmdemaaPR
namespace Go.Proofs.Ytccfcenhpmdemaa.E
open Go
set_option linter.unusedVariables false
set_option maxRecDepth 100000

section
variable {P : Program} (hp : P = Try.prog)
include hp
set_option maxHeartbeats 16000000 in
theorem pplay (k f t i l p s how : Int) (b : Bool) (D : List (List G)) (d : List Int) (hD : isL .i64 D d) (zh : Z) (hzh : zh.val = how) : LValid P 21 [.agg [.g (.int .i64 (.sym k)), .g (.int .i64 (.sym f)), .g (.int .i64 (.sym t)), .g (.int .i64 (.sym i)), .g (.int .i64 (.sym l)), .g (.int .i64 (.sym p)), .g (.int .i64 (.sym s)), .g (.bool (.sym b)), .bor 1 D], .c (.g (.int .i64 zh))] []
    (fun v m1 => ∃ (q : PK) (D' : List (List G)), isL .i64 D' q.d ∧ q.d.length ≤ 6 ∧ v = .one (q.told (.row 0 1 none)) ∧ m1 = [.sym 1 D']) := by
  refine LValid.sy ?_
  show LValid P 21 [.agg [.g (.int .i64 (.sym k)), .g (.int .i64 (.sym f)), .g (.int .i64 (.sym t)), .g (.int .i64 (.sym i)), .g (.int .i64 (.sym l)), .g (.int .i64 (.sym p)), .g (.int .i64 (.sym s)), .g (.bool (.sym b)), .bor 1 D], .c (.g (.int .i64 (.sym zh.val)))] [] _
  rw [hzh]
  obtain ⟨I, hI⟩ := ref
  have hc4 := cut8 hp D (.lit 4) 4 rfl (by omega)
  have hc6 := cut8 hp D (.lit 6) 6 rfl (by omega)
  have hl4 : ∀ l', l' = D.take 4 → isL .i64 l' (d.take 4) ∧ (d.take 4).length ≤ 6 := fun l' h => ⟨by unfold isL at hD ⊢; rw [h, hD]; simp [nrow, List.map_take], by rw [List.length_take]; omega⟩
  have hl6 : ∀ l', l' = D.take 6 → isL .i64 l' (d.take 6) ∧ (d.take 6).length ≤ 6 := fun l' h => ⟨by unfold isL at hD ⊢; rw [h, hD]; simp [nrow, List.map_take], by rw [List.length_take]; omega⟩
  refine fn_sim hI (mo hp) (ccj hp c21) fun Post hP => ?_
  cbv
  refine .join_next (fun ts m => ∃ (k2 f2 t2 i2 l2 p2 s2 : Int) (D2 : List (List G)) (d2 : List Int), isL .i64 D2 d2 ∧ d2.length ≤ 6 ∧
      ts = fr 85 [(1, i64 how), (2, .one (.c (.ptr 0 (.lit 0) 9 0))), (4, .one (.c (.ptr 1 (.lit 0) 9 0))), (5, .one (.c (.ptr 2 (.lit 0) 9 0)))] ∧
      m = [.lit 9 [[.g (.int .i64 (.sym k)), .g (.int .i64 (.sym f)), .g (.int .i64 (.sym t)), .g (.int .i64 (.sym i)), .g (.int .i64 (.sym l)), .g (.int .i64 (.sym p)), .g (.int .i64 (.sym s)), .g (.bool (.sym b)), .bor 1 D]], .lit 9 [[.g (.int .i64 (.sym 0)), .g (.int .i64 (.sym 0)), .g (.int .i64 (.sym 0)), .g (.int .i64 (.sym 0)), .g (.int .i64 (.sym 0)), .g (.int .i64 (.sym 0)), .g (.int .i64 (.sym 0)), .g (.bool (.sym false)), .g .nil]], .lit 9 [[.g (.int .i64 (.sym k2)), .g (.int .i64 (.sym f2)), .g (.int .i64 (.sym t2)), .g (.int .i64 (.sym i2)), .g (.int .i64 (.sym l2)), .g (.int .i64 (.sym p2)), .g (.int .i64 (.sym s2)), .g (.bool (.sym b)), .row 3 1 none]], .sym 1 D2]) ?_ ?_
  · intro next hnx
    clear hc6 hl6 hP
    cbv
    refine .drawn [] ?_
    cbv
    repeat' first
      | (refine .both ?_ ?_)
      | (refine .go [] [] [] (within hp _ _) rfl rfl rfl rfl rfl rfl ?_; rintro r m1 ⟨y, hy, rfl, rfl⟩; cbv)
    all_goals
      refine .go [] [] [.bor 1] hc4 rfl rfl rfl rfl rfl rfl ?_
      rintro r m1 ⟨l', hl', rfl, rfl⟩
      obtain ⟨h1, h2⟩ := hl4 l' hl'
      clear hl'
      cbv
      first
        | exact hnx _ _ [0, 1, 2, 3] [] [1, 2, 4, 5] _ _ (by decide) rfl rfl rfl ⟨_, _, _, _, _, _, _, l', _, h1, h2, rfl, rfl⟩
        | exact hnx _ _ [0, 1, 3, 2] [] [1, 2, 4, 5] _ _ (by decide) rfl rfl rfl ⟨_, _, _, _, _, _, _, l', _, h1, h2, rfl, rfl⟩
  rintro ts m ⟨k2, f2, t2, i2, l2, p2, s2, D2, d2, h1, h2, rfl, rfl⟩
  clear hc4 hl4
  cbv
  refine .go [] [] [] (within hp _ _) rfl rfl rfl rfl rfl rfl ?_
  rintro r m1 ⟨y, hy, rfl, rfl⟩
  clear hy
  cbv
  repeat' first
    | (refine .br (fun g => ?_) (fun g => ?_) <;> clear g <;> cbv)
    | (refine .go [] [] [.bor 1] hc6 rfl rfl rfl rfl rfl rfl ?_; rintro r m1 ⟨l', hl', rfl, rfl⟩; obtain ⟨h3, h4⟩ := hl6 l' hl'; cbv)
    | (refine .go [] [] [] (within hp _ _) rfl rfl rfl rfl rfl rfl ?_; rintro r m1 ⟨y2, hy, rfl, rfl⟩; clear hy; cbv)
  all_goals first
    | exact hP _ _ [3] [] _ _ (by decide) rfl rfl rfl rfl rfl ⟨⟨_, _, _, _, _, _, _, _, d2⟩, D2, h1, h2, rfl, rfl⟩
    | exact hP _ _ [4] [] _ _ (by decide) rfl rfl rfl rfl rfl ⟨⟨_, _, _, _, _, _, _, _, _⟩, _, h3, h4, rfl, rfl⟩
end
end Go.Proofs.Ytccfcenhpmdemaa.E
