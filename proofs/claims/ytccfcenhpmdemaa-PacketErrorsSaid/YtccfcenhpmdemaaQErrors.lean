/- PacketErrors. -/
import Derived.Test.YtccfcenhpmdemaaQPk
namespace Go.Proofs.Ytccfcenhpmdemaa.E
open Go
set_option linter.unusedVariables false
set_option maxRecDepth 100000

section
variable {P : Program} (hp : P = Try.prog)
include hp
set_option maxHeartbeats 8000000 in
theorem errors (n0 : Int) : LValid P 4 [gi .i64 n0] [] (fun v _ => ∃ b : BB, b.val = true ∧ v = .one (.c (.g (.bool b)))) := by
  obtain ⟨I, hI⟩ := ref
  refine fn_sim hI (mo hp) (cc hp c4) fun Post hP => ?_
  cbv
  refine .go [] [] [] (within hp _ _) rfl rfl rfl rfl rfl rfl ?_
  rintro r m1 ⟨y, hy, rfl, rfl⟩
  have hyr : 0 ≤ y ∧ y < 1000 := by rw [hy]; exact win_in n0 1000 (by omega) (by omega)
  have e1 : I.bin .add .i64 10 y = 10 + y := by rw [hI]; show IntKind.i64.wrap (10 + y) = _; rw [wrap_in] <;> omega
  have e2 : I.bin .sub .i64 (-1) y = -1 - y := by rw [hI]; show IntKind.i64.wrap (-1 - y) = _; rw [wrap_in] <;> omega
  have e3 : I.bin .add .i64 6 y = 6 + y := by rw [hI]; show IntKind.i64.wrap (6 + y) = _; rw [wrap_in] <;> omega
  have c0 : checkB ⟨0, 0, 0, 0, 0, 0, 0, false, []⟩ = false := by decide
  have c1 : checkB ⟨(I.bin .add .i64 10 y), 0, 0, 0, 0, 0, 0, false, []⟩ = false := by rw [e1]; unfold checkB belB; simp; omega
  have c2 : checkB ⟨(-1), 0, 0, 0, 0, 0, 0, false, []⟩ = false := by decide
  have c3 : checkB ⟨1, (-1), 0, 0, 0, 0, 0, false, []⟩ = false := by decide
  have c4 : checkB ⟨1, 6, 0, 0, 0, 0, 0, false, []⟩ = false := by decide
  have c5 : checkB ⟨1, 0, (I.bin .sub .i64 (-1) y), 0, 0, 0, 0, false, []⟩ = false := by rw [e2]; unfold checkB belB; simp; omega
  have c6 : checkB ⟨1, 0, (I.bin .add .i64 6 y), 0, 0, 0, 0, false, []⟩ = false := by rw [e3]; unfold checkB belB; simp; omega
  have c7 : checkB ⟨1, 0, 0, (-1), 0, 0, 0, false, []⟩ = false := by decide
  have c8 : checkB ⟨1, 0, 0, 4096, 0, 0, 0, false, []⟩ = false := by decide
  have c9 : checkB ⟨1, 0, 0, 0, (-1), 0, 0, false, []⟩ = false := by decide
  have c10 : checkB ⟨1, 0, 0, 0, 8, 0, 0, false, []⟩ = false := by decide
  have c11 : checkB ⟨1, 0, 0, 0, 0, (-2), 0, false, []⟩ = false := by decide
  have c12 : checkB ⟨1, 0, 0, 0, 0, 6, 0, false, []⟩ = false := by decide
  have c13 : checkB ⟨1, 0, 0, 0, 0, 0, (-1), false, []⟩ = false := by decide
  have c14 : checkB ⟨1, 0, 0, 0, 0, 0, 3, false, []⟩ = false := by decide
  have c15 : checkB ⟨1, 0, 0, 0, 0, 0, 0, false, [0, 0, 0, 0, 0]⟩ = false := by decide
  clear hy e1 e2 e3
  cbv
  refine .loop_cnt 35 16 _ _ [0, 1] [] [33, 34, 35] (by decide) rfl rfl rfl rfl ?_
  intro next i z hz hi hnext
  cbv
  refine .br (fun g1 => ?_) (fun g1 => ?_)
  · have hi1 : i < 16 := by
      have : z < 16 := by simpa [hI, ints, rCmp] using g1
      unfold isN at hz
      omega
    have hz1 : isN (I.bin .add .i64 z 1) (i + 1) := by unfold isN at hz ⊢; rw [hI]; simp only [ints, rBin]; rw [wrap_in] <;> omega
    replace hnext := hnext hi1
    rcases (show i = 0 ∨ i = 1 ∨ i = 2 ∨ i = 3 ∨ i = 4 ∨ i = 5 ∨ i = 6 ∨ i = 7 ∨ i = 8 ∨ i = 9 ∨ i = 10 ∨ i = 11 ∨ i = 12 ∨ i = 13 ∨ i = 14 ∨ i = 15 from by omega) with rfl | rfl | rfl | rfl | rfl | rfl | rfl | rfl | rfl | rfl | rfl | rfl | rfl | rfl | rfl | rfl
    · cbv
      refine .idx 0 hz (by decide) ?_
      cbv
      refine .go [] [] [.bor 1] (pack hp ⟨_, _, _, _, _, _, _, _⟩ [] [] rfl) rfl rfl rfl rfl rfl rfl ?_
      rintro v m1 (⟨_, rfl, rfl⟩ | ⟨h, _⟩)
      · cbv
        refine .go [] [] [.bor 1] (check hp ⟨_, _, _, _, _, _, _, _⟩ [] [] rfl) rfl rfl rfl rfl rfl rfl ?_
        rintro v m1 ⟨t, ht, rfl, rfl⟩
        have ht : t = 1 := ht.trans (congrArg (fun b : Bool => if b then (0 : Int) else 1) c0)
        cbv
        refine br_f (by rw [hI, ht]; rfl) ?_
        cbv
        refine br_f (by rw [hI]; rfl) ?_
        cbv
        exact hnext _ _ _ [0, 1] [] [33, 34, 35] hz1 (by decide) rfl rfl rfl
      · exact absurd (c0.symm.trans h) (by decide)
    · cbv
      refine .idx 1 hz (by decide) ?_
      cbv
      refine .go [] [] [.bor 1] (pack hp ⟨_, _, _, _, _, _, _, _⟩ [] [] rfl) rfl rfl rfl rfl rfl rfl ?_
      rintro v m1 (⟨_, rfl, rfl⟩ | ⟨h, _⟩)
      · cbv
        refine .go [] [] [.bor 1] (check hp ⟨_, _, _, _, _, _, _, _⟩ [] [] rfl) rfl rfl rfl rfl rfl rfl ?_
        rintro v m1 ⟨t, ht, rfl, rfl⟩
        have ht : t = 1 := ht.trans (congrArg (fun b : Bool => if b then (0 : Int) else 1) c1)
        cbv
        refine br_f (by rw [hI, ht]; rfl) ?_
        cbv
        refine br_f (by rw [hI]; rfl) ?_
        cbv
        exact hnext _ _ _ [0, 1] [] [33, 34, 35] hz1 (by decide) rfl rfl rfl
      · exact absurd (c1.symm.trans h) (by decide)
    · cbv
      refine .idx 2 hz (by decide) ?_
      cbv
      refine .go [] [] [.bor 1] (pack hp ⟨_, _, _, _, _, _, _, _⟩ [] [] rfl) rfl rfl rfl rfl rfl rfl ?_
      rintro v m1 (⟨_, rfl, rfl⟩ | ⟨h, _⟩)
      · cbv
        refine .go [] [] [.bor 1] (check hp ⟨_, _, _, _, _, _, _, _⟩ [] [] rfl) rfl rfl rfl rfl rfl rfl ?_
        rintro v m1 ⟨t, ht, rfl, rfl⟩
        have ht : t = 1 := ht.trans (congrArg (fun b : Bool => if b then (0 : Int) else 1) c2)
        cbv
        refine br_f (by rw [hI, ht]; rfl) ?_
        cbv
        refine br_f (by rw [hI]; rfl) ?_
        cbv
        exact hnext _ _ _ [0, 1] [] [33, 34, 35] hz1 (by decide) rfl rfl rfl
      · exact absurd (c2.symm.trans h) (by decide)
    · cbv
      refine .idx 3 hz (by decide) ?_
      cbv
      refine .go [] [] [.bor 1] (pack hp ⟨_, _, _, _, _, _, _, _⟩ [] [] rfl) rfl rfl rfl rfl rfl rfl ?_
      rintro v m1 (⟨_, rfl, rfl⟩ | ⟨h, _⟩)
      · cbv
        refine .go [] [] [.bor 1] (check hp ⟨_, _, _, _, _, _, _, _⟩ [] [] rfl) rfl rfl rfl rfl rfl rfl ?_
        rintro v m1 ⟨t, ht, rfl, rfl⟩
        have ht : t = 1 := ht.trans (congrArg (fun b : Bool => if b then (0 : Int) else 1) c3)
        cbv
        refine br_f (by rw [hI, ht]; rfl) ?_
        cbv
        refine br_f (by rw [hI]; rfl) ?_
        cbv
        exact hnext _ _ _ [0, 1] [] [33, 34, 35] hz1 (by decide) rfl rfl rfl
      · exact absurd (c3.symm.trans h) (by decide)
    · cbv
      refine .idx 4 hz (by decide) ?_
      cbv
      refine .go [] [] [.bor 1] (pack hp ⟨_, _, _, _, _, _, _, _⟩ [] [] rfl) rfl rfl rfl rfl rfl rfl ?_
      rintro v m1 (⟨_, rfl, rfl⟩ | ⟨h, _⟩)
      · cbv
        refine .go [] [] [.bor 1] (check hp ⟨_, _, _, _, _, _, _, _⟩ [] [] rfl) rfl rfl rfl rfl rfl rfl ?_
        rintro v m1 ⟨t, ht, rfl, rfl⟩
        have ht : t = 1 := ht.trans (congrArg (fun b : Bool => if b then (0 : Int) else 1) c4)
        cbv
        refine br_f (by rw [hI, ht]; rfl) ?_
        cbv
        refine br_f (by rw [hI]; rfl) ?_
        cbv
        exact hnext _ _ _ [0, 1] [] [33, 34, 35] hz1 (by decide) rfl rfl rfl
      · exact absurd (c4.symm.trans h) (by decide)
    · cbv
      refine .idx 5 hz (by decide) ?_
      cbv
      refine .go [] [] [.bor 1] (pack hp ⟨_, _, _, _, _, _, _, _⟩ [] [] rfl) rfl rfl rfl rfl rfl rfl ?_
      rintro v m1 (⟨_, rfl, rfl⟩ | ⟨h, _⟩)
      · cbv
        refine .go [] [] [.bor 1] (check hp ⟨_, _, _, _, _, _, _, _⟩ [] [] rfl) rfl rfl rfl rfl rfl rfl ?_
        rintro v m1 ⟨t, ht, rfl, rfl⟩
        have ht : t = 1 := ht.trans (congrArg (fun b : Bool => if b then (0 : Int) else 1) c5)
        cbv
        refine br_f (by rw [hI, ht]; rfl) ?_
        cbv
        refine br_f (by rw [hI]; rfl) ?_
        cbv
        exact hnext _ _ _ [0, 1] [] [33, 34, 35] hz1 (by decide) rfl rfl rfl
      · exact absurd (c5.symm.trans h) (by decide)
    · cbv
      refine .idx 6 hz (by decide) ?_
      cbv
      refine .go [] [] [.bor 1] (pack hp ⟨_, _, _, _, _, _, _, _⟩ [] [] rfl) rfl rfl rfl rfl rfl rfl ?_
      rintro v m1 (⟨_, rfl, rfl⟩ | ⟨h, _⟩)
      · cbv
        refine .go [] [] [.bor 1] (check hp ⟨_, _, _, _, _, _, _, _⟩ [] [] rfl) rfl rfl rfl rfl rfl rfl ?_
        rintro v m1 ⟨t, ht, rfl, rfl⟩
        have ht : t = 1 := ht.trans (congrArg (fun b : Bool => if b then (0 : Int) else 1) c6)
        cbv
        refine br_f (by rw [hI, ht]; rfl) ?_
        cbv
        refine br_f (by rw [hI]; rfl) ?_
        cbv
        exact hnext _ _ _ [0, 1] [] [33, 34, 35] hz1 (by decide) rfl rfl rfl
      · exact absurd (c6.symm.trans h) (by decide)
    · cbv
      refine .idx 7 hz (by decide) ?_
      cbv
      refine .go [] [] [.bor 1] (pack hp ⟨_, _, _, _, _, _, _, _⟩ [] [] rfl) rfl rfl rfl rfl rfl rfl ?_
      rintro v m1 (⟨_, rfl, rfl⟩ | ⟨h, _⟩)
      · cbv
        refine .go [] [] [.bor 1] (check hp ⟨_, _, _, _, _, _, _, _⟩ [] [] rfl) rfl rfl rfl rfl rfl rfl ?_
        rintro v m1 ⟨t, ht, rfl, rfl⟩
        have ht : t = 1 := ht.trans (congrArg (fun b : Bool => if b then (0 : Int) else 1) c7)
        cbv
        refine br_f (by rw [hI, ht]; rfl) ?_
        cbv
        refine br_f (by rw [hI]; rfl) ?_
        cbv
        exact hnext _ _ _ [0, 1] [] [33, 34, 35] hz1 (by decide) rfl rfl rfl
      · exact absurd (c7.symm.trans h) (by decide)
    · cbv
      refine .idx 8 hz (by decide) ?_
      cbv
      refine .go [] [] [.bor 1] (pack hp ⟨_, _, _, _, _, _, _, _⟩ [] [] rfl) rfl rfl rfl rfl rfl rfl ?_
      rintro v m1 (⟨_, rfl, rfl⟩ | ⟨h, _⟩)
      · cbv
        refine .go [] [] [.bor 1] (check hp ⟨_, _, _, _, _, _, _, _⟩ [] [] rfl) rfl rfl rfl rfl rfl rfl ?_
        rintro v m1 ⟨t, ht, rfl, rfl⟩
        have ht : t = 1 := ht.trans (congrArg (fun b : Bool => if b then (0 : Int) else 1) c8)
        cbv
        refine br_f (by rw [hI, ht]; rfl) ?_
        cbv
        refine br_f (by rw [hI]; rfl) ?_
        cbv
        exact hnext _ _ _ [0, 1] [] [33, 34, 35] hz1 (by decide) rfl rfl rfl
      · exact absurd (c8.symm.trans h) (by decide)
    · cbv
      refine .idx 9 hz (by decide) ?_
      cbv
      refine .go [] [] [.bor 1] (pack hp ⟨_, _, _, _, _, _, _, _⟩ [] [] rfl) rfl rfl rfl rfl rfl rfl ?_
      rintro v m1 (⟨_, rfl, rfl⟩ | ⟨h, _⟩)
      · cbv
        refine .go [] [] [.bor 1] (check hp ⟨_, _, _, _, _, _, _, _⟩ [] [] rfl) rfl rfl rfl rfl rfl rfl ?_
        rintro v m1 ⟨t, ht, rfl, rfl⟩
        have ht : t = 1 := ht.trans (congrArg (fun b : Bool => if b then (0 : Int) else 1) c9)
        cbv
        refine br_f (by rw [hI, ht]; rfl) ?_
        cbv
        refine br_f (by rw [hI]; rfl) ?_
        cbv
        exact hnext _ _ _ [0, 1] [] [33, 34, 35] hz1 (by decide) rfl rfl rfl
      · exact absurd (c9.symm.trans h) (by decide)
    · cbv
      refine .idx 10 hz (by decide) ?_
      cbv
      refine .go [] [] [.bor 1] (pack hp ⟨_, _, _, _, _, _, _, _⟩ [] [] rfl) rfl rfl rfl rfl rfl rfl ?_
      rintro v m1 (⟨_, rfl, rfl⟩ | ⟨h, _⟩)
      · cbv
        refine .go [] [] [.bor 1] (check hp ⟨_, _, _, _, _, _, _, _⟩ [] [] rfl) rfl rfl rfl rfl rfl rfl ?_
        rintro v m1 ⟨t, ht, rfl, rfl⟩
        have ht : t = 1 := ht.trans (congrArg (fun b : Bool => if b then (0 : Int) else 1) c10)
        cbv
        refine br_f (by rw [hI, ht]; rfl) ?_
        cbv
        refine br_f (by rw [hI]; rfl) ?_
        cbv
        exact hnext _ _ _ [0, 1] [] [33, 34, 35] hz1 (by decide) rfl rfl rfl
      · exact absurd (c10.symm.trans h) (by decide)
    · cbv
      refine .idx 11 hz (by decide) ?_
      cbv
      refine .go [] [] [.bor 1] (pack hp ⟨_, _, _, _, _, _, _, _⟩ [] [] rfl) rfl rfl rfl rfl rfl rfl ?_
      rintro v m1 (⟨_, rfl, rfl⟩ | ⟨h, _⟩)
      · cbv
        refine .go [] [] [.bor 1] (check hp ⟨_, _, _, _, _, _, _, _⟩ [] [] rfl) rfl rfl rfl rfl rfl rfl ?_
        rintro v m1 ⟨t, ht, rfl, rfl⟩
        have ht : t = 1 := ht.trans (congrArg (fun b : Bool => if b then (0 : Int) else 1) c11)
        cbv
        refine br_f (by rw [hI, ht]; rfl) ?_
        cbv
        refine br_f (by rw [hI]; rfl) ?_
        cbv
        exact hnext _ _ _ [0, 1] [] [33, 34, 35] hz1 (by decide) rfl rfl rfl
      · exact absurd (c11.symm.trans h) (by decide)
    · cbv
      refine .idx 12 hz (by decide) ?_
      cbv
      refine .go [] [] [.bor 1] (pack hp ⟨_, _, _, _, _, _, _, _⟩ [] [] rfl) rfl rfl rfl rfl rfl rfl ?_
      rintro v m1 (⟨_, rfl, rfl⟩ | ⟨h, _⟩)
      · cbv
        refine .go [] [] [.bor 1] (check hp ⟨_, _, _, _, _, _, _, _⟩ [] [] rfl) rfl rfl rfl rfl rfl rfl ?_
        rintro v m1 ⟨t, ht, rfl, rfl⟩
        have ht : t = 1 := ht.trans (congrArg (fun b : Bool => if b then (0 : Int) else 1) c12)
        cbv
        refine br_f (by rw [hI, ht]; rfl) ?_
        cbv
        refine br_f (by rw [hI]; rfl) ?_
        cbv
        exact hnext _ _ _ [0, 1] [] [33, 34, 35] hz1 (by decide) rfl rfl rfl
      · exact absurd (c12.symm.trans h) (by decide)
    · cbv
      refine .idx 13 hz (by decide) ?_
      cbv
      refine .go [] [] [.bor 1] (pack hp ⟨_, _, _, _, _, _, _, _⟩ [] [] rfl) rfl rfl rfl rfl rfl rfl ?_
      rintro v m1 (⟨_, rfl, rfl⟩ | ⟨h, _⟩)
      · cbv
        refine .go [] [] [.bor 1] (check hp ⟨_, _, _, _, _, _, _, _⟩ [] [] rfl) rfl rfl rfl rfl rfl rfl ?_
        rintro v m1 ⟨t, ht, rfl, rfl⟩
        have ht : t = 1 := ht.trans (congrArg (fun b : Bool => if b then (0 : Int) else 1) c13)
        cbv
        refine br_f (by rw [hI, ht]; rfl) ?_
        cbv
        refine br_f (by rw [hI]; rfl) ?_
        cbv
        exact hnext _ _ _ [0, 1] [] [33, 34, 35] hz1 (by decide) rfl rfl rfl
      · exact absurd (c13.symm.trans h) (by decide)
    · cbv
      refine .idx 14 hz (by decide) ?_
      cbv
      refine .go [] [] [.bor 1] (pack hp ⟨_, _, _, _, _, _, _, _⟩ [] [] rfl) rfl rfl rfl rfl rfl rfl ?_
      rintro v m1 (⟨_, rfl, rfl⟩ | ⟨h, _⟩)
      · cbv
        refine .go [] [] [.bor 1] (check hp ⟨_, _, _, _, _, _, _, _⟩ [] [] rfl) rfl rfl rfl rfl rfl rfl ?_
        rintro v m1 ⟨t, ht, rfl, rfl⟩
        have ht : t = 1 := ht.trans (congrArg (fun b : Bool => if b then (0 : Int) else 1) c14)
        cbv
        refine br_f (by rw [hI, ht]; rfl) ?_
        cbv
        refine br_f (by rw [hI]; rfl) ?_
        cbv
        exact hnext _ _ _ [0, 1] [] [33, 34, 35] hz1 (by decide) rfl rfl rfl
      · exact absurd (c14.symm.trans h) (by decide)
    · cbv
      refine .idx 15 hz (by decide) ?_
      cbv
      refine .go [] [] [.bor 1] (pack hp ⟨_, _, _, _, _, _, _, _⟩ [[.int .i64 (.sym 0)], [.int .i64 (.sym 0)], [.int .i64 (.sym 0)], [.int .i64 (.sym 0)], [.int .i64 (.sym 0)]] [0, 0, 0, 0, 0] rfl) rfl rfl rfl rfl rfl rfl ?_
      rintro v m1 (⟨_, rfl, rfl⟩ | ⟨h, _⟩)
      · cbv
        refine .go [] [] [.bor 1] (check hp ⟨_, _, _, _, _, _, _, _⟩ [[.int .i64 (.sym 0)], [.int .i64 (.sym 0)], [.int .i64 (.sym 0)], [.int .i64 (.sym 0)], [.int .i64 (.sym 0)]] [0, 0, 0, 0, 0] rfl) rfl rfl rfl rfl rfl rfl ?_
        rintro v m1 ⟨t, ht, rfl, rfl⟩
        have ht : t = 1 := ht.trans (congrArg (fun b : Bool => if b then (0 : Int) else 1) c15)
        cbv
        refine br_f (by rw [hI, ht]; rfl) ?_
        cbv
        refine br_f (by rw [hI]; rfl) ?_
        cbv
        exact hnext _ _ _ [0, 1] [] [33, 34, 35] hz1 (by decide) rfl rfl rfl
      · exact absurd (c15.symm.trans h) (by decide)
  cbv
  refine .go [] [] [.bor 1] (check hp ⟨_, _, _, _, _, _, _, _⟩ [[.int .i64 (.sym 0)], [.int .i64 (.sym 0)], [.int .i64 (.sym 0)], [.int .i64 (.sym 0)]] [0, 0, 0, 0] rfl) rfl rfl rfl rfl rfl rfl ?_
  rintro v m1 ⟨t, ht, rfl, rfl⟩
  have ht : t = 0 := ht
  cbv
  refine br_t (by rw [hI, ht]; rfl) ?_
  cbv
  refine .go [] [] [.bor 1] (check hp ⟨_, _, _, _, _, _, _, _⟩ [] [] rfl) rfl rfl rfl rfl rfl rfl ?_
  rintro v m1 ⟨t2, ht2, rfl, rfl⟩
  have ht2 : t2 = 0 := ht2
  cbv
  refine br_t (by rw [hI, ht2]; rfl) ?_
  cbv
  refine .go [] [] [] (wakes hp) rfl rfl rfl rfl rfl rfl ?_
  rintro v m1 ⟨rfl, rfl⟩
  cbv
  exact hP _ _ [] [] _ _ .nil rfl rfl rfl rfl rfl ⟨_, rfl, rfl⟩
end
end Go.Proofs.Ytccfcenhpmdemaa.E
