/- Contracts: numbers, links. -/
import Derived.Test.YtlndhigdknmokaaE15
import Derived.Test.YtlndhigdknmokaaX
namespace Go.Proofs.Ytlndhigdknmokaa.E
open Go
set_option linter.unusedVariables false
set_option maxRecDepth 100000

theorem mo0 : Try.prog.follows .mixedOrders = true := by kernel_rfl
theorem ref : ∃ I, I = ints := ⟨_, rfl⟩
/-- Any number as one from 0 to n - 1. -/
def win (v n : Int) : Int := if n < 1 then 0 else if v.tmod n < 0 then IntKind.i64.wrap (v.tmod n + n) else v.tmod n
section
variable {P : Program} (hp : P = Try.prog)
include hp
theorem mo : P.follows .mixedOrders = true := hp ▸ mo0
theorem cc {n : Nat} {x : XF} (h : compF Try.prog n = some x) : compF P n = some x := hp ▸ h

theorem within (v n : Z) : LValid P 7 [.c (.g (.int .i64 v)), .c (.g (.int .i64 n))] [] (fun r m1 => r = i64 (win v.val n.val) ∧ m1 = []) := by
  refine LValid.sy (LValid.num ?_)
  show LValid P 7 [.c (.g (.int .i64 (.sym v.val))), .c (.g (.int .i64 (.sym n.val)))] [] _
  generalize v.val = v, n.val = n
  obtain ⟨I, hI⟩ := ref
  refine fn_sim hI (mo hp) (cc hp c7) fun Post hP => ?_
  cbv
  refine .br (fun h => ?_) (fun h => ?_)
  · cbv
    have h : n < 1 := by simpa [hI, ints, rCmp] using h
    exact hP _ _ [] [] _ _ .nil rfl rfl rfl rfl rfl ⟨_, rfl, by simp [win, h, Z.val], rfl⟩
  · have h : ¬ n < 1 := by simpa [hI, ints, rCmp] using h
    cbv
    refine .nz (by omega) ?_
    cbv
    refine .br (fun h2 => ?_) (fun h2 => ?_)
    · have h2 : v.tmod n < 0 := by simpa [hI, ints, rCmp, rBin] using h2
      cbv
      exact hP _ _ [] [] _ _ .nil rfl rfl rfl rfl rfl ⟨_, rfl, by simp [win, h, h2, Z.val, hI, ints, rBin], rfl⟩
    · have h2 : ¬ v.tmod n < 0 := by simpa [hI, ints, rCmp, rBin] using h2
      cbv
      exact hP _ _ [] [] _ _ .nil rfl rfl rfl rfl rfl ⟨_, rfl, by simp [win, h, h2, Z.val, hI, ints, rBin], rfl⟩
theorem head (z0 z1 : Z) : LValid P 11 [.agg [.g (.int .i64 z0), .g (.int .i64 z1)]] [] (fun v m1 => v = boo (z1.val == -1) ∧ m1 = []) := by
  refine LValid.sy (LValid.boo ?_)
  show LValid P 11 [.agg [.g (.int .i64 (.sym z0.val)), .g (.int .i64 (.sym z1.val))]] [] _
  generalize z0.val = z0, z1.val = z1
  obtain ⟨I, hI⟩ := ref
  refine fn_sim hI (mo hp) (cc hp c11) fun Post hP => ?_
  cbv
  exact hP _ _ [] [] _ _ .nil rfl rfl rfl rfl rfl ⟨_, rfl, by rw [hI]; rfl, rfl⟩
theorem tail (z0 z1 : Z) : LValid P 12 [.agg [.g (.int .i64 z0), .g (.int .i64 z1)]] [] (fun v m1 => v = boo (z0.val == -1) ∧ m1 = []) := by
  refine LValid.sy (LValid.boo ?_)
  show LValid P 12 [.agg [.g (.int .i64 (.sym z0.val)), .g (.int .i64 (.sym z1.val))]] [] _
  generalize z0.val = z0, z1.val = z1
  obtain ⟨I, hI⟩ := ref
  refine fn_sim hI (mo hp) (cc hp c12) fun Post hP => ?_
  cbv
  exact hP _ _ [] [] _ _ .nil rfl rfl rfl rfl rfl ⟨_, rfl, by rw [hI]; rfl, rfl⟩
theorem only (z0 z1 : Z) : LValid P 10 [.agg [.g (.int .i64 z0), .g (.int .i64 z1)]] [] (fun v m1 => v = boo ((z1.val == -1) && (z0.val == -1)) ∧ m1 = []) := by
  refine LValid.sy (LValid.boo ?_)
  show LValid P 10 [.agg [.g (.int .i64 (.sym z0.val)), .g (.int .i64 (.sym z1.val))]] [] _
  generalize z0.val = z0, z1.val = z1
  obtain ⟨I, hI⟩ := ref
  refine fn_sim hI (mo hp) (cc hp c10) fun Post hP => ?_
  cbv
  refine .call [] [] [] _ _ _ (head hp (.sym z0) (.sym z1)) .nil (fun b h => by simp at h) (fun b h => by simp at h) (fun q h => by simp at h) rfl rfl ?_
  rintro v m1 ⟨rfl, rfl⟩
  generalize hb : (Z.val (.sym z1) == -1) = b
  cbv
  refine .br (fun h => ?_) (fun h => ?_)
  · cbv
    refine .call [] [] [] _ _ _ (tail hp (.sym z0) (.sym z1)) .nil (fun b h => by simp at h) (fun b h => by simp at h) (fun q h => by simp at h) rfl rfl ?_
    rintro v m1 ⟨rfl, rfl⟩
    generalize hb2 : (Z.val (.sym z0) == -1) = b2
    cbv
    exact hP _ _ [] [] _ _ .nil rfl rfl rfl rfl rfl ⟨_, rfl, by rw [← hb, ← hb2] at *; simp_all [Z.val, BB.val], rfl⟩
  · cbv
    exact hP _ _ [] [] _ _ .nil rfl rfl rfl rfl rfl ⟨_, rfl, by rw [← hb] at *; simp_all [Z.val, BB.val], rfl⟩
theorem setFwd (z0 z1 z : Z) : LValid P 8 [.c (.ptr 0 (.lit 0) 2 0), .c (.g (.int .i64 z))] [.lit 2 [[.g (.int .i64 z0), .g (.int .i64 z1)]]] (fun v m1 => v = .tup [] ∧ m1 = [.lit 2 [[.g (.int .i64 z), .g (.int .i64 z1)]]]) := by
  obtain ⟨I, hI⟩ := ref
  refine fn_sim hI (mo hp) (cc hp c8) fun Post hP => ?_
  cbv
  exact hP _ _ [0] [] _ _ (by decide) rfl rfl rfl rfl rfl ⟨rfl, rfl⟩
theorem setBack (z0 z1 z : Z) : LValid P 9 [.c (.ptr 0 (.lit 0) 2 0), .c (.g (.int .i64 z))] [.lit 2 [[.g (.int .i64 z0), .g (.int .i64 z1)]]] (fun v m1 => v = .tup [] ∧ m1 = [.lit 2 [[.g (.int .i64 z0), .g (.int .i64 z)]]]) := by
  obtain ⟨I, hI⟩ := ref
  refine fn_sim hI (mo hp) (cc hp c9) fun Post hP => ?_
  cbv
  exact hP _ _ [0] [] _ _ (by decide) rfl rfl rfl rfl rfl ⟨rfl, rfl⟩
end
end Go.Proofs.Ytlndhigdknmokaa.E
