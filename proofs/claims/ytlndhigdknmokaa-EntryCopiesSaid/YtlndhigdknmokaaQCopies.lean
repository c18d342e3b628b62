/- EntryCopies. -/
import Derived.Test.YtlndhigdknmokaaQC
namespace Go.Proofs.Ytlndhigdknmokaa.E
open Go
set_option linter.unusedVariables false
set_option maxRecDepth 100000

section
variable {P : Program} (hp : P = Try.prog)
include hp
theorem copies (L0 : List (List G)) (xs0 : List Int) (h0 : isL .i64 L0 xs0) (hl0 : L0.length * 8 ≤ 140737488351232) (v n : Int) : LValid P 5 [.c (.g (.rows 1 L0)), gi .i64 v, gi .i64 n] [] (fun v _ => ∃ b : BB, b.val = true ∧ v = .one (.c (.g (.bool b)))) := by
  obtain ⟨I, hI⟩ := ref
  refine fn_sim hI (mo hp) (cc hp c5) fun Post hP => ?_
  cbv
  refine .go [] [] [.bor 1, .keep] (cut hp L0 (.lit 3) 3 rfl (by omega)) rfl rfl rfl rfl rfl rfl ?_
  rintro r m1 ⟨l1, h1, rfl, rfl⟩
  obtain ⟨ds, hds⟩ : ∃ ds, ds = xs0.take 3 ++ [0] := ⟨_, rfl⟩
  have hD : isL .i64 (I.app l1 [[.int .i64 (.sym 0)]]) ds := by
    unfold isL at h0 ⊢
    rw [hI, h1, h0, hds]
    show List.take 3 (nrow .i64 xs0) ++ _ = _
    simp [nrow, List.map_take]
  have hd0 : 0 < ds.length := by rw [hds]; simp
  have hd4 : ds.length ≤ 4 := by rw [hds]; simp; omega
  have hDl : (I.app l1 [[.int .i64 (.sym 0)]]).length * 8 ≤ 140737488355328 := by rw [hD.len]; omega
  have hDn : I.len (I.app l1 [[.int .i64 (.sym 0)]]) = ds.length := by rw [← hD.len, hI]; rfl
  obtain ⟨D, hDe⟩ : ∃ D, I.app l1 [[.int .i64 (.sym 0)]] = D := ⟨_, rfl⟩
  cbv
  refine .most (by have : I.len (I.app l1 [[.int .i64 (.sym 0)]]) * 8 ≤ 140737488355328 := by rw [hDn]; omega
                   exact this) (by have : I.len (I.app l1 [[.int .i64 (.sym 0)]]) ≤ 140737488355328 := by rw [hDn]; omega
                                   exact this) ?_
  cbv
  refine .go [] [] [] (within hp _ _) rfl rfl rfl rfl rfl rfl ?_
  rintro r m1 ⟨y, hy, rfl, rfl⟩
  cbv
  refine .go [] [] [.keep, .keep, .keep, .keep, .bor 1] (new hp _ _ _ _ _ hDl) rfl rfl rfl rfl rfl rfl ?_
  rintro r m1 ⟨rfl, rfl⟩
  cbv
  refine .go [] [] [.bor 1] (eclone hp _ _ _ _ _ _ hDl) rfl rfl rfl rfl rfl rfl ?_
  rintro r m1 ⟨rfl, rfl⟩
  cbv
  refine .go [4, 3] [] [] (write hp _ _ _ _ _ _ _ _ ds hD hDl) rfl rfl rfl rfl rfl rfl ?_
  rintro r m1 ⟨ok, hok, rfl, hm⟩
  have hok : ok = true := by rw [hok]; simp [Z.val, BB.val, hd0]
  rcases hm with ⟨hm, -⟩ | ⟨-, L1, hL1, rfl⟩
  · rw [hok] at hm; cases hm
  cbv
  refine br_f (by rw [hI, hok]; rfl) ?_
  cbv
  obtain ⟨e, he⟩ : ∃ e, e = ds.length - 1 := ⟨_, rfl⟩
  have hzl : isN (I.bin .sub .i64 (I.ofNat (I.len (I.app l1 [[.int .i64 (.sym 0)]]))) 1) e := by
    unfold isN
    rw [hDn, hI]
    simp only [ints, rBin]
    rw [wrap_in] <;> omega
  obtain ⟨w1, hw1⟩ : ∃ w1, w1 = I.bin .add .i64 v 1 := ⟨_, rfl⟩
  refine .go [6, 5] [] [] (write hp _ _ _ _ _ _ _ _ ds hD hDl) rfl rfl rfl rfl rfl rfl ?_
  rintro r m1 ⟨ok2, hok2, rfl, hm⟩
  have hzt : (Z.val (.sym (I.bin .sub .i64 (I.ofNat (I.len (I.app l1 [[.int .i64 (.sym 0)]]))) 1))) = (e : Int) := hzl
  have hok2 : ok2 = true := by
    rw [hok2]
    have eq1 : (decide (0 ≤ Z.val (.sym (I.bin .sub .i64 (I.ofNat (I.len (I.app l1 [[.int .i64 (.sym 0)]]))) 1))) && decide (Z.val (.sym (I.bin .sub .i64 (I.ofNat (I.len (I.app l1 [[.int .i64 (.sym 0)]]))) 1)) < (ds.length : Nat))) = true := by
      rw [hzt]
      simp
      omega
    exact eq1
  rcases hm with ⟨hm, -⟩ | ⟨-, L2, hL2, rfl⟩
  · rw [hok2] at hm; cases hm
  have hL2 : isL .i64 L2 (ds.set e (I.bin .add .i64 v 1)) := by
    have eq2 : (Z.val (.sym (I.bin .sub .i64 (I.ofNat (I.len (I.app l1 [[.int .i64 (.sym 0)]]))) 1))).toNat = e := by rw [hzt]; rfl
    have := hL2
    rw [show ∀ q : Z, q.val.toNat = q.val.toNat from fun _ => rfl] at this
    exact eq2 ▸ this
  cbv
  refine br_f (by rw [hI, hok2]; rfl) ?_
  cbv
  refine .go [4, 7] [] [] (setFwd hp _ _ _ _ _ _ _) rfl rfl rfl rfl rfl rfl ?_
  rintro r m1 ⟨rfl, rfl⟩
  cbv
  refine .go [6, 8] [] [] (setBack hp _ _ _ _ _ _ _) rfl rfl rfl rfl rfl rfl ?_
  rintro r m1 ⟨rfl, rfl⟩
  cbv
  refine .go [] [] [.bor 1] (copy hp _ hDl) rfl rfl rfl rfl rfl rfl ?_
  rintro r m1 ⟨rfl, rfl⟩
  cbv
  obtain ⟨x0, hx0⟩ : ∃ x, ds[0]? = some x := ⟨_, List.getElem?_eq_getElem hd0⟩
  obtain ⟨xl, hxl⟩ : ∃ x, ds[e]? = some x := ⟨_, List.getElem?_eq_getElem (by omega)⟩
  have ha0 : (I.app l1 [[.int .i64 (.sym 0)]])[0]? = some [.int .i64 (.sym x0)] := by rw [hD.get, hx0]; rfl
  have hal : (I.app l1 [[.int .i64 (.sym 0)]])[e]? = some [.int .i64 (.sym xl)] := by rw [hD.get, hxl]; rfl
  have hset : ∀ (i : Nat) (q : Int), isL .i64 (I.set (I.app l1 [[.int .i64 (.sym 0)]]) i [.int .i64 (.sym q)]) (ds.set i q) := fun i q => by
    unfold isL at hD ⊢
    rw [hI] at hD ⊢
    rw [hD]
    show (nrow .i64 ds).set i _ = _
    simp [nrow, List.map_set]
  have hL1 : isL .i64 L1 (ds.set 0 v) := hL1
  have hL1l : L1.length * 8 ≤ 140737488355328 := by rw [hL1.len]; simp; omega
  have hL2l : L2.length * 8 ≤ 140737488355328 := by rw [hL2.len]; simp; omega
  refine .idx 0 rfl (by have : 0 < I.len (I.app l1 [[.int .i64 (.sym 0)]]) := by rw [hDn]; exact hd0
                        exact this) ?_
  cbv
  refine .nth _ ha0 ?_
  cbv
  refine .go [] [] [.bor 1] (copy hp _ hDl) rfl rfl rfl rfl rfl rfl ?_
  rintro r m1 ⟨rfl, rfl⟩
  cbv
  refine .idx e hzl (show e < I.len (I.app l1 [[.int .i64 (.sym 0)]]) from by rw [hDn]; omega) ?_
  cbv
  refine .nth _ hal ?_
  cbv
  refine .go [] [] [.bor 1, .bor 1] (same hp _ _ _ _ hL1 (hset 0 v) hL1l) rfl rfl rfl rfl rfl rfl ?_
  rintro r m1 ⟨t1, ht1, rfl, rfl⟩
  have ht1 : t1 = true := by rw [ht1]; simp
  cbv
  refine br_t ht1 ?_
  cbv
  refine .go [] [] [.bor 1, .bor 1] (same hp _ _ _ _ hL2 (hset e (I.bin .add .i64 v 1)) hL2l) rfl rfl rfl rfl rfl rfl ?_
  rintro r m1 ⟨t2, ht2, rfl, rfl⟩
  have ht2 : t2 = true := by rw [ht2]; simp
  cbv
  refine br_t ht2 ?_
  cbv
  have hyr : 0 ≤ y ∧ y < 5 := by rw [hy]; exact win_in n 5 (by omega) (by omega)
  have hy1 : I.bin .add .i64 y 1 = y + 1 := by
    rw [hI]
    simp only [ints, rBin]
    rw [wrap_in] <;> omega
  refine .go [] [] [] (tail hp _ _) rfl rfl rfl rfl rfl rfl ?_
  rintro r m1 ⟨t3, ht3, rfl, rfl⟩
  cbv
  refine br_t ht3 ?_
  cbv
  refine .go [] [] [] (head hp _ _) rfl rfl rfl rfl rfl rfl ?_
  rintro r m1 ⟨t4, ht4, rfl, rfl⟩
  have ht4 : t4 = false := by
    rw [ht4]
    show (I.bin .add .i64 y 1 == -1) = false
    rw [hy1]
    simp
    omega
  cbv
  refine br_t (by rw [hI, ht4]; rfl) ?_
  cbv
  refine br_t (by rw [hI]; simp [ints, rCmp]) ?_
  cbv
  refine .go [] [] [] (head hp _ _) rfl rfl rfl rfl rfl rfl ?_
  rintro r m1 ⟨t5, ht5, rfl, rfl⟩
  cbv
  refine br_t ht5 ?_
  cbv
  refine .go [] [] [] (tail hp _ _) rfl rfl rfl rfl rfl rfl ?_
  rintro r m1 ⟨t6, ht6, rfl, rfl⟩
  have ht6 : t6 = false := by
    rw [ht6]
    show (y == -1) = false
    simp
    omega
  cbv
  refine br_t (by rw [hI, ht6]; rfl) ?_
  cbv
  refine br_t (by rw [hI]; simp [ints, rCmp]) ?_
  cbv
  refine br_t (by rw [hI]; rfl) ?_
  cbv
  refine br_t rfl ?_
  cbv
  refine .go [] [] [] (wakes hp) rfl rfl rfl rfl rfl rfl ?_
  rintro r m1 ⟨rfl, rfl⟩
  cbv
  exact hP _ _ [] [] _ _ .nil rfl rfl rfl rfl rfl ⟨_, rfl, rfl⟩
end
end Go.Proofs.Ytlndhigdknmokaa.E
