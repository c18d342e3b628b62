/- QueueOrder. -/
import Derived.Test.YtfbbldnbobacnaaQQ
namespace Go.Proofs.Ytfbbldnbobacnaa.E
open Go
set_option linter.unusedVariables false
set_option maxRecDepth 100000

/-- A list of bools as rows. -/
def isB (l : List (List G)) (xs : List Bool) : Prop := l = xs.map fun x => [.bool (.sym x)]
theorem isB.len {l : List (List G)} {xs : List Bool} (h : isB l xs) : l.length = xs.length := by rw [h]; simp
theorem isB.get {l : List (List G)} {xs : List Bool} (h : isB l xs) (i : Nat) : l[i]? = (xs[i]?).map fun x => [.bool (.sym x)] := by rw [h]; simp
section
variable {P : Program} (hp : P = Try.prog)
include hp
set_option maxHeartbeats 8000000 in
theorem order (n : Int) (B0 : List (List G)) (bs : List Bool) (h0 : isB B0 bs) : LValid P 3 [gi .i64 n, .c (.g (.rows 1 B0))] [] (fun v _ => ∃ b : BB, b.val = true ∧ v = .one (.c (.g (.bool b)))) := by
  obtain ⟨I, hI⟩ := ref
  have hle : I.len B0 = bs.length := by rw [hI]; exact h0.len
  refine fn_sim hI (mo hp) (cc hp c3) fun Post hP => ?_
  cbv
  refine .go [] [] [] (within hp _ _) rfl rfl rfl rfl rfl rfl ?_
  rintro r m1 ⟨y, hy, rfl, rfl⟩
  have hyr : 0 ≤ y ∧ y < 8 := by rw [hy]; exact win_in n 8 (by omega) (by omega)
  cbv
  refine .go [] [] [] (new hp (.sym y)) rfl rfl rfl rfl rfl rfl ?_
  rintro r m1 ⟨rm, hrm, rfl, rfl⟩
  have hrm : rm = y := by rw [hrm]; show max 0 y = y; omega
  subst hrm
  obtain ⟨R, hR⟩ : ∃ R : Nat, isN rm R := ⟨rm.toNat, by unfold isN; omega⟩
  have hR7 : R < 8 := by unfold isN at hR; omega
  clear hyr hy
  cbv
  refine .loop_next (fun n ts m => ∃ (i a b : Nat) (z za zb : Int) (L : List (List G)) (ps : List PK), n = 40 - i ∧ isN z i ∧ isN za (b + a) ∧ isN zb b ∧ i ≤ 40 ∧ b + a ≤ i ∧ isP L ps ∧ (∀ q ∈ ps, q.d = []) ∧ ps.length = a ∧ a ≤ R ∧ (∀ j q, ps[j]? = some q → isN q.i (b + j)) ∧
      ts = fr 89 [(0, i64 rm), (1, .one (.c (.g (.rows 1 B0)))), (5, .one (.c (.ptr 0 (.lit 0) 2 0))), (6, i64 za), (7, i64 zb), (8, i64 z)] ∧ m = [qu rm (.row 1 9 none), .sym 9 L])
    40 _ _ [0, 1] [] [0, 1, 5, 6, 7, 8] (by decide) rfl rfl rfl ⟨0, 0, 0, 0, 0, 0, [], [], rfl, rfl, rfl, rfl, by omega, by omega, rfl, by simp, rfl, by omega, by simp, rfl, rfl⟩ ?_
  rintro next n hnext ts m ⟨i, a, b, z, za, zb, L, ps, hn, hz, hza, hzb, hi, hai, hL, hdd, hpl, hrl, hid, rfl, rfl⟩
  have hLl : L.length = a := by rw [hL.len, hpl]
  have hd8 : ∀ q ∈ ps, q.d.length * 8 ≤ 140737488355328 := fun q hq => by rw [hdd q hq]; simp
  have hdiff : isN (I.bin .sub .i64 za zb) a := by
    unfold isN at hza hzb ⊢
    rw [hI]
    simp only [ints, rBin]
    rw [wrap_in] <;> omega
  have hrmb : 0 ≤ rm ∧ rm ≤ 7 := by unfold isN at hR; omega
  cbv
  refine .br (fun g1 => ?_) (fun g1 => ?_)
  · have hi1 : i < bs.length := by
      have h' : rCmp .lss z ((I.len B0 : Nat) : Int) = true := by rw [hI] at g1 ⊢; exact g1
      rw [hle] at h'
      have : z < (bs.length : Nat) := by simpa [rCmp] using h'
      unfold isN at hz
      omega
    cbv
    refine .br (fun g2 => ?_) (fun g2 => ?_)
    · have hi2 : i < 40 := by
        have : z < 40 := by simpa [hI, ints, rCmp] using g2
        unfold isN at hz
        omega
      have hz1 : isN (I.bin .add .i64 z 1) (i + 1) := by unfold isN at hz ⊢; rw [hI]; simp only [ints, rBin]; rw [wrap_in] <;> omega
      obtain ⟨x, hx⟩ : ∃ x, bs[i]? = some x := ⟨_, List.getElem?_eq_getElem hi1⟩
      have hr : B0[i]? = some [.bool (.sym x)] := by rw [h0.get, hx]; rfl
      have hil : i < I.len B0 := by rw [hle]; exact hi1
      cbv
      refine .idx i hz hil (.nth _ hr ?_)
      cbv
      refine .br (fun g3 => ?_) (fun g3 => ?_)
      · cbv
        refine .go [0, 1] [] [.keep, .bor 1] (put hp ⟨_, _, _, _, _, _, _, _⟩ [] [] rfl (by simp) rm L (by omega) (by omega) (by omega)) rfl rfl rfl rfl rfl rfl ?_
        rintro v m1 ⟨t, rfl, hm⟩
        rcases hm with ⟨ht, hm, rfl⟩ | ⟨ht, hm, L', hL', rfl⟩
        · have hm : a = R := by unfold isN at hR; omega
          have hf : I.cmp .eql (I.bin .sub .i64 za zb) rm = true := by unfold isN at hdiff hR; rw [hdiff, hR, hm, hI]; simp [ints, rCmp]
          cbv
          refine br_f (show I.beq (I.cmp .eql t 0) (I.cmp .eql (I.bin .sub .i64 za zb) rm) = false from by rw [hf, ht, hI]; rfl) ?_
          cbv
          refine br_f (show I.not (I.cmp .eql (I.bin .sub .i64 za zb) rm) = false from by rw [hf, hI]; rfl) ?_
          cbv
          exact hnext _ _ (40 - (i + 1)) [0, 1] [] [0, 1, 5, 6, 7, 8] _ _ (by omega) (by decide) rfl rfl rfl ⟨i + 1, a, b, _, za, zb, L, ps, rfl, hz1, hza, hzb, by omega, by omega, hL, hdd, hpl, hrl, hid, rfl, rfl⟩
        · have hm : a ≠ R := by unfold isN at hR; omega
          have hf : I.cmp .eql (I.bin .sub .i64 za zb) rm = false := by unfold isN at hdiff hR; rw [hdiff, hR, hI]; simp [ints, rCmp]; omega
          cbv
          refine br_f (show I.beq (I.cmp .eql t 0) (I.cmp .eql (I.bin .sub .i64 za zb) rm) = false from by rw [hf, ht, hI]; rfl) ?_
          cbv
          refine br_t (show I.not (I.cmp .eql (I.bin .sub .i64 za zb) rm) = true from by rw [hf, hI]; rfl) ?_
          have hza1 : isN (I.bin .add .i64 za 1) (b + (a + 1)) := by unfold isN at hza ⊢; rw [hI]; simp only [ints, rBin]; rw [wrap_in] <;> omega
          have hLp : isP L' (ps ++ [⟨0, 0, 0, za, 0, 0, 0, false, []⟩]) := by rw [hL']; exact hL.app ⟨0, 0, 0, za, 0, 0, 0, false, []⟩ [] rfl
          cbv
          refine hnext _ _ (40 - (i + 1)) [0, 2] [] [0, 1, 5, 6, 7, 8] _ _ (by omega) (by decide) rfl rfl rfl ⟨i + 1, a + 1, b, _, _, zb, L', _, rfl, hz1, hza1, hzb, by omega, by omega, hLp, ?_, ?_, by omega, fun j q hq => ?_, rfl, rfl⟩
          · intro q hq
            rcases List.mem_append.1 hq with hq | hq
            · exact hdd q hq
            · simp at hq; rw [hq]
          · simp [hpl]
          · rw [List.getElem?_append] at hq
            split at hq
            · exact hid j q hq
            · rename_i hge
              have hj : j = ps.length := by
                cases hq2 : j - ps.length with
                | zero => omega
                | succ n => rw [hq2] at hq; simp at hq
              subst hj
              simp at hq
              subst hq
              unfold isN at hza ⊢
              simp only
              omega
      · cbv
        refine .go [0, 1] [] [] (take hp rm L ps hL hd8 (by omega)) rfl rfl rfl rfl rfl rfl ?_
        have hgt : I.cmp .gtr za zb = decide (0 < a) := by
          unfold isN at hza hzb
          rw [hza, hzb, hI]
          simp [ints, rCmp]
          omega
        rintro v m1 (⟨hps, rfl, rfl⟩ | ⟨q, D, L', hq, hD, hL', rfl, rfl⟩)
        · have hab : a = 0 := by rw [hps] at hpl; exact hpl.symm
          cbv
          refine br_f (show I.not (I.beq false (I.cmp .gtr za zb)) = false from by rw [hgt, hI, hab]; simp [ints]) ?_
          cbv
          refine br_f rfl ?_
          cbv
          refine br_f rfl ?_
          cbv
          exact hnext _ _ (40 - (i + 1)) [0, 1] [] [0, 1, 5, 6, 7, 8] _ _ (by omega) (by decide) rfl rfl rfl ⟨i + 1, a, b, _, za, zb, L, ps, rfl, hz1, hza, hzb, by omega, by omega, hL, hdd, hpl, hrl, hid, rfl, rfl⟩
        · have hab : 0 < a := by have := (List.getElem?_eq_some_iff.1 hq).1; omega
          obtain ⟨a, rfl⟩ : ∃ c, a = c + 1 := ⟨a - 1, by omega⟩
          have hqi := hid 0 q hq
          obtain ⟨qk, qf, qt, qi, ql, qp, qs, qb, qd⟩ := q
          have hqi : qi = zb := by unfold isN at hzb hqi; simp only at hqi; omega
          cbv
          refine br_f (show I.not (I.beq true (I.cmp .gtr za zb)) = false from by rw [hgt, hI]; simp [ints]) ?_
          cbv
          refine br_t rfl ?_
          cbv
          refine br_f (by rw [hI, hqi]; simp [ints, rCmp]) ?_
          cbv
          refine br_t rfl ?_
          cbv
          have hzb1 : isN (I.bin .add .i64 zb 1) (b + 1) := by unfold isN at hzb ⊢; rw [hI]; simp only [ints, rBin]; rw [wrap_in] <;> omega
          refine hnext _ _ (40 - (i + 1)) [0, 2] [] [0, 1, 5, 6, 7, 8] _ _ (by omega) (by decide) rfl rfl rfl ⟨i + 1, a, b + 1, _, za, _, L', _, rfl, hz1, by rw [show b + 1 + a = b + (a + 1) by omega]; exact hza, hzb1, by omega, by omega, hL', fun q hq => hdd q (List.mem_of_mem_eraseIdx hq), ?_, by omega, fun j q hq => ?_, rfl, rfl⟩
          · rw [List.length_eraseIdx]; simp [hpl]
          · rw [List.getElem?_eraseIdx] at hq
            simp at hq
            have := hid (j + 1) q hq
            rw [show b + 1 + j = b + (j + 1) by omega]
            exact this
    · cbv
      refine .go [0, 1] [] [] (len_ hp rm L) rfl rfl rfl rfl rfl rfl ?_
      rintro v m1 ⟨t3, ht3, rfl, rfl⟩
      cbv
      refine br_t (show I.cmp .eql t3 (I.bin .sub .i64 za zb) = true from by unfold isN at hdiff; rw [ht3, hLl, hdiff, hI]; simp [ints, rCmp]) ?_
      cbv
      refine .go [0, 1] [] [] (room_ hp rm L (by omega) (by omega) (by omega)) rfl rfl rfl rfl rfl rfl ?_
      rintro v m1 ⟨t4, ht4, rfl, rfl⟩
      replace ht4 : isN t4 (R - a) := by unfold isN at hR ⊢; omega
      cbv
      refine br_t (show I.cmp .eql t4 (I.bin .add .i64 (I.bin .sub .i64 rm za) zb) = true from by
        unfold isN at hza hzb ht4 hR
        rw [hI, ht4, hR, hza, hzb]
        simp only [ints, rBin]
        rw [wrap_in ((R : Int) - _) (by omega) (by omega), wrap_in _ (by omega) (by omega)]
        simp [rCmp]
        omega) ?_
      cbv
      refine .go [] [] [] (wakes hp) rfl rfl rfl rfl rfl rfl ?_
      rintro r m1 ⟨rfl, rfl⟩
      cbv
      exact hP _ _ [] [] _ _ .nil rfl rfl rfl rfl rfl ⟨_, rfl, rfl⟩
  · cbv
    refine .go [0, 1] [] [] (len_ hp rm L) rfl rfl rfl rfl rfl rfl ?_
    rintro v m1 ⟨t3, ht3, rfl, rfl⟩
    cbv
    refine br_t (show I.cmp .eql t3 (I.bin .sub .i64 za zb) = true from by unfold isN at hdiff; rw [ht3, hLl, hdiff, hI]; simp [ints, rCmp]) ?_
    cbv
    refine .go [0, 1] [] [] (room_ hp rm L (by omega) (by omega) (by omega)) rfl rfl rfl rfl rfl rfl ?_
    rintro v m1 ⟨t4, ht4, rfl, rfl⟩
    replace ht4 : isN t4 (R - a) := by unfold isN at hR ⊢; omega
    cbv
    refine br_t (show I.cmp .eql t4 (I.bin .add .i64 (I.bin .sub .i64 rm za) zb) = true from by
      unfold isN at hza hzb ht4 hR
      rw [hI, ht4, hR, hza, hzb]
      simp only [ints, rBin]
      rw [wrap_in ((R : Int) - _) (by omega) (by omega), wrap_in _ (by omega) (by omega)]
      simp [rCmp]
      omega) ?_
    cbv
    refine .go [] [] [] (wakes hp) rfl rfl rfl rfl rfl rfl ?_
    rintro r m1 ⟨rfl, rfl⟩
    cbv
    exact hP _ _ [] [] _ _ .nil rfl rfl rfl rfl rfl ⟨_, rfl, rfl⟩
end
end Go.Proofs.Ytfbbldnbobacnaa.E
