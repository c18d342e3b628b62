/- Contracts: lists of operations by small numbers. -/
import Derived.Test.YtkpilokfplpjnaaQA
namespace Go.Proofs.Ytkpilokfplpjnaa.E
open Go
set_option linter.unusedVariables false
set_option maxRecDepth 100000

/-- Operations as rows. -/
def isO (l : List (List G)) (xs : List (Int × Int × Int)) : Prop := l = xs.map fun x => [.int .i64 (.sym x.1), .int .i64 (.sym x.2.1), .int .i64 (.sym x.2.2)]
theorem isO.len {l : List (List G)} {xs : List (Int × Int × Int)} (h : isO l xs) : l.length = xs.length := by rw [h]; simp
theorem isO.get {l : List (List G)} {xs : List (Int × Int × Int)} (h : isO l xs) (i : Nat) : l[i]? = (xs[i]?).map fun x => [.int .i64 (.sym x.1), .int .i64 (.sym x.2.1), .int .i64 (.sym x.2.2)] := by rw [h]; simp
theorem isO.app {l : List (List G)} {xs : List (Int × Int × Int)} (h : isO l xs) (a b c : Int) : isO (l ++ [[.int .i64 (.sym a), .int .i64 (.sym b), .int .i64 (.sym c)]]) (xs ++ [(a, b, c)]) := by unfold isO at h ⊢; rw [h]; simp
section
variable {P : Program} (hp : P = Try.prog)
include hp
theorem at_0 (l : List (List G)) (xs : List Int) (hl : isL .i64 l xs) (z : Int) (i : Nat) (hz : isN z i) (hln : xs.length ≤ 140737488355328) : LValid P 20 [.c (.bor 1 l), gi .i64 z] [] (fun v m1 => ∃ q, q = xs.getD i 0 ∧ v = i64 q ∧ m1 = []) := by
  refine nx (LValid.num ?_)
  obtain ⟨I, hI⟩ := ref
  have hle : I.len l = xs.length := by rw [hI]; exact hl.len
  refine fn_sim hI (mo hp) (cc hp c20) fun Post hP => ?_
  cbv
  refine .br (fun h => ?_) (fun h => ?_)
  · have h1 : i < xs.length := by
      have h' : rCmp .lss z ((I.len l : Nat) : Int) = true := by rw [hI] at h ⊢; exact h
      rw [hle] at h'
      have : z < (xs.length : Nat) := by simpa [rCmp] using h'
      unfold isN at hz
      omega
    cbv
    obtain ⟨x, hx⟩ : ∃ x, xs[i]? = some x := ⟨_, List.getElem?_eq_getElem h1⟩
    have hr : l[i]? = some [.int .i64 (.sym x)] := by rw [hl.get, hx]; rfl
    refine .idx i hz (show i < I.len l from by rw [hle]; exact h1) (.nth _ hr ?_)
    cbv
    exact hP _ _ [] [] _ _ .nil rfl rfl rfl rfl rfl ⟨_, rfl, by simp [Z.val, List.getD_eq_getElem?_getD, hx], rfl⟩
  · have h1 : ¬ i < xs.length := by
      have h' : rCmp .lss z ((I.len l : Nat) : Int) = false := by rw [hI] at h ⊢; exact h
      rw [hle] at h'
      have : ¬ z < (xs.length : Nat) := by simpa [rCmp] using h'
      unfold isN at hz
      omega
    cbv
    exact hP _ _ [] [] _ _ .nil rfl rfl rfl rfl rfl ⟨_, rfl, by simp [Z.val, List.getD_eq_getElem?_getD, List.getElem?_eq_none (Nat.le_of_not_lt h1)], rfl⟩
set_option maxHeartbeats 8000000 in
theorem ops (K0 A0 V0 : List (List G)) (ks us vs : List Int) (hk : isL .i64 K0 ks) (ha : isL .i64 A0 us) (hv : isL .i64 V0 vs) (hl1 : ks.length ≤ 140737488355328) (hl2 : us.length ≤ 140737488355328) (hl3 : vs.length ≤ 140737488355328) :
    LValid P 16 [.c (.bor 1 K0), .c (.bor 1 A0), .c (.bor 1 V0)] [] (fun v m1 => ∃ L xs, isO L xs ∧ xs.length ≤ 30 ∧ v = .one (.c (.row 0 3 none)) ∧ m1 = [.sym 3 L]) := by
  obtain ⟨I, hI⟩ := ref
  have hle : I.len K0 = ks.length := by rw [hI]; exact hk.len
  refine fn_sim hI (mo hp) (cc hp c16) fun Post hP => ?_
  cbv
  refine .own 7 3 rfl ?_
  refine .loop_next (fun n ts m => ∃ (i : Nat) (z : Int) (L : List (List G)) (xs : List (Int × Int × Int)), n = 30 - i ∧ isN z i ∧ i ≤ 30 ∧ isO L xs ∧ xs.length = i ∧
      ts = fr 73 [(0, .one (.c (.bor 1 K0))), (1, .one (.c (.bor 1 A0))), (2, .one (.c (.bor 1 V0))), (7, .one (.c (.row 0 3 none))), (8, i64 z)] ∧ m = [.sym 3 L])
    30 _ _ [0] [] [0, 1, 2, 7, 8] (by decide) rfl rfl rfl ⟨0, 0, [], [], rfl, rfl, by omega, rfl, rfl, rfl, rfl⟩ ?_
  rintro next n hnext ts m ⟨i, z, L, xs, hn, hz, hi, hL, hxl, rfl, rfl⟩
  cbv
  refine .br (fun g1 => ?_) (fun g1 => ?_)
  · have hi1 : i < ks.length := by
      have h' : rCmp .lss z ((I.len K0 : Nat) : Int) = true := by rw [hI] at g1 ⊢; exact g1
      rw [hle] at h'
      have : z < (ks.length : Nat) := by simpa [rCmp] using h'
      unfold isN at hz
      omega
    cbv
    refine .br (fun g2 => ?_) (fun g2 => ?_)
    · have hi2 : i < 30 := by
        have : z < 30 := by simpa [hI, ints, rCmp] using g2
        unfold isN at hz
        omega
      cbv
      obtain ⟨x, hx⟩ : ∃ x, ks[i]? = some x := ⟨_, List.getElem?_eq_getElem hi1⟩
      have hr : K0[i]? = some [.int .i64 (.sym x)] := by rw [hk.get, hx]; rfl
      have hil : i < I.len K0 := by rw [hle]; exact hi1
      refine .idx i hz hil (.nth _ hr ?_)
      cbv
      refine .go [] [] [] (within hp _ _) rfl rfl rfl rfl rfl rfl ?_
      rintro r m1 ⟨y, hy, rfl, rfl⟩
      cbv
      refine .go [] [] [] (at_0 hp A0 us ha z i hz hl2) rfl rfl rfl rfl rfl rfl ?_
      rintro r m1 ⟨q, -, rfl, rfl⟩
      cbv
      refine .go [] [] [] (within hp _ _) rfl rfl rfl rfl rfl rfl ?_
      rintro r m1 ⟨y2, hy2, rfl, rfl⟩
      cbv
      have hz1 : isN (I.bin .add .i64 z 1) (i + 1) := by unfold isN at hz ⊢; rw [hI]; simp only [ints, rBin]; rw [wrap_in] <;> omega
      have happ : ∀ a b c, isO (I.app L [[.int .i64 (.sym a), .int .i64 (.sym b), .int .i64 (.sym c)]]) (xs ++ [(a, b, c)]) := fun a b c => by rw [hI]; exact hL.app a b c
      have hlen : ∀ a b c, I.len (I.app L [[.int .i64 (.sym a), .int .i64 (.sym b), .int .i64 (.sym c)]]) = i + 1 := fun a b c => by
        have := (happ a b c).len
        rw [hI] at this ⊢
        rw [show ints.len = List.length from rfl, this]
        simp [hxl]
      have hm1 : ∀ a b c, I.len (I.app L [[.int .i64 (.sym a), .int .i64 (.sym b), .int .i64 (.sym c)]]) * 24 ≤ 140737488355328 := fun a b c => by rw [hlen]; omega
      have hm2 : ∀ a b c, I.len (I.app L [[.int .i64 (.sym a), .int .i64 (.sym b), .int .i64 (.sym c)]]) ≤ 140737488355328 := fun a b c => by rw [hlen]; omega
      repeat' (first
        | (refine .br (fun _ => ?_) (fun _ => ?_) <;> cbv)
        | (refine .go [] [] [] (at_0 hp V0 vs hv z i hz hl3) rfl rfl rfl rfl rfl rfl ?_; rintro r m1 ⟨q, -, rfl, rfl⟩; cbv)
        | (refine .go [] [] [] (at_0 hp A0 us ha z i hz hl2) rfl rfl rfl rfl rfl rfl ?_; rintro r m1 ⟨q, -, rfl, rfl⟩; cbv)
        | (refine .idx i hz hil (.nth _ hr ?_); cbv)
        | (refine .most (hm1 _ _ _) (hm2 _ _ _) ?_; cbv)
        | exact hnext _ _ (30 - (i + 1)) [3] [] [0, 1, 2, 7, 8] _ _ (by omega) (by decide) rfl rfl rfl ⟨i + 1, _, _, _, rfl, hz1, hi2, happ _ _ _, by simp [hxl], rfl, rfl⟩)
    · cbv
      exact hP _ _ [0] [] _ _ (by decide) rfl rfl rfl rfl rfl ⟨L, xs, hL, by omega, rfl, rfl⟩
  · cbv
    exact hP _ _ [0] [] _ _ (by decide) rfl rfl rfl rfl rfl ⟨L, xs, hL, by omega, rfl, rfl⟩
end
end Go.Proofs.Ytkpilokfplpjnaa.E
