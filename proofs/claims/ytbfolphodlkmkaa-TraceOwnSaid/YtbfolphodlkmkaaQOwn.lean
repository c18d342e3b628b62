/- TraceOwn. -/
import Derived.Test.YtbfolphodlkmkaaTC
namespace Go.Proofs.Ytbfolphodlkmkaa.E
open Go
set_option linter.unusedVariables false
set_option maxRecDepth 100000

/-- What is noted, round by round. -/
def own2 (v : Int) (j : Nat) : List EV := [⟨((j % 3 : Nat) : Int), ((j / 3 : Nat) : Int), false, 0⟩, ⟨((j % 3 : Nat) : Int), ((j / 3 : Nat) : Int), true, IntKind.i64.wrap (v + (j : Int))⟩]
def own (v : Int) : Nat → List EV
  | 0 => []
  | n + 1 => own v n ++ own2 v n
theorem own_len (v : Int) : ∀ n, (own v n).length = 2 * n
  | 0 => rfl
  | n + 1 => by simp [own, own2, own_len v n]; omega
theorem own_get (v : Int) : ∀ (n j : Nat), j < 2 * n → (own v n)[j]? = some (if j % 2 = 1 then ⟨((j / 2 % 3 : Nat) : Int), ((j / 6 : Nat) : Int), true, IntKind.i64.wrap (v + ((j / 2 : Nat) : Int))⟩ else ⟨((j / 2 % 3 : Nat) : Int), ((j / 6 : Nat) : Int), false, 0⟩)
  | 0, j, h => by omega
  | n + 1, j, h => by
    simp only [own]
    have hl := own_len v n
    by_cases h1 : j < 2 * n
    · rw [List.getElem?_append_left (by omega)]
      exact own_get v n j h1
    · rw [List.getElem?_append_right (by omega), hl]
      rcases (show j = 2 * n ∨ j = 2 * n + 1 from by omega) with rfl | rfl
      · rw [if_neg (by omega), Nat.sub_self]
        have e1 : 2 * n / 2 = n := by omega
        have e2 : 2 * n / 6 = n / 3 := by omega
        rw [e1, e2]
        rfl
      · rw [if_pos (by omega), show 2 * n + 1 - 2 * n = 1 from by omega]
        have e1 : (2 * n + 1) / 2 = n := by omega
        have e2 : (2 * n + 1) / 6 = n / 3 := by omega
        rw [e1, e2]
        rfl
theorem own_right (v : Int) (n : Nat) (h : n < 12) : rightL 3 [] (own v n) = true := by
  rcases (show n = 0 ∨ n = 1 ∨ n = 2 ∨ n = 3 ∨ n = 4 ∨ n = 5 ∨ n = 6 ∨ n = 7 ∨ n = 8 ∨ n = 9 ∨ n = 10 ∨ n = 11 from by omega) with rfl | rfl | rfl | rfl | rfl | rfl | rfl | rfl | rfl | rfl | rfl | rfl <;> kernel_rfl
theorem own_wrong (v : Int) (n : Nat) (h : n < 12) (h0 : n ≠ 0) : rightL 0 [] (own v n) = false := by
  rcases (show n = 1 ∨ n = 2 ∨ n = 3 ∨ n = 4 ∨ n = 5 ∨ n = 6 ∨ n = 7 ∨ n = 8 ∨ n = 9 ∨ n = 10 ∨ n = 11 from by omega) with rfl | rfl | rfl | rfl | rfl | rfl | rfl | rfl | rfl | rfl | rfl <;> kernel_rfl
theorem isE.set {L : List (List G)} {es : List EV} (h : isE L es) (k : Nat) (e : EV) : isE (L.set k e.row) (es.set k e) := by unfold isE at h ⊢; rw [h]; simp [List.map_set]
/-- The numbers of a round. -/
theorem own_nums {z v : Int} {i : Nat} (hz : isN z i) (hi : i < 12) :
    ints.bin .rem .i64 z 3 = ((i % 3 : Nat) : Int) ∧ ints.bin .quo .i64 z 3 = ((i / 3 : Nat) : Int) ∧ isN (ints.bin .add .i64 (ints.bin .mul .i64 2 z) 1) (2 * i + 1) ∧ isN (ints.bin .mul .i64 2 z) (2 * i) ∧ isN (ints.bin .add .i64 (ints.bin .mul .i64 2 z) 2) (2 * i + 2) ∧ ints.bin .add .i64 v z = IntKind.i64.wrap (v + (i : Int)) := by
  unfold isN at hz ⊢
  subst hz
  have e2 : IntKind.i64.wrap (2 * (i : Int)) = 2 * (i : Int) := by rw [wrap_in] <;> omega
  refine ⟨?_, ?_, ?_, ?_, ?_, rfl⟩
  · show ((i : Int)).tmod 3 = _
    rw [Int.tmod_eq_emod_of_nonneg (by omega)]
    omega
  · show IntKind.i64.wrap (((i : Int)).tdiv 3) = _
    rw [Int.tdiv_eq_ediv_of_nonneg (by omega), wrap_in] <;> omega
  · show IntKind.i64.wrap (IntKind.i64.wrap (2 * (i : Int)) + 1) = _
    rw [e2, wrap_in] <;> omega
  · show IntKind.i64.wrap (2 * (i : Int)) = _
    rw [e2]
    omega
  · show IntKind.i64.wrap (IntKind.i64.wrap (2 * (i : Int)) + 2) = _
    rw [e2, wrap_in] <;> omega
theorem own_nums2 {z v : Int} {j : Nat} (hz : isN z j) (hj : j < 24) :
    ints.bin .rem .i64 (ints.bin .quo .i64 z 2) 3 = ((j / 2 % 3 : Nat) : Int) ∧ ints.bin .quo .i64 z 6 = ((j / 6 : Nat) : Int) ∧ ints.cmp .eql (ints.bin .rem .i64 z 2) 1 = decide (j % 2 = 1) ∧ ints.bin .add .i64 v (ints.bin .quo .i64 z 2) = IntKind.i64.wrap (v + ((j / 2 : Nat) : Int)) := by
  unfold isN at hz
  subst hz
  have e2 : ints.bin .quo .i64 (j : Int) 2 = ((j / 2 : Nat) : Int) := by
    show IntKind.i64.wrap (((j : Int)).tdiv 2) = _
    rw [Int.tdiv_eq_ediv_of_nonneg (by omega), wrap_in] <;> omega
  refine ⟨?_, ?_, ?_, ?_⟩
  · rw [e2]
    show (((j / 2 : Nat) : Int)).tmod 3 = _
    rw [Int.tmod_eq_emod_of_nonneg (by omega)]
    omega
  · show IntKind.i64.wrap (((j : Int)).tdiv 6) = _
    rw [Int.tdiv_eq_ediv_of_nonneg (by omega), wrap_in] <;> omega
  · show (((j : Int)).tmod 2 == 1) = _
    rw [Int.tmod_eq_emod_of_nonneg (by omega)]
    by_cases h : j % 2 = 1
    · rw [decide_eq_true h, beq_iff_eq]
      omega
    · rw [decide_eq_false h, beq_eq_false_iff_ne]
      omega
  · rw [e2]
    rfl
section
variable {P : Program} (hp : P = Try.prog)
include hp
set_option maxHeartbeats 8000000 in
theorem own_ (n v : Int) : LValid P 6 [gi .i64 n, gi .i64 v] [] (fun v _ => ∃ b : BB, b.val = true ∧ v = .one (.c (.g (.bool b)))) := by
  obtain ⟨I, hI⟩ := ref
  refine fn_sim hI (mo hp) (cc hp c6) fun Post hP => ?_
  cbv
  refine .go [] [] [] (new hp) rfl rfl rfl rfl rfl rfl ?_
  rintro r m1 ⟨rfl, rfl⟩
  cbv
  refine .go [] [] [] (within hp _ _) rfl rfl rfl rfl rfl rfl ?_
  rintro r m1 ⟨y, hy, rfl, rfl⟩
  have hyr : 0 ≤ y ∧ y < 12 := by rw [hy]; exact win_in n 12 (by omega) (by omega)
  obtain ⟨N, hN, hN12⟩ : ∃ N : Nat, isN y N ∧ N < 12 := ⟨y.toNat, by unfold isN; omega, by omega⟩
  clear hyr hy
  cbv
  refine .loop_next (fun n ts m => ∃ (i : Nat) (z : Int) (L : List (List G)), n = N - i ∧ isN z i ∧ i ≤ N ∧ isE L (own v i) ∧
      ts = fr 117 [(0, i64 y), (1, i64 v), (5, .one (.c (.ptr 0 (.lit 0) 1 0))), (6, i64 z)] ∧ m = [tr (.row 1 4 none), .sym 4 L])
    N _ _ [0, 1] [] [0, 1, 5, 6] (by decide) rfl rfl rfl ⟨0, 0, [], rfl, rfl, Nat.zero_le _, rfl, rfl, rfl⟩ ?_
  rintro next nn hnext ts m ⟨i, z, L, hn, hz, hi, hL, rfl, rfl⟩
  have hLl : L.length = 2 * i := hL.len.trans (own_len v i)
  cbv
  refine .br (fun g1 => ?_) (fun g1 => ?_)
  · have hi1 : i < N := by
      have : z < y := by simpa [hI, ints, rCmp] using g1
      unfold isN at hz hN
      omega
    have hz1 : isN (I.bin .add .i64 z 1) (i + 1) := by unfold isN at hz ⊢; rw [hI]; simp only [ints, rBin]; rw [wrap_in] <;> omega
    obtain ⟨q1, q2, q3, q4, q5, q6⟩ := own_nums (v := v) hz (by omega : i < 12)
    rw [← hI] at q1 q2 q3 q4 q5 q6
    cbv
    refine .go [0, 1] [] [] (begin_ hp (.sym _) (.sym _) L (by omega)) rfl rfl rfl rfl rfl rfl ?_
    rintro r m1 ⟨L1, hL1, rfl, rfl⟩
    have hE1 : isE L1 (own v i ++ [⟨((i % 3 : Nat) : Int), ((i / 3 : Nat) : Int), false, 0⟩]) := by
      rw [hL1]
      show isE (L ++ [EV.row ⟨I.bin .rem .i64 z 3, I.bin .quo .i64 z 3, false, 0⟩]) _
      rw [q1, q2]
      exact hL.app _
    have hl1 : L1.length = 2 * i + 1 := by rw [hE1.len, List.length_append, own_len]; rfl
    have hg1 : L1[2 * i]? = some (EV.row ⟨I.bin .rem .i64 z 3, I.bin .quo .i64 z 3, false, 0⟩) := by
      rw [q1, q2]
      exact hE1.get (by rw [List.getElem?_append_right (by rw [own_len]; omega), own_len, Nat.sub_self]; rfl)
    cbv
    refine .go [0, 2] [] [] (events hp L1 (by omega)) rfl rfl rfl rfl rfl rfl ?_
    rintro r m1 ⟨rfl, rfl⟩
    have hIl : I.len L1 = 2 * i + 1 := by rw [hI]; exact hl1
    have hne : I.cmp .neq (I.ofNat (I.len L1)) (I.bin .add .i64 (I.bin .mul .i64 2 z) 1) = false := by
      unfold isN at q3
      rw [hIl, q3, hI]
      simp [ints, rCmp]
    have hev := ev_eq hI ⟨I.bin .rem .i64 z 3, I.bin .quo .i64 z 3, false, 0⟩ ⟨I.bin .rem .i64 z 3, I.bin .quo .i64 z 3, false, 0⟩
    have hev2 : I.not (I.and (I.cmp .eql (I.bin .rem .i64 z 3) (I.bin .rem .i64 z 3)) (I.and (I.cmp .eql (I.bin .quo .i64 z 3) (I.bin .quo .i64 z 3)) (I.and (I.beq false false) (I.cmp .eql 0 0)))) = false := by
      have hev : I.and (I.cmp .eql (I.bin .rem .i64 z 3) (I.bin .rem .i64 z 3)) (I.and (I.cmp .eql (I.bin .quo .i64 z 3) (I.bin .quo .i64 z 3)) (I.and (I.beq false false) (I.cmp .eql 0 0))) = _ := hev
      rw [hev, hI]
      simp [ints]
    have hil2 : 2 * i < I.len L1 := by rw [hIl]; omega
    clear hev
    have q4 : isN (I.bin .mul .i64 2 z) (2 * i) := q4
    generalize 2 * i = w at hg1 q4 hil2
    cbv
    refine br_f hne ?_
    cbv
    refine .idx w q4 hil2 ?_
    cbv
    refine .nth _ hg1 ?_
    cbv
    refine br_f hev2 ?_
    cbv
    refine .loop_next (fun n ts m => ∃ (k : Nat) (u c : Int) (X : List (List G)) (xs : List EV), n = 2 * i + 1 - k ∧ isN u k ∧ isN c (2 * i + 1) ∧ k ≤ 2 * i + 1 ∧ isE X xs ∧ xs.length = 2 * i + 1 ∧
        ts = fr 117 [(0, i64 y), (1, i64 v), (5, .one (.c (.ptr 0 (.lit 0) 1 0))), (6, i64 z), (7, .one (.c (.row 2 4 none))), (50, i64 c), (51, i64 u)] ∧ m = [tr (.row 1 4 none), .sym 4 L1, .sym 4 X])
      (2 * i + 1) _ _ [0, 2, 3] [] [0, 1, 5, 6, 7, 50, 51] (by decide) rfl rfl rfl ⟨0, 0, I.ofNat (I.len L1), L1, _, rfl, rfl, by rw [hIl, hI]; rfl, Nat.zero_le _, hE1, by rw [← hE1.len, hl1], rfl, rfl⟩ ?_
    rintro next2 n2 hnext2 ts m ⟨k, u, c, X, xs, hn2, hu, hc, hk, hX, hxl, rfl, rfl⟩
    cbv
    refine .br (fun g2 => ?_) (fun g2 => ?_)
    · have hk1 : k < 2 * i + 1 := by
        have : u < c := by simpa [hI, ints, rCmp] using g2
        unfold isN at hu hc
        omega
      have hu1 : isN (I.bin .add .i64 u 1) (k + 1) := by unfold isN at hu ⊢; rw [hI]; simp only [ints, rBin]; rw [wrap_in] <;> omega
      obtain ⟨x, hx⟩ : ∃ x, xs[k]? = some x := ⟨_, List.getElem?_eq_getElem (by omega)⟩
      have hr := hX.get hx
      have hs : isE (I.set X k (EV.row ⟨9, x.i, x.d, x.v⟩)) (xs.set k ⟨9, x.i, x.d, x.v⟩) := by rw [hI]; exact hX.set k _
      have hkl : k < I.len X := by rw [hI]; show k < X.length; rw [hX.len]; omega
      obtain ⟨xn, xi, xd, xv⟩ := x
      cbv
      refine .idx k hu hkl ?_
      cbv
      refine .nth _ hr ?_
      cbv
      exact hnext2 _ _ (2 * i + 1 - (k + 1)) [0, 1, 2] [] [0, 1, 5, 6, 7, 50, 51] _ _ (by omega) (by decide) rfl rfl rfl ⟨k + 1, _, c, _, _, rfl, hu1, hc, hk1, hs, by rw [List.length_set]; exact hxl, rfl, rfl⟩
    cbv
    refine .go [0, 1] [] [] (end_ hp (.sym _) (.sym _) (.sym _) L1 (by omega)) rfl rfl rfl rfl rfl rfl ?_
    rintro r m1 ⟨L2, hL2, rfl, rfl⟩
    have hE2 : isE L2 (own v (i + 1)) := by
      rw [hL2]
      show isE (L1 ++ [EV.row ⟨I.bin .rem .i64 z 3, I.bin .quo .i64 z 3, true, I.bin .add .i64 v z⟩]) _
      have q1' : I.bin .rem .i64 z 3 = ((i % 3 : Nat) : Int) := q1
      have q2' : I.bin .quo .i64 z 3 = ((i / 3 : Nat) : Int) := q2
      have q6' : I.bin .add .i64 v z = IntKind.i64.wrap (v + (i : Int)) := q6
      rw [q1', q2', q6']
      have := hE1.app ⟨((i % 3 : Nat) : Int), ((i / 3 : Nat) : Int), true, IntKind.i64.wrap (v + (i : Int))⟩
      rw [List.append_assoc] at this
      exact this
    have hl2 : L2.length = 2 * i + 2 := by rw [hE2.len, own_len]; omega
    cbv
    refine .go [0, 3] [] [] (len_ hp L2) rfl rfl rfl rfl rfl rfl ?_
    rintro r m1 ⟨t, ht, rfl, rfl⟩
    have hne2 : I.cmp .neq t (I.bin .add .i64 (I.bin .mul .i64 2 z) 2) = false := by
      have q5' : I.bin .add .i64 (I.bin .mul .i64 2 z) 2 = ((2 * i + 2 : Nat) : Int) := q5
      unfold isN at ht
      rw [q5', ht, hl2, hI]
      simp [ints, rCmp]
    cbv
    refine br_f hne2 ?_
    cbv
    exact hnext _ _ (N - (i + 1)) [0, 3] [] [0, 1, 5, 6] _ _ (by omega) (by decide) rfl rfl rfl ⟨i + 1, _, L2, rfl, hz1, hi1, hE2, rfl, rfl⟩
  have hiN : i = N := by
    have : ¬ z < y := by simpa [hI, ints, rCmp] using g1
    unfold isN at hz hN
    omega
  subst hiN
  have hIl : I.len L = 2 * i := by rw [hI]; exact hLl
  cbv
  refine .go [0, 1] [] [] (events hp L (by omega)) rfl rfl rfl rfl rfl rfl ?_
  rintro r m1 ⟨rfl, rfl⟩
  cbv
  refine .loop_next (fun n ts m => ∃ (j : Nat) (u c : Int), n = 2 * i - j ∧ isN u j ∧ isN c (2 * i) ∧ j ≤ 2 * i ∧
      ts = fr 117 [(0, i64 y), (1, i64 v), (5, .one (.c (.ptr 0 (.lit 0) 1 0))), (75, .one (.c (.row 2 4 none))), (76, i64 c), (77, i64 u)] ∧ m = [tr (.row 1 4 none), .sym 4 L, .sym 4 L])
    (2 * i) _ _ [0, 1, 2] [] [0, 1, 5, 75, 76, 77] (by decide) rfl rfl rfl ⟨0, 0, I.ofNat (I.len L), rfl, rfl, by rw [hIl, hI]; rfl, Nat.zero_le _, rfl, rfl⟩ ?_
  rintro next2 n2 hnext2 ts m ⟨j, u, c, hn2, hu, hc, hj, rfl, rfl⟩
  cbv
  refine .br (fun g2 => ?_) (fun g2 => ?_)
  · have hj1 : j < 2 * i := by
      have : u < c := by simpa [hI, ints, rCmp] using g2
      unfold isN at hu hc
      omega
    have hu1 : isN (I.bin .add .i64 u 1) (j + 1) := by unfold isN at hu ⊢; rw [hI]; simp only [ints, rBin]; rw [wrap_in] <;> omega
    obtain ⟨p1, p2, p3, p4⟩ := own_nums2 (v := v) hu (by omega : j < 24)
    rw [← hI] at p1 p2 p3 p4
    have hjl : j < I.len L := by rw [hIl]; exact hj1
    have hg := own_get v i j hj1
    have hgo : ∀ e : EV, (own v i)[j]? = some e → ∀ e2 : EV, e2 = e → L[j]? = some e.row ∧ I.not (I.and (I.cmp .eql e.n e2.n) (I.and (I.cmp .eql e.i e2.i) (I.and (I.beq e.d e2.d) (I.cmp .eql e.v e2.v)))) = false := fun e he e2 h2 => by
      subst h2
      exact ⟨hL.get he, by rw [ev_eq hI, hI]; simp [ints]⟩
    by_cases hpar : j % 2 = 1
    · rw [if_pos hpar] at hg
      obtain ⟨hr, hq⟩ := hgo _ hg ⟨I.bin .rem .i64 (I.bin .quo .i64 u 2) 3, I.bin .quo .i64 u 6, true, I.bin .add .i64 v (I.bin .quo .i64 u 2)⟩ (by rw [p1, p2, p4])
      have hp3 : I.cmp .eql (I.bin .rem .i64 u 2) 1 = true := by rw [p3]; exact decide_eq_true hpar
      generalize ((j / 2 % 3 : Nat) : Int) = a1 at hr hq
      generalize ((j / 6 : Nat) : Int) = a2 at hr hq
      generalize IntKind.i64.wrap (v + ((j / 2 : Nat) : Int)) = a3 at hr hq
      clear p1 p2 p3 p4 hg hgo
      cbv
      refine .idx j hu hjl ?_
      cbv
      refine .nth _ hr ?_
      cbv
      refine br_t hp3 ?_
      cbv
      refine br_f hq ?_
      cbv
      exact hnext2 _ _ (2 * i - (j + 1)) [0, 1, 2] [] [0, 1, 5, 75, 76, 77] _ _ (by omega) (by decide) rfl rfl rfl ⟨j + 1, _, c, rfl, hu1, hc, hj1, rfl, rfl⟩
    · rw [if_neg hpar] at hg
      obtain ⟨hr, hq⟩ := hgo _ hg ⟨I.bin .rem .i64 (I.bin .quo .i64 u 2) 3, I.bin .quo .i64 u 6, false, 0⟩ (by rw [p1, p2])
      have hp3 : I.cmp .eql (I.bin .rem .i64 u 2) 1 = false := by rw [p3]; exact decide_eq_false hpar
      generalize ((j / 2 % 3 : Nat) : Int) = a1 at hr hq
      generalize ((j / 6 : Nat) : Int) = a2 at hr hq
      clear p1 p2 p3 p4 hg hgo
      cbv
      refine .idx j hu hjl ?_
      cbv
      refine .nth _ hr ?_
      cbv
      refine br_f hp3 ?_
      cbv
      refine br_f hq ?_
      cbv
      exact hnext2 _ _ (2 * i - (j + 1)) [0, 1, 2] [] [0, 1, 5, 75, 76, 77] _ _ (by omega) (by decide) rfl rfl rfl ⟨j + 1, _, c, rfl, hu1, hc, hj1, rfl, rfl⟩
  cbv
  refine .go [0, 1] [] [] (events hp L (by omega)) rfl rfl rfl rfl rfl rfl ?_
  rintro r m1 ⟨rfl, rfl⟩
  cbv
  refine .go [] [] [.keep, .bor 4] (right_ hp (.lit 3) L (own v i) hL (by rw [own_len]; omega)) rfl rfl rfl rfl rfl rfl ?_
  rintro r m1 ⟨t, ht, rfl, rfl⟩
  have ht : t = true := ht.trans (own_right v i hN12)
  cbv
  refine br_t ht ?_
  cbv
  refine .br (fun g3 => ?_) (fun g3 => ?_)
  · cbv
    refine .go [] [] [] (wakes hp) rfl rfl rfl rfl rfl rfl ?_
    rintro v m1 ⟨rfl, rfl⟩
    cbv
    exact hP _ _ [] [] _ _ .nil rfl rfl rfl rfl rfl ⟨_, rfl, rfl⟩
  · have h0 : i ≠ 0 := by
      have : ¬ y = 0 := by simpa [hI, ints, rCmp] using g3
      unfold isN at hN
      omega
    cbv
    refine .go [0, 1] [] [] (events hp L (by omega)) rfl rfl rfl rfl rfl rfl ?_
    rintro r m1 ⟨rfl, rfl⟩
    cbv
    refine .go [] [] [.keep, .bor 4] (right_ hp (.lit 0) L (own v i) hL (by rw [own_len]; omega)) rfl rfl rfl rfl rfl rfl ?_
    rintro r m1 ⟨t2, ht2, rfl, rfl⟩
    have ht2 : t2 = false := ht2.trans (own_wrong v i hN12 h0)
    cbv
    refine br_t (by rw [hI, ht2]; rfl) ?_
    cbv
    refine .go [] [] [] (wakes hp) rfl rfl rfl rfl rfl rfl ?_
    rintro v m1 ⟨rfl, rfl⟩
    cbv
    exact hP _ _ [] [] _ _ .nil rfl rfl rfl rfl rfl ⟨_, rfl, rfl⟩
end
end Go.Proofs.Ytbfolphodlkmkaa.E
