/- ProcOwn. -/
import Derived.Test.YtkpilokfplpjnaaQP
namespace Go.Proofs.Ytkpilokfplpjnaa.E
open Go
set_option linter.unusedVariables false
set_option maxRecDepth 100000

section
variable {P : Program} (hp : P = Try.prog)
include hp
set_option maxHeartbeats 4000000 in
theorem own (n v : Int) (hv : -9223372036854775808 ≤ v ∧ v ≤ 9223372036854775807) : LValid P 3 [gi .i64 n, gi .i64 v] [] (fun v _ => ∃ b : BB, b.val = true ∧ v = .one (.c (.g (.bool b)))) := by
  obtain ⟨I, hI⟩ := ref
  refine fn_sim hI (mo hp) (cc hp c3) fun Post hP => ?_
  cbv
  refine .go [] [] [] (within hp _ _) rfl rfl rfl rfl rfl rfl ?_
  rintro r m1 ⟨y, hy, rfl, rfl⟩
  have hyr : 0 ≤ y ∧ y < 10 := by rw [hy]; exact win_in n 10 (by omega) (by omega)
  obtain ⟨N, hN⟩ : ∃ N : Nat, isN (y + 1) N := ⟨(y + 1).toNat, by unfold isN; omega⟩
  have hy1 : I.bin .add .i64 1 y = y + 1 := by rw [hI]; simp only [ints, rBin]; rw [wrap_in] <;> omega
  have hN10 : 0 < N ∧ N ≤ 10 := by unfold isN at hN; omega
  cbv
  refine .size N (by have : I.bin .add .i64 1 y = (N : Nat) := by rw [hy1]; exact hN
                     exact this) (by omega) ?_
  cbv
  obtain ⟨zN, hzN⟩ : ∃ z, z = I.bin .add .i64 1 y := ⟨_, rfl⟩
  have hzn : isN zN N := by rw [hzN, hy1]; exact hN
  refine .loop_next (fun n ts m => ∃ (i : Nat) (z c : Int) (L : List (List G)) (xs : List (Int × Int × Int)), n = N - i ∧ isN z i ∧ isN c N ∧ i ≤ N ∧ isO L xs ∧ xs.length = N ∧ (∀ j, j < i → xs[j]? = some (2, (j : Int), v)) ∧
      ts = fr 120 [(0, i64 zN), (1, i64 v), (5, .one (.c (.row 0 3 (some (.sym N))))), (20, i64 c), (21, i64 z)] ∧ m = [.sym 3 L])
    N _ _ [0] [] [0, 1, 5, 20, 21] (by decide) rfl rfl rfl ⟨0, 0, I.ofNat (I.len (I.rep N [.int .i64 (.sym 0), .int .i64 (.sym 0), .int .i64 (.sym 0)])), I.rep N [.int .i64 (.sym 0), .int .i64 (.sym 0), .int .i64 (.sym 0)], List.replicate N (0, 0, 0), rfl, rfl, by rw [hI]; simp [ints, isN], Nat.zero_le _, ?_, by simp, by simp, by rw [hzN]; rfl, rfl⟩ ?_
  · rw [hI]
    simp [isO, ints]
  rintro next n hnext ts m ⟨i, z, c, L, xs, hn, hz, hc, hi, hL, hxl, hxs, rfl, rfl⟩
  cbv
  refine .br (fun g1 => ?_) (fun g1 => ?_)
  · have hi1 : i < N := by
      have : z < c := by simpa [hI, ints, rCmp] using g1
      unfold isN at hz hc
      omega
    cbv
    obtain ⟨x, hx⟩ : ∃ x, xs[i]? = some x := ⟨_, List.getElem?_eq_getElem (by omega)⟩
    have hr : L[i]? = some [.int .i64 (.sym x.1), .int .i64 (.sym x.2.1), .int .i64 (.sym x.2.2)] := by rw [hL.get, hx]; rfl
    refine .idx i hz (by rw [hI]; show i < L.length; rw [hL.len]; omega) ?_
    cbv
    refine .nth _ hr ?_
    cbv
    have hset : isO (I.set L i [.int .i64 (.sym 2), .int .i64 (.sym z), .int .i64 (.sym v)]) (xs.set i (2, z, v)) := by
      unfold isO at hL ⊢
      rw [hI, hL]
      show (xs.map _).set i _ = _
      simp [List.map_set]
    have hz1 : isN (I.bin .add .i64 z 1) (i + 1) := by unfold isN at hz ⊢; rw [hI]; simp only [ints, rBin]; rw [wrap_in] <;> omega
    refine hnext _ _ (N - (i + 1)) [0] [] [0, 1, 5, 20, 21] _ _ (by omega) (by decide) rfl rfl rfl ⟨i + 1, _, c, _, _, rfl, hz1, hc, hi1, hset, by simp [hxl], fun j hj => ?_, rfl, rfl⟩
    rw [List.getElem?_set]
    by_cases hij : i = j
    · subst hij
      have hz : z = (i : Int) := hz
      simp [hxl, hi1, hz]
    · simp only [hij, if_false]
      exact hxs j (by omega)
  have hiN : i = N := by
    have : ¬ z < c := by simpa [hI, ints, rCmp] using g1
    unfold isN at hz hc
    omega
  subst hiN
  cbv
  have hLl : L.length = i := by rw [hL.len, hxl]
  refine .go [] [] [.bor 3] (new hp L (by omega)) rfl rfl rfl rfl rfl rfl ?_
  rintro r m1 ⟨rfl, rfl⟩
  cbv
  refine .loop_next (fun n ts m => ∃ (j : Nat) (z c : Int) (L' : List (List G)) (xs' : List (Int × Int × Int)), n = i - j ∧ isN z j ∧ isN c i ∧ j ≤ i ∧ isO L' xs' ∧ xs'.length = i ∧
      ts = fr 120 [(0, i64 zN), (1, i64 v), (5, .one (.c (.row 0 3 (some (.sym i))))), (7, .one (.c (.ptr 1 (.lit 0) 3 0))), (36, i64 c), (37, i64 z)] ∧ m = [.sym 3 L', .lit 3 [[.g (.rows 3 L), .row 2 1 none, .g (.bool (.sym false))]], .sym 1 []])
    i _ _ [0, 1, 2] [] [0, 1, 5, 7, 36, 37] (by decide) rfl rfl rfl ⟨0, 0, _, L, xs, rfl, rfl, by rw [hI]; exact congrArg Nat.cast hLl, Nat.zero_le _, hL, hxl, rfl, rfl⟩ ?_
  rintro next n hnext ts m ⟨j, z, c, L', xs', hn, hz, hc, hj, hL', hxl', rfl, rfl⟩
  cbv
  refine .br (fun g1 => ?_) (fun g1 => ?_)
  · have hj1 : j < i := by
      have : z < c := by simpa [hI, ints, rCmp] using g1
      unfold isN at hz hc
      omega
    cbv
    obtain ⟨x, hx⟩ : ∃ x, xs'[j]? = some x := ⟨_, List.getElem?_eq_getElem (by omega)⟩
    have hr : L'[j]? = some [.int .i64 (.sym x.1), .int .i64 (.sym x.2.1), .int .i64 (.sym x.2.2)] := by rw [hL'.get, hx]; rfl
    have hjl : j < I.len L' := by rw [hI]; show j < L'.length; rw [hL'.len]; omega
    refine .idx j hz hjl ?_
    cbv
    refine .nth _ hr ?_
    cbv
    refine .idx j hz hjl ?_
    cbv
    refine .nth _ hr ?_
    cbv
    have hz1 : isN (I.bin .add .i64 z 1) (j + 1) := by unfold isN at hz ⊢; rw [hI]; simp only [ints, rBin]; rw [wrap_in] <;> omega
    have hset : isO (I.set L' j [.int .i64 (.sym x.1), .int .i64 (.sym x.2.1), .int .i64 (.sym (I.bin .add .i64 x.2.2 1))]) (xs'.set j (x.1, x.2.1, I.bin .add .i64 x.2.2 1)) := by
      unfold isO at hL' ⊢
      rw [hI, hL']
      show (xs'.map _).set j _ = _
      simp [List.map_set]
    exact hnext _ _ (i - (j + 1)) [0, 1, 2] [] [0, 1, 5, 7, 36, 37] _ _ (by omega) (by decide) rfl rfl rfl ⟨j + 1, _, c, _, _, rfl, hz1, hc, hj1, hset, by simp [hxl'], rfl, rfl⟩
  cbv
  have hv0 : I.bin .add .i64 0 v = v := by rw [hI]; simp only [ints, rBin]; rw [wrap_in] <;> omega
  refine .loop_next (fun n ts m => ∃ (j : Nat) (z : Int) (vs : List (List G)) (ws : List Int), n = i - j ∧ isN z j ∧ j ≤ i ∧ isL .i64 vs ws ∧ ws.length = j ∧ (0 < j → ws[0]? = some v) ∧
      ts = fr 120 [(0, i64 zN), (1, i64 v), (7, .one (.c (.ptr 0 (.lit 0) 3 0))), (9, i64 z)] ∧ m = [pr L (.sym false), .sym 1 vs])
    i _ _ [1, 2] [] [0, 1, 7, 9] (by decide) rfl rfl rfl ⟨0, 0, [], [], rfl, rfl, Nat.zero_le _, rfl, rfl, by simp, rfl, rfl⟩ ?_
  rintro next n hnext ts m ⟨j, z, vs, ws, hn, hz, hj, hvs, hwl, hw0, rfl, rfl⟩
  have hvl : vs.length = j := by rw [hvs.len, hwl]
  cbv
  refine .br (fun g1 => ?_) (fun g1 => ?_)
  · have hj1 : j < i := by
      have : z < zN := by simpa [hI, ints, rCmp] using g1
      unfold isN at hz hzn
      omega
    cbv
    refine .go [0, 1] [] [] (current hp L vs xs (.sym false) hL (by omega) (by omega)) rfl rfl rfl rfl rfl rfl ?_
    rintro r m1 ⟨op, q, ok, h1, rfl, rfl⟩
    obtain ⟨hok, hop, -⟩ : ok = true ∧ op = (2, (j : Int), v) ∧ True := by
      rcases h1 with ⟨h1, h2, _⟩ | ⟨_, h2, _⟩
      · rw [hvl, hxs j hj1] at h2
        exact ⟨h1, (Option.some.inj h2).symm, trivial⟩
      · omega
    cbv
    refine br_f (by rw [hI, hok]; rfl) ?_
    cbv
    refine br_f (by rw [hI, hop]; simp [ints, rCmp]) ?_
    cbv
    refine br_f (by rw [hI, hop, show z = (j : Int) from hz]; simp [ints, rCmp]) ?_
    cbv
    refine .go [0, 1] [] [] (begin_ hp L vs (.sym false) (by omega) (by omega)) rfl rfl rfl rfl rfl rfl ?_
    rintro r m1 ⟨t, rfl, hm⟩
    obtain ⟨ht, rfl⟩ : t = 0 ∧ m1 = [pr L (.sym true), .sym 1 vs] := by
      rcases hm with ⟨_, h | h, _⟩ | ⟨h1, _, _, h2⟩
      · cases h
      · omega
      · exact ⟨h1, h2⟩
    cbv
    refine br_f (by rw [hI, ht]; rfl) ?_
    cbv
    refine .go [0, 1] [] [] (end_ hp L vs (.sym true) _ (by omega)) rfl rfl rfl rfl rfl rfl ?_
    rintro r m1 ⟨t2, rfl, hm⟩
    obtain ⟨ht2, vs', hvs', rfl⟩ : t2 = 0 ∧ ∃ vs', vs' = vs ++ [[.int .i64 (.sym (Z.val (.sym (I.bin .add .i64 z v))))]] ∧ m1 = [.lit 3 [[.g (.rows 3 L), .row 2 1 none, .g (.bool (.sym false))]], .dead, .sym 1 vs'] := by
      rcases hm with ⟨_, h, _⟩ | ⟨h1, _, h2⟩
      · cases h
      · exact ⟨h1, h2⟩
    have hvs2 : isL .i64 vs' (ws ++ [I.bin .add .i64 z v]) := by
      unfold isL at hvs ⊢
      rw [hvs', hvs]
      simp [nrow, Z.val]
    have hvl2 : vs'.length = j + 1 := by rw [hvs2.len]; simp [hwl]
    have hlen2 : I.len vs' = j + 1 := by rw [hI]; exact hvl2
    have hz1 : isN (I.bin .add .i64 z 1) (j + 1) := by unfold isN at hz ⊢; rw [hI]; simp only [ints, rBin]; rw [wrap_in] <;> omega
    cbv
    refine br_f (by rw [hI, ht2]; rfl) ?_
    cbv
    refine .go [0, 3] [] [] (values hp L vs' (.sym false) (by omega)) rfl rfl rfl rfl rfl rfl ?_
    rintro r m1 ⟨rfl, rfl⟩
    cbv
    refine br_f (show I.cmp .neq (I.ofNat (I.len vs')) (I.bin .add .i64 z 1) = false from by
      have e1 : I.bin .add .i64 z 1 = ((j + 1 : Nat) : Int) := hz1
      rw [e1, hlen2, hI]
      simp [ints, rCmp]) ?_
    cbv
    have hr : vs'[j]? = some [.int .i64 (.sym (I.bin .add .i64 z v))] := by
      rw [hvs2.get, List.getElem?_append_right (by omega), hwl]
      simp
    refine .idx j hz (show j < I.len vs' from by rw [hlen2]; omega) ?_
    cbv
    refine .nth _ hr ?_
    cbv
    refine br_f (by rw [hI]; simp [ints, rCmp]) ?_
    cbv
    obtain ⟨x0, hx0⟩ : ∃ x, (ws ++ [I.bin .add .i64 z v])[0]? = some x := ⟨_, List.getElem?_eq_getElem (by simp)⟩
    have hr0 : vs'[0]? = some [.int .i64 (.sym x0)] := by rw [hvs2.get, hx0]; rfl
    refine .idx 0 rfl (show 0 < I.len vs' from by rw [hlen2]; omega) ?_
    cbv
    refine .nth _ hr0 ?_
    cbv
    refine hnext _ _ (i - (j + 1)) [0, 3] [] [0, 1, 7, 9] _ _ (by omega) (by decide) rfl rfl rfl ⟨j + 1, _, vs', _, rfl, hz1, hj1, hvs2, by simp [hwl], fun _ => ?_, rfl, rfl⟩
    cases j with
    | zero =>
      have hw : ws = [] := List.eq_nil_of_length_eq_zero hwl
      have hz0 : z = 0 := hz
      rw [hw, hz0]
      simp [hv0]
    | succ j =>
      rw [List.getElem?_append_left (by omega)]
      exact hw0 (by omega)
  have hji : j = i := by
    have : ¬ z < zN := by simpa [hI, ints, rCmp] using g1
    unfold isN at hz hzn
    omega
  cbv
  refine .go [0, 1] [] [] (left hp L vs (.sym false) (by omega) (by omega)) rfl rfl rfl rfl rfl rfl ?_
  rintro r m1 ⟨t, ht, rfl, rfl⟩
  have ht : t = 0 := by unfold isN at ht; omega
  cbv
  refine br_t (by rw [hI, ht]; rfl) ?_
  cbv
  refine .go [0, 1] [] [] (values hp L vs (.sym false) (by omega)) rfl rfl rfl rfl rfl rfl ?_
  rintro r m1 ⟨rfl, rfl⟩
  cbv
  have hr0 : vs[0]? = some [.int .i64 (.sym v)] := by rw [hvs.get, hw0 (by omega)]; rfl
  refine .idx 0 rfl (by rw [hI]; show 0 < vs.length; omega) ?_
  cbv
  refine .nth _ hr0 ?_
  cbv
  refine br_t (by rw [hI]; simp [ints, rCmp]) ?_
  cbv
  refine .go [] [] [] (wakes hp) rfl rfl rfl rfl rfl rfl ?_
  rintro r m1 ⟨rfl, rfl⟩
  cbv
  exact hP _ _ [] [] _ _ .nil rfl rfl rfl rfl rfl ⟨_, rfl, rfl⟩
end
end Go.Proofs.Ytkpilokfplpjnaa.E
