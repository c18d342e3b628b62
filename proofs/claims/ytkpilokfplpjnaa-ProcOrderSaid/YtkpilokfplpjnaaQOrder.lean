/- ProcOrder. -/
import Derived.Test.YtkpilokfplpjnaaQP
namespace Go.Proofs.Ytkpilokfplpjnaa.E
open Go
set_option linter.unusedVariables false
set_option maxRecDepth 100000

section
variable {P : Program} (hp : P = Try.prog)
include hp
set_option maxHeartbeats 8000000 in
theorem order (n : Int) (V0 : List (List G)) (vals : List Int) (h0 : isL .i64 V0 vals) (hl0 : V0.length * 8 ≤ 140737488351232) : LValid P 4 [gi .i64 n, .c (.g (.rows 1 V0))] [] (fun v _ => ∃ b : BB, b.val = true ∧ v = .one (.c (.g (.bool b)))) := by
  obtain ⟨I, hI⟩ := ref
  have hle : I.len V0 = vals.length := by rw [hI]; exact h0.len
  have hl0' : vals.length * 8 ≤ 140737488351232 := by rw [← h0.len]; exact hl0
  refine fn_sim hI (mo hp) (cc hp c4) fun Post hP => ?_
  cbv
  refine .go [] [] [] (within hp _ _) rfl rfl rfl rfl rfl rfl ?_
  rintro r m1 ⟨y, hy, rfl, rfl⟩
  have hyr : 0 ≤ y ∧ y < 20 := by rw [hy]; exact win_in n 20 (by omega) (by omega)
  obtain ⟨N, hN⟩ : ∃ N : Nat, isN y N := ⟨y.toNat, by unfold isN; omega⟩
  have hN20 : N < 20 := by unfold isN at hN; omega
  cbv
  refine .own 5 3 rfl ?_
  refine .loop_next (fun n ts m => ∃ (i : Nat) (z : Int) (L : List (List G)) (xs : List (Int × Int × Int)), n = N - i ∧ isN z i ∧ i ≤ N ∧ isO L xs ∧ xs.length = i ∧
      ts = fr 154 [(0, i64 y), (1, .one (.c (.g (.rows 1 V0)))), (5, .one (.c (.row 0 3 none))), (6, i64 z)] ∧ m = [.sym 3 L])
    N _ _ [0] [] [0, 1, 5, 6] (by decide) rfl rfl rfl ⟨0, 0, [], [], rfl, rfl, Nat.zero_le _, rfl, rfl, rfl, rfl⟩ ?_
  rintro next n hnext ts m ⟨i, z, L, xs, hn, hz, hi, hL, hxl, rfl, rfl⟩
  have hLl : L.length = i := by rw [hL.len, hxl]
  cbv
  refine .br (fun g1 => ?_) (fun g1 => ?_)
  · have hi1 : i < N := by
      have : z < y := by simpa [hI, ints, rCmp] using g1
      unfold isN at hz hN
      omega
    have hz1 : isN (I.bin .add .i64 z 1) (i + 1) := by unfold isN at hz ⊢; rw [hI]; simp only [ints, rBin]; rw [wrap_in] <;> omega
    have happ : ∀ a b c, isO (I.app L [[.int .i64 (.sym a), .int .i64 (.sym b), .int .i64 (.sym c)]]) (xs ++ [(a, b, c)]) := fun a b c => by rw [hI]; exact hL.app a b c
    have hlen : ∀ a b c, I.len (I.app L [[.int .i64 (.sym a), .int .i64 (.sym b), .int .i64 (.sym c)]]) = i + 1 := fun a b c => by
      have := (happ a b c).len
      rw [hI] at this ⊢
      rw [show ints.len = List.length from rfl, this]
      simp [hxl]
    have hm1 : ∀ a b c, I.len (I.app L [[.int .i64 (.sym a), .int .i64 (.sym b), .int .i64 (.sym c)]]) * 24 ≤ 140737488355328 := fun a b c => by rw [hlen]; omega
    have hm2 : ∀ a b c, I.len (I.app L [[.int .i64 (.sym a), .int .i64 (.sym b), .int .i64 (.sym c)]]) ≤ 140737488355328 := fun a b c => by rw [hlen]; omega
    cbv
    refine .most (hm1 _ _ _) (hm2 _ _ _) ?_
    cbv
    exact hnext _ _ (N - (i + 1)) [2] [] [0, 1, 5, 6] _ _ (by omega) (by decide) rfl rfl rfl ⟨i + 1, _, _, _, rfl, hz1, hi1, happ _ _ _, by simp [hxl], rfl, rfl⟩
  have hiN : i = N := by
    have : ¬ z < y := by simpa [hI, ints, rCmp] using g1
    unfold isN at hz hN
    omega
  subst hiN
  cbv
  refine .go [] [] [.bor 3] (new hp L (by omega)) rfl rfl rfl rfl rfl rfl ?_
  rintro r m1 ⟨rfl, rfl⟩
  cbv
  refine .go [1, 2] [] [] (left hp L [] (.sym false) (by simp) (by omega)) rfl rfl rfl rfl rfl rfl ?_
  rintro r m1 ⟨t0, ht0, rfl, rfl⟩
  have ht0 : t0 = y := by unfold isN at ht0 hN; simp at ht0; omega
  cbv
  refine br_f (by rw [hI, ht0]; simp [ints, rCmp]) ?_
  cbv
  refine .own 8 1 rfl ?_
  refine .loop_next (fun n ts m => ∃ (j : Nat) (z : Int) (vs WL : List (List G)) (ws : List Int), n = i - j ∧ isN z j ∧ j ≤ i ∧ isL .i64 vs ws ∧ isL .i64 WL ws ∧ ws.length = j ∧
      ts = fr 154 [(0, i64 y), (1, .one (.c (.g (.rows 1 V0)))), (5, .one (.c (.row 0 3 none))), (7, .one (.c (.ptr 1 (.lit 0) 3 0))), (8, .one (.c (.row 3 1 none))), (9, i64 z)] ∧ m = [.sym 3 L, .lit 3 [[.g (.rows 3 L), .row 2 1 none, .g (.bool (.sym false))]], .sym 1 vs, .sym 1 WL])
    i _ _ [0, 1, 2, 3] [] [0, 1, 5, 7, 8, 9] (by decide) rfl rfl rfl ⟨0, 0, [], [], [], rfl, rfl, Nat.zero_le _, rfl, rfl, rfl, rfl, rfl⟩ ?_
  rintro next n hnext ts m ⟨j, z2, vs, WL, ws, hn, hz2, hj, hvs, hWL, hwl, rfl, rfl⟩
  have hvl : vs.length = j := by rw [hvs.len, hwl]
  cbv
  refine .br (fun g1 => ?_) (fun g1 => ?_)
  · have hj1 : j < i := by
      have : z2 < y := by simpa [hI, ints, rCmp] using g1
      unfold isN at hz2 hN
      omega
    have hz1 : isN (I.bin .add .i64 z2 1) (j + 1) := by unfold isN at hz2 ⊢; rw [hI]; simp only [ints, rBin]; rw [wrap_in] <;> omega
    obtain ⟨x, hx⟩ : ∃ x, xs[j]? = some x := ⟨_, List.getElem?_eq_getElem (by omega)⟩
    have hr : L[j]? = some [.int .i64 (.sym x.1), .int .i64 (.sym x.2.1), .int .i64 (.sym x.2.2)] := by rw [hL.get, hx]; rfl
    have hjl : j < I.len L := by rw [hI]; show j < L.length; omega
    have happ : ∀ (l : List (List G)) (q : Int), isL .i64 l ws → isL .i64 (l ++ [[.int .i64 (.sym q)]]) (ws ++ [q]) := fun l q h => by unfold isL at h ⊢; rw [h]; simp [nrow]
    cbv
    refine .br (fun g2 => ?_) (fun g2 => ?_)
    · have h1 : j < vals.length := by
        have h' : rCmp .lss z2 ((I.len V0 : Nat) : Int) = true := by rw [hI] at g2 ⊢; exact g2
        rw [hle] at h'
        have : z2 < (vals.length : Nat) := by simpa [rCmp] using h'
        unfold isN at hz2
        omega
      obtain ⟨v0, hv0⟩ : ∃ x, vals[j]? = some x := ⟨_, List.getElem?_eq_getElem h1⟩
      have hrv : V0[j]? = some [.int .i64 (.sym v0)] := by rw [h0.get, hv0]; rfl
      cbv
      refine .idx j hz2 (show j < I.len V0 from by rw [hle]; exact h1) (.nth _ hrv ?_)
      cbv
      -- REST
      refine .go [1, 2] [] [] (current hp L vs xs (.sym false) hL (by omega) (by omega)) rfl rfl rfl rfl rfl rfl ?_
      rintro r m1 ⟨op, q, ok, h1, rfl, rfl⟩
      obtain ⟨hok, hop, hq⟩ : ok = true ∧ op = x ∧ q = z2 := by
        rcases h1 with ⟨h1, h2, h3⟩ | ⟨_, h2, _⟩
        · rw [hvl, hx] at h2
          unfold isN at h3 hz2
          exact ⟨h1, (Option.some.inj h2).symm, by omega⟩
        · omega
      cbv
      refine .drawn [1, 2] ?_
      cbv
      refine br_f (by rw [hI, hok]; rfl) ?_
      cbv
      refine .idx j hz2 hjl (.nth _ hr ?_)
      cbv
      refine br_f (by rw [hI, hop]; simp [ints, rCmp]) ?_
      cbv
      refine br_f (by rw [hI, hq]; simp [ints, rCmp]) ?_
      cbv
      refine .go [1, 2] [] [] (begun hp L vs (.sym false)) rfl rfl rfl rfl rfl rfl ?_
      rintro r m1 ⟨t4, ht4, rfl, rfl⟩
      cbv
      refine br_f ht4 ?_
      cbv
      refine .go [1, 2] [] [] (end_ hp L vs (.sym false) _ (by omega)) rfl rfl rfl rfl rfl rfl ?_
      rintro r m1 ⟨t3, rfl, hm⟩
      obtain ⟨ht3, rfl⟩ : t3 = 6 ∧ m1 = [pr L (.sym false), .sym 1 vs] := by
        rcases hm with ⟨h1, _, h2⟩ | ⟨_, h, _⟩
        · exact ⟨h1, h2⟩
        · cases h
      cbv
      refine br_f (by rw [hI, ht3]; rfl) ?_
      cbv
      refine .go [1, 2] [] [] (begin_ hp L vs (.sym false) (by omega) (by omega)) rfl rfl rfl rfl rfl rfl ?_
      rintro r m1 ⟨t2, rfl, hm⟩
      obtain ⟨ht2, rfl⟩ : t2 = 0 ∧ m1 = [pr L (.sym true), .sym 1 vs] := by
        rcases hm with ⟨_, h | h, _⟩ | ⟨h1, _, _, h2⟩
        · cases h
        · omega
        · exact ⟨h1, h2⟩
      cbv
      refine br_f (by rw [hI, ht2]; rfl) ?_
      cbv
      refine .go [1, 2] [] [] (begun hp L vs (.sym true)) rfl rfl rfl rfl rfl rfl ?_
      rintro r m1 ⟨t5, ht5, rfl, rfl⟩
      cbv
      refine br_f (by rw [hI, ht5]; rfl) ?_
      cbv
      refine .go [1, 2] [] [] (begin_ hp L vs (.sym true) (by omega) (by omega)) rfl rfl rfl rfl rfl rfl ?_
      rintro r m1 ⟨t6, rfl, hm⟩
      obtain ⟨ht6, rfl⟩ : t6 = 6 ∧ m1 = [pr L (.sym true), .sym 1 vs] := by
        rcases hm with ⟨h1, _, h2⟩ | ⟨_, h, _⟩
        · exact ⟨h1, h2⟩
        · cases h
      cbv
      refine br_f (by rw [hI, ht6]; rfl) ?_
      cbv
      refine .go [1, 2] [] [] (end_ hp L vs (.sym true) _ (by omega)) rfl rfl rfl rfl rfl rfl ?_
      rintro r m1 ⟨t7, rfl, hm⟩
      obtain ⟨ht7, vs', hvs', rfl⟩ : t7 = 0 ∧ ∃ vs', vs' = vs ++ [[.int .i64 (.sym v0)]] ∧ m1 = [.lit 3 [[.g (.rows 3 L), .row 2 1 none, .g (.bool (.sym false))]], .dead, .sym 1 vs'] := by
        rcases hm with ⟨_, h, _⟩ | ⟨h1, _, h2⟩
        · cases h
        · exact ⟨h1, h2⟩
      have hv2 : isL .i64 vs' (ws ++ [v0]) := by rw [hvs']; exact happ _ _ hvs
      have hvl2 : vs'.length = j + 1 := by rw [hv2.len]; simp [hwl]
      have hW2 : isL .i64 (I.app WL [[.int .i64 (.sym v0)]]) (ws ++ [v0]) := by rw [hI]; exact happ _ _ hWL
      have hWl2 : I.len (I.app WL [[.int .i64 (.sym v0)]]) = j + 1 := by
        have := hW2.len
        rw [hI] at this ⊢
        rw [show ints.len = List.length from rfl, this]
        simp [hwl]
      cbv
      refine br_f (by rw [hI, ht7]; rfl) ?_
      cbv
      refine .most (show I.len (I.app WL [[.int .i64 (.sym v0)]]) * 8 ≤ _ from by rw [hWl2]; omega) (show I.len (I.app WL [[.int .i64 (.sym v0)]]) ≤ _ from by rw [hWl2]; omega) ?_
      cbv
      refine .go [1, 5] [] [] (values hp L vs' (.sym false) (by omega)) rfl rfl rfl rfl rfl rfl ?_
      rintro r m1 ⟨rfl, rfl⟩
      cbv
      refine .go [] [] [.bor 1, .bor 1] (same hp _ _ _ _ hv2 hW2 (by omega)) rfl rfl rfl rfl rfl rfl ?_
      rintro r m1 ⟨t8, ht8, rfl, rfl⟩
      have ht8 : t8 = true := by rw [ht8]; simp
      cbv
      refine br_f (by rw [hI, ht8]; rfl) ?_
      cbv
      refine .go [1, 5] [] [] (left hp L vs' (.sym false) (by omega) (by omega)) rfl rfl rfl rfl rfl rfl ?_
      rintro r m1 ⟨t9, ht9, rfl, rfl⟩
      cbv
      refine br_f (show I.cmp .neq t9 (I.bin .sub .i64 (I.bin .sub .i64 y 1) z2) = false from by
        unfold isN at ht9 hz2 hN
        rw [hI]
        simp only [ints, rBin]
        rw [wrap_in (y - 1) (by omega) (by omega), wrap_in _ (by omega) (by omega)]
        simp [rCmp]
        omega) ?_
      cbv
      obtain ⟨x0, hx0⟩ : ∃ x, (ws ++ [v0])[0]? = some x := ⟨_, List.getElem?_eq_getElem (by simp)⟩
      have hr0 : vs'[0]? = some [.int .i64 (.sym x0)] := by rw [hv2.get, hx0]; rfl
      have h0l : 0 < I.len vs' := by rw [hI]; show 0 < vs'.length; omega
      refine .idx 0 rfl h0l (.nth _ hr0 ?_)
      cbv
      refine .idx 0 rfl h0l (.nth _ hr0 ?_)
      cbv
      exact hnext _ _ (i - (j + 1)) [0, 1, 5, 7] [] [0, 1, 5, 7, 8, 9] _ _ (by omega) (by decide) rfl rfl rfl ⟨j + 1, _, vs', _, _, rfl, hz1, hj1, hv2, hW2, by simp [hwl], rfl, rfl⟩
    · cbv
      refine .go [1, 2] [] [] (current hp L vs xs (.sym false) hL (by omega) (by omega)) rfl rfl rfl rfl rfl rfl ?_
      rintro r m1 ⟨op, q, ok, h1, rfl, rfl⟩
      obtain ⟨hok, hop, hq⟩ : ok = true ∧ op = x ∧ q = z2 := by
        rcases h1 with ⟨h1, h2, h3⟩ | ⟨_, h2, _⟩
        · rw [hvl, hx] at h2
          unfold isN at h3 hz2
          exact ⟨h1, (Option.some.inj h2).symm, by omega⟩
        · omega
      cbv
      refine .drawn [1, 2] ?_
      cbv
      refine br_f (by rw [hI, hok]; rfl) ?_
      cbv
      refine .idx j hz2 hjl (.nth _ hr ?_)
      cbv
      refine br_f (by rw [hI, hop]; simp [ints, rCmp]) ?_
      cbv
      refine br_f (by rw [hI, hq]; simp [ints, rCmp]) ?_
      cbv
      refine .go [1, 2] [] [] (begun hp L vs (.sym false)) rfl rfl rfl rfl rfl rfl ?_
      rintro r m1 ⟨t4, ht4, rfl, rfl⟩
      cbv
      refine br_f ht4 ?_
      cbv
      refine .go [1, 2] [] [] (end_ hp L vs (.sym false) _ (by omega)) rfl rfl rfl rfl rfl rfl ?_
      rintro r m1 ⟨t3, rfl, hm⟩
      obtain ⟨ht3, rfl⟩ : t3 = 6 ∧ m1 = [pr L (.sym false), .sym 1 vs] := by
        rcases hm with ⟨h1, _, h2⟩ | ⟨_, h, _⟩
        · exact ⟨h1, h2⟩
        · cases h
      cbv
      refine br_f (by rw [hI, ht3]; rfl) ?_
      cbv
      refine .go [1, 2] [] [] (begin_ hp L vs (.sym false) (by omega) (by omega)) rfl rfl rfl rfl rfl rfl ?_
      rintro r m1 ⟨t2, rfl, hm⟩
      obtain ⟨ht2, rfl⟩ : t2 = 0 ∧ m1 = [pr L (.sym true), .sym 1 vs] := by
        rcases hm with ⟨_, h | h, _⟩ | ⟨h1, _, _, h2⟩
        · cases h
        · omega
        · exact ⟨h1, h2⟩
      cbv
      refine br_f (by rw [hI, ht2]; rfl) ?_
      cbv
      refine .go [1, 2] [] [] (begun hp L vs (.sym true)) rfl rfl rfl rfl rfl rfl ?_
      rintro r m1 ⟨t5, ht5, rfl, rfl⟩
      cbv
      refine br_f (by rw [hI, ht5]; rfl) ?_
      cbv
      refine .go [1, 2] [] [] (begin_ hp L vs (.sym true) (by omega) (by omega)) rfl rfl rfl rfl rfl rfl ?_
      rintro r m1 ⟨t6, rfl, hm⟩
      obtain ⟨ht6, rfl⟩ : t6 = 6 ∧ m1 = [pr L (.sym true), .sym 1 vs] := by
        rcases hm with ⟨h1, _, h2⟩ | ⟨_, h, _⟩
        · exact ⟨h1, h2⟩
        · cases h
      cbv
      refine br_f (by rw [hI, ht6]; rfl) ?_
      cbv
      refine .go [1, 2] [] [] (end_ hp L vs (.sym true) _ (by omega)) rfl rfl rfl rfl rfl rfl ?_
      rintro r m1 ⟨t7, rfl, hm⟩
      obtain ⟨ht7, vs', hvs', rfl⟩ : t7 = 0 ∧ ∃ vs', vs' = vs ++ [[.int .i64 (.sym z2)]] ∧ m1 = [.lit 3 [[.g (.rows 3 L), .row 2 1 none, .g (.bool (.sym false))]], .dead, .sym 1 vs'] := by
        rcases hm with ⟨_, h, _⟩ | ⟨h1, _, h2⟩
        · cases h
        · exact ⟨h1, h2⟩
      have hv2 : isL .i64 vs' (ws ++ [z2]) := by rw [hvs']; exact happ _ _ hvs
      have hvl2 : vs'.length = j + 1 := by rw [hv2.len]; simp [hwl]
      have hW2 : isL .i64 (I.app WL [[.int .i64 (.sym z2)]]) (ws ++ [z2]) := by rw [hI]; exact happ _ _ hWL
      have hWl2 : I.len (I.app WL [[.int .i64 (.sym z2)]]) = j + 1 := by
        have := hW2.len
        rw [hI] at this ⊢
        rw [show ints.len = List.length from rfl, this]
        simp [hwl]
      cbv
      refine br_f (by rw [hI, ht7]; rfl) ?_
      cbv
      refine .most (show I.len (I.app WL [[.int .i64 (.sym z2)]]) * 8 ≤ _ from by rw [hWl2]; omega) (show I.len (I.app WL [[.int .i64 (.sym z2)]]) ≤ _ from by rw [hWl2]; omega) ?_
      cbv
      refine .go [1, 5] [] [] (values hp L vs' (.sym false) (by omega)) rfl rfl rfl rfl rfl rfl ?_
      rintro r m1 ⟨rfl, rfl⟩
      cbv
      refine .go [] [] [.bor 1, .bor 1] (same hp _ _ _ _ hv2 hW2 (by omega)) rfl rfl rfl rfl rfl rfl ?_
      rintro r m1 ⟨t8, ht8, rfl, rfl⟩
      have ht8 : t8 = true := by rw [ht8]; simp
      cbv
      refine br_f (by rw [hI, ht8]; rfl) ?_
      cbv
      refine .go [1, 5] [] [] (left hp L vs' (.sym false) (by omega) (by omega)) rfl rfl rfl rfl rfl rfl ?_
      rintro r m1 ⟨t9, ht9, rfl, rfl⟩
      cbv
      refine br_f (show I.cmp .neq t9 (I.bin .sub .i64 (I.bin .sub .i64 y 1) z2) = false from by
        unfold isN at ht9 hz2 hN
        rw [hI]
        simp only [ints, rBin]
        rw [wrap_in (y - 1) (by omega) (by omega), wrap_in _ (by omega) (by omega)]
        simp [rCmp]
        omega) ?_
      cbv
      obtain ⟨x0, hx0⟩ : ∃ x, (ws ++ [z2])[0]? = some x := ⟨_, List.getElem?_eq_getElem (by simp)⟩
      have hr0 : vs'[0]? = some [.int .i64 (.sym x0)] := by rw [hv2.get, hx0]; rfl
      have h0l : 0 < I.len vs' := by rw [hI]; show 0 < vs'.length; omega
      refine .idx 0 rfl h0l (.nth _ hr0 ?_)
      cbv
      refine .idx 0 rfl h0l (.nth _ hr0 ?_)
      cbv
      exact hnext _ _ (i - (j + 1)) [0, 1, 5, 7] [] [0, 1, 5, 7, 8, 9] _ _ (by omega) (by decide) rfl rfl rfl ⟨j + 1, _, vs', _, _, rfl, hz1, hj1, hv2, hW2, by simp [hwl], rfl, rfl⟩
  have hji : j = i := by
    have : ¬ z2 < y := by simpa [hI, ints, rCmp] using g1
    unfold isN at hz2 hN
    omega
  cbv
  refine .go [1, 2] [] [] (values hp L vs (.sym false) (by omega)) rfl rfl rfl rfl rfl rfl ?_
  rintro r m1 ⟨rfl, rfl⟩
  cbv
  refine .go [] [] [.bor 1, .bor 1] (same hp _ _ _ _ hvs hWL (by omega)) rfl rfl rfl rfl rfl rfl ?_
  rintro r m1 ⟨t1, ht1, rfl, rfl⟩
  have ht1 : t1 = true := by rw [ht1]; simp
  cbv
  refine br_t ht1 ?_
  cbv
  refine .go [1, 2] [] [] (begin_ hp L vs (.sym false) (by omega) (by omega)) rfl rfl rfl rfl rfl rfl ?_
  rintro r m1 ⟨t2, rfl, hm⟩
  obtain ⟨ht2, rfl⟩ : t2 = 6 ∧ m1 = [pr L (.sym false), .sym 1 vs] := by
    rcases hm with ⟨h1, _, h2⟩ | ⟨_, _, h, _⟩
    · exact ⟨h1, h2⟩
    · omega
  cbv
  refine br_t (by rw [hI, ht2]; rfl) ?_
  cbv
  refine .go [1, 2] [] [] (end_ hp L vs (.sym false) _ (by omega)) rfl rfl rfl rfl rfl rfl ?_
  rintro r m1 ⟨t3, rfl, hm⟩
  obtain ⟨ht3, rfl⟩ : t3 = 6 ∧ m1 = [pr L (.sym false), .sym 1 vs] := by
    rcases hm with ⟨h1, _, h2⟩ | ⟨_, h, _⟩
    · exact ⟨h1, h2⟩
    · cases h
  cbv
  refine br_t (by rw [hI, ht3]; rfl) ?_
  cbv
  refine .go [1, 2] [] [] (begun hp L vs (.sym false)) rfl rfl rfl rfl rfl rfl ?_
  rintro r m1 ⟨t4, ht4, rfl, rfl⟩
  cbv
  refine br_t (by rw [hI, ht4]; rfl) ?_
  cbv
  refine .go [] [] [] (wakes hp) rfl rfl rfl rfl rfl rfl ?_
  rintro r m1 ⟨rfl, rfl⟩
  cbv
  exact hP _ _ [] [] _ _ .nil rfl rfl rfl rfl rfl ⟨_, rfl, rfl⟩
end
end Go.Proofs.Ytkpilokfplpjnaa.E
