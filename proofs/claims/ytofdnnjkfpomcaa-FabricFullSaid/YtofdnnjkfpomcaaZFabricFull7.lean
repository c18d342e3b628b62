/- Contracts for FabricFull, packed: FFull WLast WQPut WApart WArr WZeros WFoot WKept WShare WN WNEv WMore O K VFabricFull. -/
import Derived.Test.YtofdnnjkfpomcaaZFabricFull6
import Derived.OrdersHeld
import Derived.Deep.RegionHeld3
import Derived.Laws.BitsLemmas
import Derived.RowKit
import Derived.Test.YtofdnnjkfpomcaaZFabricFull3
import Derived.ProofKit
import Derived.OpenShut
import Derived.ChangeOld
import Derived.SizedLaws
import Derived.Deep.Slices
import Derived.Test.YtofdnnjkfpomcaaRows
/- FabricFull: pools and queues that are full. -/
namespace Go.Proofs.Ytofdnnjkfpomcaa.E
open Go
set_option linter.unusedVariables false
set_option maxRecDepth 100000
theorem repAdd (k : Nat) (q : PK) : List.replicate k q ++ [q] = List.replicate (k + 1) q := (List.replicate_succ' ..).symm
theorem inc_in (v n : Int) (h : 0 < n) (hn : n ≤ 4611686018427387904) : 1 ≤ ints.bin .add .i64 1 (win v n) ∧ ints.bin .add .i64 1 (win v n) ≤ n := by
  obtain ⟨h1, h2⟩ := win_in v n h hn
  have : ints.bin .add .i64 1 (win v n) = IntKind.i64.wrap (1 + win v n) := rfl
  rw [this, wrap_in] <;> omega
theorem neq_eq {I : Ints} (hI : I = ints) {a b : Int} (h : a = b) : I.cmp .neq a b = false := by rw [hI, h]; simp [ints, rCmp]
section
variable {P : Program} (hp : P = Try.prog)
include hp
set_option maxHeartbeats 64000000 in
theorem full (a b : Int) (s : Bool) : LValid P 4 [gi .i64 a, gi .i64 b, .c (.g (.bool (.sym s)))] [] (fun v _ => ∃ b : BB, b.val = true ∧ v = .one (.c (.g (.bool b)))) := by
  have hwA : wireB pkA 0 (0#16) = true := by decide
  have hwB : wireB pkB 0 (0#16) = true := by decide
  have okA := okQ_rep (n := 2) pkA ⟨by decide, fun y h => (by cases h)⟩
  have okB := okQ_rep (n := 2) pkB ⟨by decide, fun y h => (by cases h)⟩
  obtain ⟨I, hI⟩ := ref
  refine fn_sim hI (mo hp) (cc hp c4) fun Post hP => ?_
  cbv
  refine .go [] [] [] (withinL hp a 6) rfl rfl rfl rfl rfl rfl ?_
  rintro r m1 ⟨y, hy, rfl, rfl⟩
  have ho := inc_in a 6 (by omega) (by omega)
  rw [← hy, ← hI] at ho
  cbv
  refine .go [] [] [] (withinL hp b 6) rfl rfl rfl rfl rfl rfl ?_
  rintro r m1 ⟨y2, hy2, rfl, rfl⟩
  have hi := inc_in b 6 (by omega) (by omega)
  rw [← hy2, ← hI] at hi
  clear hy hy2
  cbv
  obtain ⟨ou, hou⟩ : ∃ ou, I.bin .add .i64 1 y = ou := ⟨_, rfl⟩
  obtain ⟨inn, hin⟩ : ∃ inn, I.bin .add .i64 1 y2 = inn := ⟨_, rfl⟩
  rw [hou] at ho
  rw [hin] at hi
  obtain ⟨no, hno⟩ : ∃ no : Nat, isN ou no := ⟨ou.toNat, by unfold isN; omega⟩
  obtain ⟨ni, hni⟩ : ∃ ni : Nat, isN inn ni := ⟨inn.toNat, by unfold isN; omega⟩
  have h0 : 0 ≤ ou := by omega
  have h1 : ou ≤ 1000000 := by omega
  have g0 : 0 ≤ inn := by omega
  have g1 : inn ≤ 1000000 := by omega
  have hnb : 1 ≤ no ∧ no ≤ 6 ∧ 1 ≤ ni ∧ ni ≤ 6 := by unfold isN at hno hni; omega
  refine .go [] [] [.bor 1] (new2 hp (.lit 2) (.lit 1) (.lit 1) (.lit 1) (.lit 1) (.sym (I.bin .add .i64 1 y)) (.sym (I.bin .add .i64 1 y2)) [] rfl) rfl rfl rfl rfl rfl rfl ?_
  rintro v m1 ⟨ro, ri, hro, hri, rfl, rfl⟩
  obtain rfl : ou = ro := by rw [hro]; show ou = max 0 (I.bin .add .i64 1 y); rw [hou]; omega
  obtain rfl : inn = ri := by rw [hri]; show inn = max 0 (I.bin .add .i64 1 y2); rw [hin]; omega
  clear hro hri
  cbv
  cases s with
  | false =>
  as_aux_lemma =>
    refine br_f rfl ?_
    cbv
    refine .loop_next (fun n ts m => ∃ (k : Nat) (x : Int) (LA : List (List G)), n = no - k ∧ isN x k ∧ k ≤ no ∧ isP LA (List.replicate k pkA) ∧ ts = fr 113 [(2, .one (.c (.g (.bool (.sym false))))), (7, .one (.c (.ptr 0 (.lit 0) 8 0))), (8, .one (.c (.ptr 1 (.lit 0) 1 0))), (9, .one (.c (.ptr 19 (.lit 0) 9 0))), (10, .one (.c (.ptr 20 (.lit 0) 9 0))), (11, i64 x)] ∧ m = .lit 8 [[.g (.int .i64 (.sym 2)), .g (.int .i64 (.sym 1)), .g (.int .i64 (.sym 1)), .g (.int .i64 (.sym 1)), .g (.int .i64 (.sym 1)), .g (.int .i64 (.sym (I.bin .add .i64 1 y))), .g (.int .i64 (.sym (I.bin .add .i64 1 y2))), .g .nil]] :: fabS 1 ou inn 2 [LA, [], [], [], [], [], [], []] ++ [.lit 9 [[.g (.int .i64 (.sym 1)), .g (.int .i64 (.sym 0)), .g (.int .i64 (.sym 1)), .g (.int .i64 (.sym 0)), .g (.int .i64 (.sym 0)), .g (.int .i64 (.sym 0)), .g (.int .i64 (.sym 0)), .g (.bool (.sym false)), .g .nil]], .lit 9 [[.g (.int .i64 (.sym 8)), .g (.int .i64 (.sym 0)), .g (.int .i64 (.sym 1)), .g (.int .i64 (.sym 0)), .g (.int .i64 (.sym 0)), .g (.int .i64 (.sym 0)), .g (.int .i64 (.sym 0)), .g (.bool (.sym false)), .g .nil]]])
      no _ _ [0, 1, 2, 3, 4, 5, 6, 7, 8, 9, 10, 11, 12, 13, 14, 15, 16, 17, 18, 19, 20] [] [2, 7, 8, 9, 10, 11] (by decide) rfl rfl rfl ⟨0, 0, [], rfl, rfl, Nat.zero_le _, rfl, rfl, rfl⟩ ?_
    rintro next n hnext ts m ⟨k, x, LA, hn, hx, hk, hA, rfl, rfl⟩
    have lA : LA.length ≤ 999999 := by rw [hA.len, List.length_replicate]; omega
    have hcm : I.cmp .lss x (I.bin .add .i64 1 y) = true ↔ k < no := by
      rw [hou]
      unfold isN at hx hno
      rw [hI]
      simp only [ints, rCmp, decide_eq_true_eq]
      omega
    have hx1 : isN (I.bin .add .i64 x 1) (k + 1) := by unfold isN at hx ⊢; rw [hI]; simp only [ints, rBin]; rw [wrap_in] <;> omega
    cbv
    refine .br (fun g => ?_) (fun g => ?_)
    · have hkn := hcm.1 g
      clear hcm g
      cbv
      refine .drawn [1, 2, 3, 4, 5, 6, 7, 8, 9, 10, 11, 12, 13, 14, 15, 16, 17, 18] ?_
      cbv
      refine .go [1, 2, 3, 4, 5, 6, 7, 8, 9, 10, 11, 12, 13, 14, 15, 16, 17, 18] [] [.keep, .bor 1] (send2 hp ⟨.sym 1, .sym 0, .sym 1, .sym 0, .sym 0, .sym 0, .sym 0, .sym false⟩ [] [] rfl (by decide) ou inn h0 h1 g0 g1 LA [] [] [] [] [] [] [] (Nat.le_succ_of_le lA) (Nat.zero_le _) (Nat.zero_le _) (Nat.zero_le _) (Nat.zero_le _) (Nat.zero_le _) (Nat.zero_le _) (Nat.zero_le _)) rfl rfl rfl rfl rfl rfl ?_
      rintro v m1 ⟨t, rfl, ⟨_, h, _⟩ | ⟨_, c, L, L', hc, hL, ⟨_, h, _⟩ | ⟨rfl, _, hL', rfl⟩⟩⟩
      · exact absurd h (by decide)
      · obtain rfl : c = 0 := hc.trans (by decide)
        cases hL
        exfalso
        rw [hA.len, List.length_replicate] at h
        unfold isN at hno
        omega
      obtain rfl : c = 0 := hc.trans (by decide)
      cases hL
      have hA2 : isP L' (List.replicate (k + 1) pkA) := by
        rw [← repAdd, hL']
        exact hA.add (q := pkA) (show isL .i64 [] [] from rfl)
      have lA2 : L'.length ≤ 1000000 := by rw [hA2.len, List.length_replicate]; omega
      have hrm : ∀ t : Int, t = ou - (L'.length : Int) → I.cmp .neq t (I.bin .sub .i64 (I.bin .sub .i64 (I.bin .add .i64 1 y) 1) x) = false := fun t ht => by
        rw [hou]
        rw [hA2.len, List.length_replicate] at ht
        unfold isN at hx hno
        refine neq_eq hI ?_
        rw [hI, ht]
        simp only [ints, rBin, IntKind.wrap_i64]
        omega
      clear hL' hc hA lA
      cbv
      refine br_f (neq_eq hI rfl) ?_
      cbv
      refine .go [1, 2, 3, 21, 5, 6, 7, 8, 9, 10, 11, 12, 13, 14, 15, 16, 17, 18] [] [] (roomR2 hp (.sym (I.cmp .eql 1 1)) (by rw [hI]; rfl) (.lit 0) ou inn h0 h1 g0 g1 L' [] [] [] [] [] [] [] lA2 (Nat.zero_le _) (Nat.zero_le _) (Nat.zero_le _) (Nat.zero_le _) (Nat.zero_le _) (Nat.zero_le _) (Nat.zero_le _)) rfl rfl rfl rfl rfl rfl ?_
      rintro v m1 ⟨t, rfl, rfl, ⟨h, _⟩ | ⟨j, L, hj, _, hL, ht⟩⟩
      · exact absurd h (by decide)
      obtain rfl : j = 0 := by
        have hj : (0 : Int) = (j : Int) := hj
        omega
      cases hL
      have hb := hrm t ht
      clear hrm ht hj
      cbv
      refine br_f hb ?_
      cbv
      exact hnext _ _ (no - (k + 1)) [0, 1, 2, 3, 21, 5, 6, 7, 8, 9, 10, 11, 12, 13, 14, 15, 16, 17, 18, 19, 20] [] [2, 7, 8, 9, 10, 11] _ _ (by omega) (by decide) rfl rfl rfl ⟨k + 1, _, L', rfl, hx1, by omega, hA2, rfl, rfl⟩
    · obtain rfl : no = k := by
        have : ¬ k < no := fun h9 => absurd (g.symm.trans (hcm.2 h9)) (by decide)
        omega
      clear hcm g hnext hx1 hx hk
      have nA : (LA.length : Int) = ou := by
        rw [hA.len, List.length_replicate]
        exact hno.symm
      cbv
      refine .drawn [1, 2, 3, 4, 5, 6, 7, 8, 9, 10, 11, 12, 13, 14, 15, 16, 17, 18] ?_
      cbv
      refine .go [1, 2, 3, 4, 5, 6, 7, 8, 9, 10, 11, 12, 13, 14, 15, 16, 17, 18] [] [.keep, .bor 1] (send2 hp ⟨.sym 1, .sym 0, .sym 1, .sym 0, .sym 0, .sym 0, .sym 0, .sym false⟩ [] [] rfl (by decide) ou inn h0 h1 g0 g1 LA [] [] [] [] [] [] [] (Nat.le_succ_of_le lA) (Nat.zero_le _) (Nat.zero_le _) (Nat.zero_le _) (Nat.zero_le _) (Nat.zero_le _) (Nat.zero_le _) (Nat.zero_le _)) rfl rfl rfl rfl rfl rfl ?_
      rintro v m1 ⟨t, rfl, ⟨_, h, _⟩ | ⟨_, c, L, L', hc, hL, ⟨rfl, _, rfl⟩ | ⟨_, h, _⟩⟩⟩
      · exact absurd h (by decide)
      rotate_left
      · obtain rfl : c = 0 := hc.trans (by decide)
        cases hL
        exact absurd nA h
      clear hc hL
      cbv
      refine br_f (neq_eq hI rfl) ?_
      cbv
      refine .go [1, 2, 3, 4, 5, 6, 7, 8, 9, 10, 11, 12, 13, 14, 15, 16, 17, 18] [] [.keep, .bor 1] (send2 hp ⟨.sym 8, .sym 0, .sym 1, .sym 0, .sym 0, .sym 0, .sym 0, .sym false⟩ [] [] rfl (by decide) ou inn h0 h1 g0 g1 LA [] [] [] [] [] [] [] (Nat.le_succ_of_le lA) (Nat.zero_le _) (Nat.zero_le _) (Nat.zero_le _) (Nat.zero_le _) (Nat.zero_le _) (Nat.zero_le _) (Nat.zero_le _)) rfl rfl rfl rfl rfl rfl ?_
      rintro v m1 ⟨t, rfl, ⟨_, h, _⟩ | ⟨_, c, L, LB, hc, hL, ⟨_, h, _⟩ | ⟨rfl, _, hL', rfl⟩⟩⟩
      · exact absurd h (by decide)
      · obtain rfl : c = 2 := hc.trans (by decide)
        cases hL
        exfalso
        have h : ((0 : Nat) : Int) = ou := h
        omega
      obtain rfl : c = 2 := hc.trans (by decide)
      cases hL
      have hB : isP LB [pkB] := hL'
      have lB : LB.length ≤ 999999 := by rw [hB.len]; decide
      clear hc hL'
      cbv
      refine br_f (neq_eq hI rfl) ?_
      cbv
      refine .go [1, 2, 3, 4, 5, 6, 7, 21, 9, 10, 11, 12, 13, 14, 15, 16, 17, 18] [] [] (roomR2 hp (.lit true) rfl (.lit 1) ou inn h0 h1 g0 g1 LA [] LB [] [] [] [] [] (Nat.le_succ_of_le lA) (Nat.zero_le _) (Nat.le_succ_of_le lB) (Nat.zero_le _) (Nat.zero_le _) (Nat.zero_le _) (Nat.zero_le _) (Nat.zero_le _)) rfl rfl rfl rfl rfl rfl ?_
      rintro v m1 ⟨t, rfl, rfl, ⟨h, _⟩ | ⟨j, L, hj, _, hL, ht⟩⟩
      · exact absurd h (by decide)
      obtain rfl : j = 1 := by
        have hj : (1 : Int) = (j : Int) := hj
        omega
      cases hL
      have hb : I.cmp .neq t (I.bin .add .i64 1 y) = false := neq_eq hI (by rw [hou, ht]; show ou - ((0 : Nat) : Int) = ou; omega)
      clear ht hj
      cbv
      refine br_f hb ?_
      cbv
      refine br_f rfl ?_
      cbv
      have hrq : roomQ inn pkA = inn := rfl
      have nB : LB.length = 1 := hB.len
      obtain ⟨mm, hmm, hmr, hm1⟩ : ∃ mm : Nat, isN (I.bin .add .i64 1 y2) mm ∧ isN inn mm ∧ 1 ≤ mm := ⟨ni, by rw [hin]; exact hni, hni, by omega⟩
      refine .loop_next (fun n ts m => ∃ (k : Nat) (x : Int) (LA LQ : List (List G)), n = no - k ∧ isN x k ∧ k ≤ no ∧ isP LA (List.replicate (no - min k mm) pkA) ∧ isP LQ (List.replicate (min k mm) pkA) ∧ ts = fr 113 [(7, .one (.c (.ptr 0 (.lit 0) 8 0))), (8, .one (.c (.ptr 1 (.lit 0) 1 0))), (12, i64 (I.bin .add .i64 1 y2)), (13, i64 0), (14, i64 x)] ∧ m = .lit 8 [[.g (.int .i64 (.sym 2)), .g (.int .i64 (.sym 1)), .g (.int .i64 (.sym 1)), .g (.int .i64 (.sym 1)), .g (.int .i64 (.sym 1)), .g (.int .i64 (.sym (I.bin .add .i64 1 y))), .g (.int .i64 (.sym (I.bin .add .i64 1 y2))), .g .nil]] :: fabS 1 ou inn 2 [LA, [], LB, [], [], LQ, [], []])
        no _ _ [0, 1, 2, 3, 4, 5, 6, 7, 21, 9, 10, 11, 12, 13, 14, 15, 16, 17, 18] [] [7, 8, 12, 13, 14] (by decide) rfl rfl rfl ⟨0, 0, LA, [], rfl, rfl, Nat.zero_le _, by rw [Nat.zero_min]; exact hA, by rw [Nat.zero_min]; rfl, rfl, rfl⟩ ?_
      clear nA lA hA LA
      rintro next n hnext ts m ⟨k, x, LA, LQ, hn, hx, hk, hA, hQ, rfl, rfl⟩
      have nA : LA.length = no - min k mm := by rw [hA.len, List.length_replicate]
      have nQ : LQ.length = min k mm := by rw [hQ.len, List.length_replicate]
      have lA : LA.length ≤ 999999 := by omega
      have lQ : LQ.length ≤ 999999 := by omega
      have hcm : I.cmp .lss x (I.bin .add .i64 1 y) = true ↔ k < no := by
        rw [hou]
        unfold isN at hx hno
        rw [hI]
        simp only [ints, rCmp, decide_eq_true_eq]
        omega
      have hcg : I.cmp .geq x (I.bin .add .i64 1 y2) = true ↔ mm ≤ k := by
        rw [hin]
        unfold isN at hx hmr
        rw [hI]
        simp only [ints, rCmp, decide_eq_true_eq]
        omega
      have hx1 : isN (I.bin .add .i64 x 1) (k + 1) := by unfold isN at hx ⊢; rw [hI]; simp only [ints, rBin]; rw [wrap_in] <;> omega
      have hone : k < no → ∀ (q n : Nat) (ps : List PK) (r : PK), [(List.replicate (no - min k mm) pkA), [pkB], [], []][q]? = some ps → ps[n]? = some r → (0 : Int) = ((sumLen q [LA, LB, [], []] + n : Nat) : Int) → q = 0 ∧ n = 0 ∧ r = pkA ∧ ps = List.replicate (no - min k mm) pkA := fun hkn q n ps r h1 h2 h3 => by
        rcases q with _ | _ | _ | _ | q
        · cases h1
          obtain ⟨hlt, hr⟩ := List.getElem?_eq_some_iff.1 h2
          rw [List.getElem_replicate] at hr
          simp only [sumLen] at h3
          exact ⟨rfl, by omega, hr.symm, rfl⟩
        · simp only [sumLen, nA, nB, List.length_nil] at h3
          omega
        · simp only [sumLen, nA, nB, List.length_nil] at h3
          omega
        · simp only [sumLen, nA, nB, List.length_nil] at h3
          omega
        · cases h1
      cbv
      refine .br (fun g => ?_) (fun g => ?_)
      · have hkn := hcm.1 g
        have hone := hone hkn
        have hbig : ¬ ((0 : Int) < 0 ∨ ((sumLen 4 [LA, LB, [], []] : Nat) : Int) ≤ 0) := by
          simp only [sumLen, nA, nB, List.length_nil]
          omega
        clear hcm g
        cbv
        refine .br (fun g => ?_) (fun g => ?_)
        · have hmk := hcg.1 g
          cbv
          refine .go [1, 2, 3, 4, 5, 6, 7, 8, 9, 10, 11, 12, 13, 14, 15, 16, 17, 18] [] [] (deliver2 hp (.sym 0) (by decide) (.lit 0) (by decide) (.lit 0) 0#16 rfl ou inn h0 h1 g0 g1 LA [] LB [] [] LQ [] [] lA (Nat.zero_le _) lB (Nat.zero_le _) (Nat.zero_le _) lQ (Nat.zero_le _) (Nat.zero_le _) (List.replicate (no - min k mm) pkA) [] [pkB] [] [] (List.replicate (min k mm) pkA) [] [] hA isP_nil hB isP_nil isP_nil hQ isP_nil isP_nil (okA _) (okQ_nil 2) (okB 1) (okQ_nil 2) (okQ_nil 2) (okA _) (okQ_nil 2) (okQ_nil 2)) rfl rfl rfl rfl rfl rfl ?_
          rintro v m1 ⟨t, rfl, ⟨_, h, _⟩ | ⟨q, n, ps, r, hq, hr, hz, ⟨_, hw, _⟩ | ⟨_, c, Lq, pq, hc, hLq, hpq, ⟨rfl, _, rfl⟩ | ⟨_, h, _⟩⟩⟩⟩
          · exact absurd h hbig
          · obtain ⟨_, _, rfl, _⟩ := hone _ _ _ _ hq hr hz
            exact absurd (hw.symm.trans hwA) (by decide)
          rotate_left
          · obtain ⟨_, _, rfl, _⟩ := hone _ _ _ _ hq hr hz
            obtain rfl : c = 5 := hc.trans (by decide)
            cases hLq
            exfalso
            rw [hrq, nQ] at h
            unfold isN at hmr
            omega
          have e1 : min (k + 1) mm = min k mm := by omega
          rw [← e1] at hA hQ
          clear hone hbig hcg hc hLq hpq hq hr hz e1
          cbv
          refine br_f (neq_eq hI rfl) ?_
          cbv
          exact hnext _ _ (no - (k + 1)) [0, 1, 2, 3, 4, 5, 6, 7, 8, 9, 10, 11, 12, 13, 14, 15, 16, 17, 18] [] [7, 8, 12, 13, 14] _ _ (by omega) (by decide) rfl rfl rfl ⟨k + 1, _, LA, LQ, rfl, hx1, by omega, hA, hQ, rfl, rfl⟩
        · have hmk : ¬ mm ≤ k := fun h9 => absurd (g.symm.trans (hcg.2 h9)) (by decide)
          cbv
          refine .go [1, 2, 3, 4, 5, 6, 7, 8, 9, 10, 11, 12, 13, 14, 15, 16, 17, 18] [] [] (deliver2 hp (.sym 0) (by decide) (.lit 0) (by decide) (.lit 0) 0#16 rfl ou inn h0 h1 g0 g1 LA [] LB [] [] LQ [] [] lA (Nat.zero_le _) lB (Nat.zero_le _) (Nat.zero_le _) lQ (Nat.zero_le _) (Nat.zero_le _) (List.replicate (no - min k mm) pkA) [] [pkB] [] [] (List.replicate (min k mm) pkA) [] [] hA isP_nil hB isP_nil isP_nil hQ isP_nil isP_nil (okA _) (okQ_nil 2) (okB 1) (okQ_nil 2) (okQ_nil 2) (okA _) (okQ_nil 2) (okQ_nil 2)) rfl rfl rfl rfl rfl rfl ?_
          rintro v m1 ⟨t, rfl, ⟨_, h, _⟩ | ⟨q, n, ps, r, hq, hr, hz, ⟨_, hw, _⟩ | ⟨_, c, Lq, pq, hc, hLq, hpq, ⟨_, h, _⟩ | ⟨rfl, _, X1, X2, hX1, hX2, hm1⟩⟩⟩⟩
          · exact absurd h hbig
          · obtain ⟨_, _, rfl, _⟩ := hone _ _ _ _ hq hr hz
            exact absurd (hw.symm.trans hwA) (by decide)
          · obtain ⟨_, _, rfl, _⟩ := hone _ _ _ _ hq hr hz
            obtain rfl : c = 5 := hc.trans (by decide)
            cases hLq
            exfalso
            rw [hrq, nQ] at h
            unfold isN at hmr
            omega
          obtain ⟨rfl, rfl, rfl, rfl⟩ := hone _ _ _ _ hq hr hz
          obtain rfl : c = 5 := hc.trans (by decide)
          cases hLq
          cases hpq
          rw [hrq] at hm1
          subst hm1
          have hX1 : isP X1 (List.replicate (min (k + 1) mm) pkA) := by
            rw [show min (k + 1) mm = min k mm + 1 by omega, ← repAdd]
            exact hX1
          have hX2 : isP X2 (List.replicate (no - min (k + 1) mm) pkA) := by
            rw [show no - min k mm = no - min (k + 1) mm + 1 by omega] at hX2
            exact hX2
          clear hone hbig hcg hc hq hr hz
          cbv
          refine br_f (neq_eq hI rfl) ?_
          cbv
          exact hnext _ _ (no - (k + 1)) [0, 1, 2, 3, 20, 5, 6, 7, 8, 9, 10, 11, 12, 13, 19, 15, 16, 17, 18] [] [7, 8, 12, 13, 14] _ _ (by omega) (by decide) rfl rfl rfl ⟨k + 1, _, X2, X1, rfl, hx1, by omega, hX2, hX1, rfl, rfl⟩
      · obtain rfl : no = k := by
          have : ¬ k < no := fun h9 => absurd (g.symm.trans (hcm.2 h9)) (by decide)
          omega
        clear hcm g hnext hx1 hx hk hone hcg
        have hun : ∀ t : Int, isN t (sumLen 4 [LA, LB, [], []]) → I.cmp .eql t (I.bin .add .i64 1 (I.mx (I.bin .sub .i64 (I.bin .add .i64 1 y) (I.bin .add .i64 1 y2)) 0)) = true := fun t ht => by
          rw [hou, hin] 
          simp only [sumLen, nA, nB, List.length_nil] at ht
          unfold isN at ht hno hmr
          rw [hI]
          simp only [ints, rCmp, rBin, IntKind.wrap_i64, decide_eq_true_eq, beq_iff_eq]
          split <;> omega
        cbv
        refine .drawn [1, 2, 3, 4, 5, 6, 7, 8, 9, 10, 11, 12, 13, 14, 15, 16, 17, 18] ?_
        cbv
        refine .go [1, 2, 3, 4, 5, 6, 7, 8, 9, 10, 11, 12, 13, 14, 15, 16, 17, 18] [] [] (under2 hp ou inn h0 h1 g0 g1 LA [] LB [] [] LQ [] [] (Nat.le_succ_of_le lA) (Nat.zero_le _) (Nat.le_succ_of_le lB) (Nat.zero_le _) (Nat.zero_le _) (Nat.le_succ_of_le lQ) (Nat.zero_le _) (Nat.zero_le _)) rfl rfl rfl rfl rfl rfl ?_
        rintro v m1 ⟨t, ht, rfl, rfl⟩
        have hu := hun t ht
        clear hun ht
        cbv
        refine br_t hu ?_
        cbv
        refine .go [1, 2, 3, 4, 5, 6, 7, 8, 9, 10, 11, 12, 13, 14, 15, 16, 17, 18] [] [.keep, .bor 1] (send2 hp ⟨.lit 1, .lit 2, .lit 0, .lit 0, .lit 0, .lit 0, .lit 0, .lit false⟩ [] [] rfl (by decide) ou inn h0 h1 g0 g1 LA [] LB [] [] LQ [] [] (Nat.le_succ_of_le lA) (Nat.zero_le _) (Nat.le_succ_of_le lB) (Nat.zero_le _) (Nat.zero_le _) (Nat.le_succ_of_le lQ) (Nat.zero_le _) (Nat.zero_le _)) rfl rfl rfl rfl rfl rfl ?_
        rintro v m1 ⟨t, rfl, ⟨rfl, _, rfl⟩ | ⟨h, _⟩⟩
        rotate_left
        · exact absurd h (by decide)
        cbv
        refine br_t (show I.cmp .eql 1 1 = true from by rw [hI]; rfl) ?_
        cbv
        refine .go [1, 2, 3, 4, 5, 6, 7, 8, 9, 10, 11, 12, 13, 14, 15, 16, 17, 18] [] [.keep, .bor 1] (send2 hp ⟨.lit 0, .lit 0, .lit 0, .lit 0, .lit 0, .lit 0, .lit 0, .lit false⟩ [] [] rfl (by decide) ou inn h0 h1 g0 g1 LA [] LB [] [] LQ [] [] (Nat.le_succ_of_le lA) (Nat.zero_le _) (Nat.le_succ_of_le lB) (Nat.zero_le _) (Nat.zero_le _) (Nat.le_succ_of_le lQ) (Nat.zero_le _) (Nat.zero_le _)) rfl rfl rfl rfl rfl rfl ?_
        rintro v m1 ⟨t, rfl, ⟨rfl, _, rfl⟩ | ⟨h, _⟩⟩
        rotate_left
        · exact absurd h (by decide)
        cbv
        refine br_t (show I.cmp .eql 1 1 = true from by rw [hI]; rfl) ?_
        cbv
        refine .go [] [] [] (wakes6 hp) rfl rfl rfl rfl rfl rfl ?_
        rintro v m1 ⟨rfl, rfl⟩
        cbv
        exact hP _ _ [] [] _ _ .nil rfl rfl rfl rfl rfl ⟨_, rfl, rfl⟩
  | true =>
  as_aux_lemma =>
    refine br_t rfl ?_
    cbv
    refine .loop_next (fun n ts m => ∃ (k : Nat) (x : Int) (LA : List (List G)), n = no - k ∧ isN x k ∧ k ≤ no ∧ isP LA (List.replicate k pkB) ∧ ts = fr 113 [(2, .one (.c (.g (.bool (.sym true))))), (7, .one (.c (.ptr 0 (.lit 0) 8 0))), (8, .one (.c (.ptr 1 (.lit 0) 1 0))), (9, .one (.c (.ptr 19 (.lit 0) 9 0))), (10, .one (.c (.ptr 20 (.lit 0) 9 0))), (11, i64 x)] ∧ m = .lit 8 [[.g (.int .i64 (.sym 2)), .g (.int .i64 (.sym 1)), .g (.int .i64 (.sym 1)), .g (.int .i64 (.sym 1)), .g (.int .i64 (.sym 1)), .g (.int .i64 (.sym (I.bin .add .i64 1 y))), .g (.int .i64 (.sym (I.bin .add .i64 1 y2))), .g .nil]] :: fabS 1 ou inn 2 [[], [], LA, [], [], [], [], []] ++ [.lit 9 [[.g (.int .i64 (.sym 8)), .g (.int .i64 (.sym 0)), .g (.int .i64 (.sym 1)), .g (.int .i64 (.sym 0)), .g (.int .i64 (.sym 0)), .g (.int .i64 (.sym 0)), .g (.int .i64 (.sym 0)), .g (.bool (.sym false)), .g .nil]], .lit 9 [[.g (.int .i64 (.sym 1)), .g (.int .i64 (.sym 0)), .g (.int .i64 (.sym 1)), .g (.int .i64 (.sym 0)), .g (.int .i64 (.sym 0)), .g (.int .i64 (.sym 0)), .g (.int .i64 (.sym 0)), .g (.bool (.sym false)), .g .nil]]])
      no _ _ [0, 1, 2, 3, 4, 5, 6, 7, 8, 9, 10, 11, 12, 13, 14, 15, 16, 17, 18, 19, 20] [] [2, 7, 8, 9, 10, 11] (by decide) rfl rfl rfl ⟨0, 0, [], rfl, rfl, Nat.zero_le _, rfl, rfl, rfl⟩ ?_
    rintro next n hnext ts m ⟨k, x, LA, hn, hx, hk, hA, rfl, rfl⟩
    have lA : LA.length ≤ 999999 := by rw [hA.len, List.length_replicate]; omega
    have hcm : I.cmp .lss x (I.bin .add .i64 1 y) = true ↔ k < no := by
      rw [hou]
      unfold isN at hx hno
      rw [hI]
      simp only [ints, rCmp, decide_eq_true_eq]
      omega
    have hx1 : isN (I.bin .add .i64 x 1) (k + 1) := by unfold isN at hx ⊢; rw [hI]; simp only [ints, rBin]; rw [wrap_in] <;> omega
    cbv
    refine .br (fun g => ?_) (fun g => ?_)
    · have hkn := hcm.1 g
      clear hcm g
      cbv
      refine .drawn [1, 2, 3, 4, 5, 6, 7, 8, 9, 10, 11, 12, 13, 14, 15, 16, 17, 18] ?_
      cbv
      refine .go [1, 2, 3, 4, 5, 6, 7, 8, 9, 10, 11, 12, 13, 14, 15, 16, 17, 18] [] [.keep, .bor 1] (send2 hp ⟨.sym 8, .sym 0, .sym 1, .sym 0, .sym 0, .sym 0, .sym 0, .sym false⟩ [] [] rfl (by decide) ou inn h0 h1 g0 g1 [] [] LA [] [] [] [] [] (Nat.zero_le _) (Nat.zero_le _) (Nat.le_succ_of_le lA) (Nat.zero_le _) (Nat.zero_le _) (Nat.zero_le _) (Nat.zero_le _) (Nat.zero_le _)) rfl rfl rfl rfl rfl rfl ?_
      rintro v m1 ⟨t, rfl, ⟨_, h, _⟩ | ⟨_, c, L, L', hc, hL, ⟨_, h, _⟩ | ⟨rfl, _, hL', rfl⟩⟩⟩
      · exact absurd h (by decide)
      · obtain rfl : c = 2 := hc.trans (by decide)
        cases hL
        exfalso
        rw [hA.len, List.length_replicate] at h
        unfold isN at hno
        omega
      obtain rfl : c = 2 := hc.trans (by decide)
      cases hL
      have hA2 : isP L' (List.replicate (k + 1) pkB) := by
        rw [← repAdd, hL']
        exact hA.add (q := pkB) (show isL .i64 [] [] from rfl)
      have lA2 : L'.length ≤ 1000000 := by rw [hA2.len, List.length_replicate]; omega
      have hrm : ∀ t : Int, t = ou - (L'.length : Int) → I.cmp .neq t (I.bin .sub .i64 (I.bin .sub .i64 (I.bin .add .i64 1 y) 1) x) = false := fun t ht => by
        rw [hou]
        rw [hA2.len, List.length_replicate] at ht
        unfold isN at hx hno
        refine neq_eq hI ?_
        rw [hI, ht]
        simp only [ints, rBin, IntKind.wrap_i64]
        omega
      clear hL' hc hA lA
      cbv
      refine br_f (neq_eq hI rfl) ?_
      cbv
      refine .go [1, 2, 3, 4, 5, 6, 7, 21, 9, 10, 11, 12, 13, 14, 15, 16, 17, 18] [] [] (roomA2 hp (.sym (I.cmp .eql 8 1)) (by rw [hI]; rfl) (.lit 0) ou inn h0 h1 g0 g1 [] [] L' [] [] [] [] [] (Nat.zero_le _) (Nat.zero_le _) lA2 (Nat.zero_le _) (Nat.zero_le _) (Nat.zero_le _) (Nat.zero_le _) (Nat.zero_le _)) rfl rfl rfl rfl rfl rfl ?_
      rintro v m1 ⟨t, rfl, rfl, ⟨h, _⟩ | ⟨j, L, hj, _, hL, ht⟩⟩
      · exact absurd h (by decide)
      obtain rfl : j = 0 := by
        have hj : (0 : Int) = (j : Int) := hj
        omega
      cases hL
      have hb := hrm t ht
      clear hrm ht hj
      cbv
      refine br_f hb ?_
      cbv
      exact hnext _ _ (no - (k + 1)) [0, 1, 2, 3, 4, 5, 6, 7, 21, 9, 10, 11, 12, 13, 14, 15, 16, 17, 18, 19, 20] [] [2, 7, 8, 9, 10, 11] _ _ (by omega) (by decide) rfl rfl rfl ⟨k + 1, _, L', rfl, hx1, by omega, hA2, rfl, rfl⟩
    · obtain rfl : no = k := by
        have : ¬ k < no := fun h9 => absurd (g.symm.trans (hcm.2 h9)) (by decide)
        omega
      clear hcm g hnext hx1 hx hk
      have nA : (LA.length : Int) = ou := by
        rw [hA.len, List.length_replicate]
        exact hno.symm
      cbv
      refine .drawn [1, 2, 3, 4, 5, 6, 7, 8, 9, 10, 11, 12, 13, 14, 15, 16, 17, 18] ?_
      cbv
      refine .go [1, 2, 3, 4, 5, 6, 7, 8, 9, 10, 11, 12, 13, 14, 15, 16, 17, 18] [] [.keep, .bor 1] (send2 hp ⟨.sym 8, .sym 0, .sym 1, .sym 0, .sym 0, .sym 0, .sym 0, .sym false⟩ [] [] rfl (by decide) ou inn h0 h1 g0 g1 [] [] LA [] [] [] [] [] (Nat.zero_le _) (Nat.zero_le _) (Nat.le_succ_of_le lA) (Nat.zero_le _) (Nat.zero_le _) (Nat.zero_le _) (Nat.zero_le _) (Nat.zero_le _)) rfl rfl rfl rfl rfl rfl ?_
      rintro v m1 ⟨t, rfl, ⟨_, h, _⟩ | ⟨_, c, L, L', hc, hL, ⟨rfl, _, rfl⟩ | ⟨_, h, _⟩⟩⟩
      · exact absurd h (by decide)
      rotate_left
      · obtain rfl : c = 2 := hc.trans (by decide)
        cases hL
        exact absurd nA h
      clear hc hL
      cbv
      refine br_f (neq_eq hI rfl) ?_
      cbv
      refine .go [1, 2, 3, 4, 5, 6, 7, 8, 9, 10, 11, 12, 13, 14, 15, 16, 17, 18] [] [.keep, .bor 1] (send2 hp ⟨.sym 1, .sym 0, .sym 1, .sym 0, .sym 0, .sym 0, .sym 0, .sym false⟩ [] [] rfl (by decide) ou inn h0 h1 g0 g1 [] [] LA [] [] [] [] [] (Nat.zero_le _) (Nat.zero_le _) (Nat.le_succ_of_le lA) (Nat.zero_le _) (Nat.zero_le _) (Nat.zero_le _) (Nat.zero_le _) (Nat.zero_le _)) rfl rfl rfl rfl rfl rfl ?_
      rintro v m1 ⟨t, rfl, ⟨_, h, _⟩ | ⟨_, c, L, LB, hc, hL, ⟨_, h, _⟩ | ⟨rfl, _, hL', rfl⟩⟩⟩
      · exact absurd h (by decide)
      · obtain rfl : c = 0 := hc.trans (by decide)
        cases hL
        exfalso
        have h : ((0 : Nat) : Int) = ou := h
        omega
      obtain rfl : c = 0 := hc.trans (by decide)
      cases hL
      have hB : isP LB [pkA] := hL'
      have lB : LB.length ≤ 999999 := by rw [hB.len]; decide
      clear hc hL'
      cbv
      refine br_f (neq_eq hI rfl) ?_
      cbv
      refine .go [1, 2, 3, 21, 5, 6, 7, 8, 9, 10, 11, 12, 13, 14, 15, 16, 17, 18] [] [] (roomR2 hp (.lit true) rfl (.lit 1) ou inn h0 h1 g0 g1 LB [] LA [] [] [] [] [] (Nat.le_succ_of_le lB) (Nat.zero_le _) (Nat.le_succ_of_le lA) (Nat.zero_le _) (Nat.zero_le _) (Nat.zero_le _) (Nat.zero_le _) (Nat.zero_le _)) rfl rfl rfl rfl rfl rfl ?_
      rintro v m1 ⟨t, rfl, rfl, ⟨h, _⟩ | ⟨j, L, hj, _, hL, ht⟩⟩
      · exact absurd h (by decide)
      obtain rfl : j = 1 := by
        have hj : (1 : Int) = (j : Int) := hj
        omega
      cases hL
      have hb : I.cmp .neq t (I.bin .add .i64 1 y) = false := neq_eq hI (by rw [hou, ht]; show ou - ((0 : Nat) : Int) = ou; omega)
      clear ht hj
      cbv
      refine br_f hb ?_
      cbv
      refine br_t rfl ?_
      cbv
      have hrq : roomQ inn pkB = 1 := rfl
      have nB : LB.length = 1 := hB.len
      obtain ⟨mm, hmm, hmr, hm1⟩ : ∃ mm : Nat, isN 1 mm ∧ isN 1 mm ∧ 1 ≤ mm := ⟨1, rfl, rfl, by omega⟩
      refine .loop_next (fun n ts m => ∃ (k : Nat) (x : Int) (LA LQ : List (List G)), n = no - k ∧ isN x k ∧ k ≤ no ∧ isP LA (List.replicate (no - min k mm) pkB) ∧ isP LQ (List.replicate (min k mm) pkB) ∧ ts = fr 113 [(7, .one (.c (.ptr 0 (.lit 0) 8 0))), (8, .one (.c (.ptr 1 (.lit 0) 1 0))), (12, i64 1), (13, i64 1), (14, i64 x)] ∧ m = .lit 8 [[.g (.int .i64 (.sym 2)), .g (.int .i64 (.sym 1)), .g (.int .i64 (.sym 1)), .g (.int .i64 (.sym 1)), .g (.int .i64 (.sym 1)), .g (.int .i64 (.sym (I.bin .add .i64 1 y))), .g (.int .i64 (.sym (I.bin .add .i64 1 y2))), .g .nil]] :: fabS 1 ou inn 2 [LB, [], LA, [], [], [], [], LQ])
        no _ _ [0, 1, 2, 3, 21, 5, 6, 7, 8, 9, 10, 11, 12, 13, 14, 15, 16, 17, 18] [] [7, 8, 12, 13, 14] (by decide) rfl rfl rfl ⟨0, 0, LA, [], rfl, rfl, Nat.zero_le _, by rw [Nat.zero_min]; exact hA, by rw [Nat.zero_min]; rfl, rfl, rfl⟩ ?_
      clear nA lA hA LA
      rintro next n hnext ts m ⟨k, x, LA, LQ, hn, hx, hk, hA, hQ, rfl, rfl⟩
      have nA : LA.length = no - min k mm := by rw [hA.len, List.length_replicate]
      have nQ : LQ.length = min k mm := by rw [hQ.len, List.length_replicate]
      have lA : LA.length ≤ 999999 := by omega
      have lQ : LQ.length ≤ 999999 := by omega
      have hcm : I.cmp .lss x (I.bin .add .i64 1 y) = true ↔ k < no := by
        rw [hou]
        unfold isN at hx hno
        rw [hI]
        simp only [ints, rCmp, decide_eq_true_eq]
        omega
      have hcg : I.cmp .geq x 1 = true ↔ mm ≤ k := by
        unfold isN at hx hmr
        rw [hI]
        simp only [ints, rCmp, decide_eq_true_eq]
        omega
      have hx1 : isN (I.bin .add .i64 x 1) (k + 1) := by unfold isN at hx ⊢; rw [hI]; simp only [ints, rBin]; rw [wrap_in] <;> omega
      have hone : k < no → ∀ (q n : Nat) (ps : List PK) (r : PK), [[pkA], (List.replicate (no - min k mm) pkB), [], []][q]? = some ps → ps[n]? = some r → (1 : Int) = ((sumLen q [LB, LA, [], []] + n : Nat) : Int) → q = 1 ∧ n = 0 ∧ r = pkB ∧ ps = List.replicate (no - min k mm) pkB := fun hkn q n ps r h1 h2 h3 => by
        rcases q with _ | _ | _ | _ | q
        · cases h1
          simp only [sumLen] at h3
          obtain rfl : n = 1 := by omega
          cases h2
        · cases h1
          obtain ⟨hlt, hr⟩ := List.getElem?_eq_some_iff.1 h2
          rw [List.getElem_replicate] at hr
          simp only [sumLen, nB] at h3
          exact ⟨rfl, by omega, hr.symm, rfl⟩
        · simp only [sumLen, nA, nB, List.length_nil] at h3
          omega
        · simp only [sumLen, nA, nB, List.length_nil] at h3
          omega
        · cases h1
      cbv
      refine .br (fun g => ?_) (fun g => ?_)
      · have hkn := hcm.1 g
        have hone := hone hkn
        have hbig : ¬ ((1 : Int) < 0 ∨ ((sumLen 4 [LB, LA, [], []] : Nat) : Int) ≤ 1) := by
          simp only [sumLen, nA, nB, List.length_nil]
          omega
        clear hcm g
        cbv
        refine .br (fun g => ?_) (fun g => ?_)
        · have hmk := hcg.1 g
          cbv
          refine .go [1, 2, 3, 4, 5, 6, 7, 8, 9, 10, 11, 12, 13, 14, 15, 16, 17, 18] [] [] (deliver2 hp (.sym 1) (by decide) (.lit 0) (by decide) (.lit 0) 0#16 rfl ou inn h0 h1 g0 g1 LB [] LA [] [] [] [] LQ lB (Nat.zero_le _) lA (Nat.zero_le _) (Nat.zero_le _) (Nat.zero_le _) (Nat.zero_le _) lQ [pkA] [] (List.replicate (no - min k mm) pkB) [] [] [] [] (List.replicate (min k mm) pkB) hB isP_nil hA isP_nil isP_nil isP_nil isP_nil hQ (okA 1) (okQ_nil 2) (okB _) (okQ_nil 2) (okQ_nil 2) (okQ_nil 2) (okQ_nil 2) (okB _)) rfl rfl rfl rfl rfl rfl ?_
          rintro v m1 ⟨t, rfl, ⟨_, h, _⟩ | ⟨q, n, ps, r, hq, hr, hz, ⟨_, hw, _⟩ | ⟨_, c, Lq, pq, hc, hLq, hpq, ⟨rfl, _, rfl⟩ | ⟨_, h, _⟩⟩⟩⟩
          · exact absurd h hbig
          · obtain ⟨_, _, rfl, _⟩ := hone _ _ _ _ hq hr hz
            exact absurd (hw.symm.trans hwB) (by decide)
          rotate_left
          · obtain ⟨_, _, rfl, _⟩ := hone _ _ _ _ hq hr hz
            obtain rfl : c = 7 := hc.trans (by decide)
            cases hLq
            exfalso
            rw [hrq, nQ] at h
            unfold isN at hmr
            omega
          have e1 : min (k + 1) mm = min k mm := by omega
          rw [← e1] at hA hQ
          clear hone hbig hcg hc hLq hpq hq hr hz e1
          cbv
          refine br_f (neq_eq hI rfl) ?_
          cbv
          exact hnext _ _ (no - (k + 1)) [0, 1, 2, 3, 4, 5, 6, 7, 8, 9, 10, 11, 12, 13, 14, 15, 16, 17, 18] [] [7, 8, 12, 13, 14] _ _ (by omega) (by decide) rfl rfl rfl ⟨k + 1, _, LA, LQ, rfl, hx1, by omega, hA, hQ, rfl, rfl⟩
        · have hmk : ¬ mm ≤ k := fun h9 => absurd (g.symm.trans (hcg.2 h9)) (by decide)
          cbv
          refine .go [1, 2, 3, 4, 5, 6, 7, 8, 9, 10, 11, 12, 13, 14, 15, 16, 17, 18] [] [] (deliver2 hp (.sym 1) (by decide) (.lit 0) (by decide) (.lit 0) 0#16 rfl ou inn h0 h1 g0 g1 LB [] LA [] [] [] [] LQ lB (Nat.zero_le _) lA (Nat.zero_le _) (Nat.zero_le _) (Nat.zero_le _) (Nat.zero_le _) lQ [pkA] [] (List.replicate (no - min k mm) pkB) [] [] [] [] (List.replicate (min k mm) pkB) hB isP_nil hA isP_nil isP_nil isP_nil isP_nil hQ (okA 1) (okQ_nil 2) (okB _) (okQ_nil 2) (okQ_nil 2) (okQ_nil 2) (okQ_nil 2) (okB _)) rfl rfl rfl rfl rfl rfl ?_
          rintro v m1 ⟨t, rfl, ⟨_, h, _⟩ | ⟨q, n, ps, r, hq, hr, hz, ⟨_, hw, _⟩ | ⟨_, c, Lq, pq, hc, hLq, hpq, ⟨_, h, _⟩ | ⟨rfl, _, X1, X2, hX1, hX2, hm1⟩⟩⟩⟩
          · exact absurd h hbig
          · obtain ⟨_, _, rfl, _⟩ := hone _ _ _ _ hq hr hz
            exact absurd (hw.symm.trans hwB) (by decide)
          · obtain ⟨_, _, rfl, _⟩ := hone _ _ _ _ hq hr hz
            obtain rfl : c = 7 := hc.trans (by decide)
            cases hLq
            exfalso
            rw [hrq, nQ] at h
            unfold isN at hmr
            omega
          obtain ⟨rfl, rfl, rfl, rfl⟩ := hone _ _ _ _ hq hr hz
          obtain rfl : c = 7 := hc.trans (by decide)
          cases hLq
          cases hpq
          rw [hrq] at hm1
          subst hm1
          have hX1 : isP X1 (List.replicate (min (k + 1) mm) pkB) := by
            rw [show min (k + 1) mm = min k mm + 1 by omega, ← repAdd]
            exact hX1
          have hX2 : isP X2 (List.replicate (no - min (k + 1) mm) pkB) := by
            rw [show no - min k mm = no - min (k + 1) mm + 1 by omega] at hX2
            exact hX2
          clear hone hbig hcg hc hq hr hz
          cbv
          refine br_f (neq_eq hI rfl) ?_
          cbv
          exact hnext _ _ (no - (k + 1)) [0, 1, 2, 3, 4, 5, 6, 7, 20, 9, 10, 11, 12, 13, 14, 15, 16, 17, 19] [] [7, 8, 12, 13, 14] _ _ (by omega) (by decide) rfl rfl rfl ⟨k + 1, _, X2, X1, rfl, hx1, by omega, hX2, hX1, rfl, rfl⟩
      · obtain rfl : no = k := by
          have : ¬ k < no := fun h9 => absurd (g.symm.trans (hcm.2 h9)) (by decide)
          omega
        clear hcm g hnext hx1 hx hk hone hcg
        have hun : ∀ t : Int, isN t (sumLen 4 [LB, LA, [], []]) → I.cmp .eql t (I.bin .add .i64 1 (I.mx (I.bin .sub .i64 (I.bin .add .i64 1 y) 1) 0)) = true := fun t ht => by
          rw [hou] 
          simp only [sumLen, nA, nB, List.length_nil] at ht
          unfold isN at ht hno hmr
          rw [hI]
          simp only [ints, rCmp, rBin, IntKind.wrap_i64, decide_eq_true_eq, beq_iff_eq]
          split <;> omega
        cbv
        refine .drawn [1, 2, 3, 4, 5, 6, 7, 8, 9, 10, 11, 12, 13, 14, 15, 16, 17, 18] ?_
        cbv
        refine .go [1, 2, 3, 4, 5, 6, 7, 8, 9, 10, 11, 12, 13, 14, 15, 16, 17, 18] [] [] (under2 hp ou inn h0 h1 g0 g1 LB [] LA [] [] [] [] LQ (Nat.le_succ_of_le lB) (Nat.zero_le _) (Nat.le_succ_of_le lA) (Nat.zero_le _) (Nat.zero_le _) (Nat.zero_le _) (Nat.zero_le _) (Nat.le_succ_of_le lQ)) rfl rfl rfl rfl rfl rfl ?_
        rintro v m1 ⟨t, ht, rfl, rfl⟩
        have hu := hun t ht
        clear hun ht
        cbv
        refine br_t hu ?_
        cbv
        refine .go [1, 2, 3, 4, 5, 6, 7, 8, 9, 10, 11, 12, 13, 14, 15, 16, 17, 18] [] [.keep, .bor 1] (send2 hp ⟨.lit 1, .lit 2, .lit 0, .lit 0, .lit 0, .lit 0, .lit 0, .lit false⟩ [] [] rfl (by decide) ou inn h0 h1 g0 g1 LB [] LA [] [] [] [] LQ (Nat.le_succ_of_le lB) (Nat.zero_le _) (Nat.le_succ_of_le lA) (Nat.zero_le _) (Nat.zero_le _) (Nat.zero_le _) (Nat.zero_le _) (Nat.le_succ_of_le lQ)) rfl rfl rfl rfl rfl rfl ?_
        rintro v m1 ⟨t, rfl, ⟨rfl, _, rfl⟩ | ⟨h, _⟩⟩
        rotate_left
        · exact absurd h (by decide)
        cbv
        refine br_t (show I.cmp .eql 1 1 = true from by rw [hI]; rfl) ?_
        cbv
        refine .go [1, 2, 3, 4, 5, 6, 7, 8, 9, 10, 11, 12, 13, 14, 15, 16, 17, 18] [] [.keep, .bor 1] (send2 hp ⟨.lit 0, .lit 0, .lit 0, .lit 0, .lit 0, .lit 0, .lit 0, .lit false⟩ [] [] rfl (by decide) ou inn h0 h1 g0 g1 LB [] LA [] [] [] [] LQ (Nat.le_succ_of_le lB) (Nat.zero_le _) (Nat.le_succ_of_le lA) (Nat.zero_le _) (Nat.zero_le _) (Nat.zero_le _) (Nat.zero_le _) (Nat.le_succ_of_le lQ)) rfl rfl rfl rfl rfl rfl ?_
        rintro v m1 ⟨t, rfl, ⟨rfl, _, rfl⟩ | ⟨h, _⟩⟩
        rotate_left
        · exact absurd h (by decide)
        cbv
        refine br_t (show I.cmp .eql 1 1 = true from by rw [hI]; rfl) ?_
        cbv
        refine .go [] [] [] (wakes6 hp) rfl rfl rfl rfl rfl rfl ?_
        rintro v m1 ⟨rfl, rfl⟩
        cbv
        exact hP _ _ [] [] _ _ .nil rfl rfl rfl rfl rfl ⟨_, rfl, rfl⟩
end
end Go.Proofs.Ytofdnnjkfpomcaa.E

-- PRINTED BY print.sh 35421559b90ae4d0a3588c463048766b98c2df88dd9212a6774a882060cdf62d: not written by this session
/-
  PRINTED WORDS, second file: A REGION THAT DRAWS ITS ORDER, WALKED BY HAND, where its last store writes what its own loads read ('x.f = append(x.f, f(i))'). Plain theorems; no macro, no elab. A claim may hold it (turn the namespace's name).
  A load may be taken first in every world that meets S; behind the operations of ds nothing is shown; sound because each of ds waits for what is taken (Region.lastB). The kernel checks it.
  By an AI agent of Go's test side, Mon Nov 16 2026. No person has read it.
-/
namespace Go.Proofs.YtofdnnjkfpomcaaW.PrintLast

section
variable {P : Program} {ops : Array Oper} {Q : Exit → Act → World → Prop} {md : Region.Mode} {S : World → Prop} {ds : List Nat}

/-- Operation d waits for operation i, by a chain of at most 'fuel' edges. -/
def Region.reachB (md : Region.Mode) (ops : Array Oper) (i : Nat) : Nat → Nat → Bool
  | 0, _ => false
  | fuel + 1, d => match ops[d]? with
    | some o => o.after.any fun e => Region.binds md e && (e.on == i || Region.reachB md ops i fuel e.on)
    | none => false

/-- Each of ds that has not come up yet waits for number i. -/
def Region.lastB (md : Region.Mode) (ops : Array Oper) (listed : Array Bool) (ds : List Nat) (i : Nat) : Bool :=
  ds.all fun d => listed.getD d true || Region.reachB md ops i ops.size d

def ListedClosed (md : Region.Mode) (ops : Array Oper) (listed : Array Bool) : Prop :=
  ∀ j oj, ops[j]? = some oj → listed.getD j false = true → ∀ e ∈ oj.after, Region.binds md e = true → listed.getD e.on false = true

theorem ListedClosed.set {listed : Array Bool} {i : Nat} (h : ListedClosed md ops listed) (hi : i ∈ Region.ready md ops listed) : ListedClosed md ops (listed.setIfInBounds i true) := by
  obtain ⟨_, oi, hoi, hall⟩ := mem_ready.1 hi
  intro j oj hj hl e he hb
  by_cases hij : i = j
  · subst hij
    have : oj = oi := Option.some.inj (hj.symm.trans hoi)
    subst this
    exact getD_set_true (hall e he hb)
  · rw [getD_set_ne false hij] at hl
    exact getD_set_true (h j oj hj hl e he hb)

/-- Whatever order is picked from here on, AND 'S' HOLDS BEHIND EVERY OPERATION THAT IS CARRIED OUT, those of ds apart. -/
def wpAnyLast (P : Program) (md : Region.Mode) (ops : Array Oper) (Q : Exit → Act → World → Prop) (S : World → Prop) (ds : List Nat) : Nat → Array Bool → Act → World → Prop
  | 0, listed, a, w => Region.ready md ops listed = [] ∧ Q .normal a w
  | fuel + 1, listed, a, w =>
    (Region.ready md ops listed = [] → Q .normal a w) ∧
    ∀ i ∈ Region.ready md ops listed, wpOp P ops Q i (fun a' w' => (i ∉ ds → S w → S w') ∧ wpAnyLast P md ops Q S ds fuel (listed.setIfInBounds i true) a' w') a w

theorem wpAnyLast_all {rs : List Nat} {fuel : Nat} {listed : Array Bool} {a : Act} {w : World} (hr : Region.ready md ops listed = rs) (hne : rs ≠ [])
    (h : ∀ i ∈ rs, wpOp P ops Q i (fun a' w' => (i ∉ ds → S w → S w') ∧ wpAnyLast P md ops Q S ds fuel (listed.setIfInBounds i true) a' w') a w) : wpAnyLast P md ops Q S ds (fuel + 1) listed a w :=
  ⟨fun h0 => absurd (hr ▸ h0) hne, hr ▸ h⟩

end

section
variable {P : Program} {ops : Array Oper} {Q : Exit → Act → World → Prop} {md : Region.Mode} {S : World → Prop} {ds : List Nat}

def AllReadyL (P : Program) (md : Region.Mode) (ops : Array Oper) (Q : Exit → Act → World → Prop) (S : World → Prop) (ds : List Nat) (fuel : Nat) (listed : Array Bool) (a : Act) (w : World) (rs : List Nat) : Prop :=
  ∀ i ∈ rs, wpOp P ops Q i (fun a' w' => (i ∉ ds → S w → S w') ∧ wpAnyLast P md ops Q S ds fuel (listed.setIfInBounds i true) a' w') a w
theorem AllReadyL.nil {fuel : Nat} {listed : Array Bool} {a : Act} {w : World} : AllReadyL P md ops Q S ds fuel listed a w [] := fun _ h => by cases h
theorem AllReadyL.cons {fuel : Nat} {listed : Array Bool} {a : Act} {w : World} {i : Nat} {o : Oper} {rs : List Nat} (ho : ops[i]? = some o) (hd : i ∉ ds)
    (h : ∀ K' : Act → World → Prop, Shut (∀ a w, S w → (S w → wpAnyLast P md ops Q S ds fuel (listed.setIfInBounds i true) a w) → K' a w) → if Region.wanted o (yielded ops a.tmps) = true then Oper.wp P o a w K' Q else K' (a.put o.dst undef) w)
    (hs : AllReadyL P md ops Q S ds fuel listed a w rs) : AllReadyL P md ops Q S ds fuel listed a w (i :: rs) := fun j hj => by
  rcases List.mem_cons.1 hj with rfl | hj
  · exact wpOp_step ho (fun K' hK => h K' (fun a w hS hW => hK a w ⟨fun _ _ => hS, hW hS⟩))
  · exact hs j hj
theorem wpAnyLast_ready {rs : List Nat} {fuel : Nat} {listed : Array Bool} {a : Act} {w : World} (hr : Region.ready md ops listed = rs) (hne : rs ≠ [])
    (h : AllReadyL P md ops Q S ds fuel listed a w rs) : wpAnyLast P md ops Q S ds (fuel + 1) listed a w := wpAnyLast_all hr hne h
def readyB (md : Region.Mode) (ops : Array Oper) (l l' : Array Bool) (i : Nat) : Bool := (Region.ready md ops l == [i]) && (l.setIfInBounds i true == l')
/-- One operation alone may come up now (a call, a build, an append ..): it is run, S is shown behind it. -/
theorem one_ {i : Nat} {N : Option Tmp} {oi : Oper} {fuel : Nat} {l : Array Bool} {a : Act} {w : World} (l' : Array Bool) (hi : ops[i]? = some oi) (hN : oi.dst = N) (hc : readyB md ops l l' i = true) (hd : i ∉ ds)
    (h : ∀ K : Act → World → Prop, Shut (∀ a' w', S w' → (S w' → wpAnyLast P md ops Q S ds fuel l' a' w') → K a' w') → if Region.wanted oi (yielded ops a.tmps) = true then Oper.wp P oi a w K Q else K (a.put N undef) w) :
    wpAnyLast P md ops Q S ds (fuel + 1) l a w := by
  subst hN
  simp only [readyB, Bool.and_eq_true, beq_iff_eq] at hc
  obtain ⟨h1, h2⟩ := hc
  subst h2
  exact wpAnyLast_ready h1 (by simp) (AllReadyL.cons hi hd (fun K hK => h K hK) AllReadyL.nil)
/-! ### Several operations that write or call may come up: each order is walked, what follows is shown once (join_) -/
theorem two_ {i j : Nat} {Ni Nj : Option Tmp} {oi oj : Oper} {fuel : Nat} {l : Array Bool} {a : Act} {w : World} (li lj : Array Bool) (hi : ops[i]? = some oi) (hj : ops[j]? = some oj) (hNi : oi.dst = Ni) (hNj : oj.dst = Nj)
    (hc : (Region.ready md ops l == [i, j] && l.setIfInBounds i true == li && l.setIfInBounds j true == lj) = true) (hdi : i ∉ ds) (hdj : j ∉ ds)
    (h1 : ∀ K : Act → World → Prop, Shut (∀ a' w', S w' → (S w' → wpAnyLast P md ops Q S ds fuel li a' w') → K a' w') → if Region.wanted oi (yielded ops a.tmps) = true then Oper.wp P oi a w K Q else K (a.put Ni undef) w)
    (h2 : ∀ K : Act → World → Prop, Shut (∀ a' w', S w' → (S w' → wpAnyLast P md ops Q S ds fuel lj a' w') → K a' w') → if Region.wanted oj (yielded ops a.tmps) = true then Oper.wp P oj a w K Q else K (a.put Nj undef) w) :
    wpAnyLast P md ops Q S ds (fuel + 1) l a w := by
  subst hNi
  subst hNj
  simp only [Bool.and_eq_true, beq_iff_eq] at hc
  obtain ⟨⟨h3, h4⟩, h5⟩ := hc
  subst h4
  subst h5
  exact wpAnyLast_ready h3 (by simp) (AllReadyL.cons hi hdi (fun K hK => h1 K hK) (AllReadyL.cons hj hdj (fun K hK => h2 K hK) AllReadyL.nil))
theorem three_ {i j k : Nat} {Ni Nj Nk : Option Tmp} {oi oj ok : Oper} {fuel : Nat} {l : Array Bool} {a : Act} {w : World} (li lj lk : Array Bool) (hi : ops[i]? = some oi) (hj : ops[j]? = some oj) (hk : ops[k]? = some ok) (hNi : oi.dst = Ni) (hNj : oj.dst = Nj) (hNk : ok.dst = Nk)
    (hc : (Region.ready md ops l == [i, j, k] && l.setIfInBounds i true == li && l.setIfInBounds j true == lj && l.setIfInBounds k true == lk) = true) (hdi : i ∉ ds) (hdj : j ∉ ds) (hdk : k ∉ ds)
    (h1 : ∀ K : Act → World → Prop, Shut (∀ a' w', S w' → (S w' → wpAnyLast P md ops Q S ds fuel li a' w') → K a' w') → if Region.wanted oi (yielded ops a.tmps) = true then Oper.wp P oi a w K Q else K (a.put Ni undef) w)
    (h2 : ∀ K : Act → World → Prop, Shut (∀ a' w', S w' → (S w' → wpAnyLast P md ops Q S ds fuel lj a' w') → K a' w') → if Region.wanted oj (yielded ops a.tmps) = true then Oper.wp P oj a w K Q else K (a.put Nj undef) w)
    (h3 : ∀ K : Act → World → Prop, Shut (∀ a' w', S w' → (S w' → wpAnyLast P md ops Q S ds fuel lk a' w') → K a' w') → if Region.wanted ok (yielded ops a.tmps) = true then Oper.wp P ok a w K Q else K (a.put Nk undef) w) :
    wpAnyLast P md ops Q S ds (fuel + 1) l a w := by
  subst hNi
  subst hNj
  subst hNk
  simp only [Bool.and_eq_true, beq_iff_eq] at hc
  obtain ⟨⟨⟨h4, h5⟩, h6⟩, h7⟩ := hc
  subst h5
  subst h6
  subst h7
  exact wpAnyLast_ready h4 (by simp) (AllReadyL.cons hi hdi (fun K hK => h1 K hK) (AllReadyL.cons hj hdj (fun K hK => h2 K hK) (AllReadyL.cons hk hdk (fun K hK => h3 K hK) AllReadyL.nil)))
/-- The act with some destinations filled. -/
def putAll : Act → List (Tmp × Value) → Act
  | a, [] => a
  | a, (n, v) :: r => putAll (a.put (some n) v) r
/-- What follows, once: s the values that the orders leave, F what is known of them and of the world. -/
theorem join_ {σ : Type} {fuel : Nat} {l : Array Bool} {a : Act} {w : World} (fuel' : Nat) (l' : Array Bool) (ns : σ → List (Tmp × Value)) (F : σ → World → Prop)
    (hcont : ∀ s w', F s w' → wpAnyLast P md ops Q S ds fuel' l' (putAll a (ns s)) w')
    (h : (∀ s w', F s w' → wpAnyLast P md ops Q S ds fuel' l' (putAll a (ns s)) w') → wpAnyLast P md ops Q S ds fuel l a w) : wpAnyLast P md ops Q S ds fuel l a w := h hcont
end
end Go.Proofs.YtofdnnjkfpomcaaW.PrintLast

-- PRINTED BY print.sh 35421559b90ae4d0a3588c463048766b98c2df88dd9212a6774a882060cdf62d: not written by this session
/-! ### 39. Stores into a row that may begin inside its block (Q): Q_form, Q_elem, Q_seg; scalars: Q_cell, Q_putg -/
namespace Go.Proofs.YtofdnnjkfpomcaaW.PrintWords
open Go.RowKit
namespace Kd
section
variable {α : Type} {d : Kd α} {e base g o n cap : Nat} {ok okp : Nat → Prop} {w W : World} {v : Value} {xs : List α}
theorem Q_form (h : d.Q e w base ok v xs) (hp : 0 < xs.length) : ∃ g o cap, v = .slice (some ⟨g, o, none⟩) xs.length cap ∧ base ≤ g ∧ g < w.heap.size ∧ ∃ cells, w.heap[g]? = some (.cells cells e (0, 0)) := by
  obtain ⟨h0, inner, hq, hr⟩ := h
  rcases hq.2 with ⟨h1, _⟩ | ⟨g, off, cap, cur, rfl, hb, hh, r⟩
  · omega
  · exact ⟨g, off * d.sz, cap, rfl, hb, blk_lt hh, cur, hh⟩
/-- Element i of such a row: its cells. -/
theorem Q_elem (h : d.Q e W base ok (.slice (some ⟨g, o, none⟩) n cap) xs) (z : α) (i : Int) (h0 : 0 ≤ i) (h1 : i < n) :
    ∃ c, c.length = d.sz ∧ d.M W base (fun k => ok k ∧ k ≠ g) (xs.getD i.toNat z) c ∧ (∀ j u, c[j]? = some u → W.cell? ⟨g, o + i.toNat * d.sz + j, none⟩ = some u) ∧ ∀ j, W.frozen? ⟨g, o + i.toNat * d.sz + j, none⟩ = false := by
  obtain ⟨hn, hnc, hC⟩ := Q_reads' h
  obtain ⟨_, inner, ho, hr⟩ := h
  have hil : i.toNat < xs.length := by omega
  have hseg : i.toNat * d.sz + d.sz ≤ inner.length := by rw [hr.1, ← Nat.succ_mul]; exact Nat.mul_le_mul_right _ hil
  have hM := hr.2 i.toNat _ (List.getElem?_eq_getElem hil)
  refine ⟨(inner.drop (i.toNat * d.sz)).take d.sz, by rw [List.length_take, List.length_drop]; omega, ?_, fun j u hu => ?_, fun j => ?_⟩
  · rw [List.getD_eq_getElem?_getD, List.getElem?_eq_getElem hil]
    exact d.M_mono (fun k hk => ⟨hk.1, fun he => hk.2 (by rw [he]; simp [Value.ownBlock])⟩) hM
  · rw [List.getElem?_take] at hu
    split at hu
    · rw [List.getElem?_drop] at hu
      subst hn
      obtain ⟨ad, he, hc⟩ := q_cells ho (by omega)
      injection he with he
      subst he
      have := hc _ u hu
      rwa [add_at, ← Nat.add_assoc] at this
    · cases hu
  · obtain ⟨_, cells, hc⟩ := q_typed ho g (by simp [Value.ownBlock])
    exact blk_frozen hc _
/-- A run of cells of element i is written: element i is x' then. c: the element's cells before (Q_elem). -/
theorem Q_seg (h : d.Q e W base ok (.slice (some ⟨g, o, none⟩) n cap) xs) (i : Int) (h0 : 0 ≤ i) (h1 : i < n) {c seg : List Value} {j : Nat} (hcl : c.length = d.sz) (hcc : ∀ j u, c[j]? = some u → W.cell? ⟨g, o + i.toNat * d.sz + j, none⟩ = some u)
    (hj : j + seg.length ≤ d.sz) {x' : α} (hM : d.M W base okp x' (c.take j ++ seg ++ c.drop (j + seg.length))) (hokp : ∀ k, okp k → ok k ∧ k ≠ g) :
    d.Q e (W.setCells g (o + i.toNat * d.sz + j) seg) base ok (.slice (some ⟨g, o, none⟩) n cap) (xs.set i.toNat x') ∧ W.grownBy (W.setCells g (o + i.toNat * d.sz + j) seg) (some g) := by
  obtain ⟨hn, hnc, _⟩ := Q_reads' h
  obtain ⟨hok, inner, ho, hr⟩ := h
  have hil : i.toNat < xs.length := by omega
  have hseg : i.toNat * d.sz + d.sz ≤ inner.length := by rw [hr.1, ← Nat.succ_mul]; exact Nat.mul_le_mul_right _ hil
  have hin : inner.length = n * d.sz := by rw [hr.1, hn]
  obtain ⟨ho1, ho2⟩ := ho
  rcases ho2 with ⟨hz, _⟩ | ⟨g', off, cap', cur, hv, hb, hh, hnc', hcm, hcs, ht⟩
  · omega
  injection hv with ha _ hc
  injection ha with ha
  injection ha with hg hoff
  subst hg; subst hc; subst hoff
  have hcap : n * d.sz ≤ cap * d.sz := Nat.mul_le_mul_right _ hnc
  have hcs' : cur.size = off * d.sz + cap * d.sz := by rw [hcs, Nat.add_mul]
  have hfit : off * d.sz + i.toNat * d.sz + j + seg.length ≤ cur.size := by omega
  obtain ⟨cur', h3, h4, h5⟩ := setCells_row seg (off * d.sz + i.toNat * d.sz + j) W cur hh hfit
  obtain ⟨s1, s2, s3, s4⟩ := setCells_same g seg (off * d.sz + i.toNat * d.sz + j) W
  have hfar : ∀ k, k ≠ g → (W.setCells g (off * d.sz + i.toNat * d.sz + j) seg).heap[k]? = W.heap[k]? := fun k hk => setCells_far seg _ k hk
  rw [← hn] at ht
  -- the row's cells are the block's from off on
  have hat : ∀ q, q < n * d.sz → cur.toList[off * d.sz + q]? = inner[q]? := by
    intro q hq
    rw [← ht, List.getElem?_take, if_pos hq, List.getElem?_drop]
  have hcin : ∀ q, q < d.sz → c[q]? = inner[i.toNat * d.sz + q]? := by
    intro q hq
    have hq' : q < c.length := by omega
    have h6 := hcc q _ (List.getElem?_eq_getElem hq')
    rw [cell_of_row W g _ cur e (0, 0) hh] at h6
    rw [List.getElem?_eq_getElem hq', ← h6, ← hat _ (by omega), Array.getElem?_toList, Nat.add_assoc]
  refine ⟨⟨hok, inner.take (i.toNat * d.sz + j) ++ seg ++ inner.drop (i.toNat * d.sz + j + seg.length), ⟨?_, .inr ⟨g, off, cap, cur', by rw [List.length_set, hn], hb, h3, by rw [List.length_set, ← hn]; exact hnc, hcm, by rw [h4, hcs], ?_⟩⟩, ?_⟩,
    ⟨s1, s2, s3, by rw [s4]; exact Nat.le_refl _, fun k _ hk => hfar k (fun he => hk (by rw [he]))⟩⟩
  · rw [List.length_set]
    simp only [List.length_append, List.length_take, List.length_drop]
    rw [hr.1] at hseg ⊢
    omega
  · rw [List.length_set, ← hn]
    apply List.ext_getElem?
    intro q
    rw [List.getElem?_take, List.getElem?_drop, h5]
    rw [seg_get cur.toList seg (off * d.sz + i.toNat * d.sz + j) (by rw [Array.length_toList]; omega) (off * d.sz + q), seg_get inner seg (i.toNat * d.sz + j) (by omega) q]
    by_cases hq : q < n * d.sz
    · rw [if_pos hq]
      by_cases hq1 : q < i.toNat * d.sz + j
      · rw [if_pos (by omega), if_pos hq1, hat q hq]
      · rw [if_neg (by omega), if_neg hq1]
        by_cases hq2 : q < i.toNat * d.sz + j + seg.length
        · rw [if_pos (by omega), if_pos hq2]
          congr 1
          omega
        · rw [if_neg (by omega), if_neg hq2, hat q hq]
    · rw [if_neg hq, if_neg (by omega), if_neg (by omega), List.getElem?_eq_none (by omega)]
  · refine ⟨?_, fun m p hm => ?_⟩
    · rw [List.length_set]
      simp only [List.length_append, List.length_take, List.length_drop]
      rw [hr.1] at hseg ⊢
      omega
    · have hml : m < xs.length := by
        have := (List.getElem?_eq_some_iff.1 hm).1
        rwa [List.length_set] at this
      have hmfit : m * d.sz + d.sz ≤ inner.length := by rw [hr.1, ← Nat.succ_mul]; exact Nat.mul_le_mul_right _ hml
      have hgo : some g = (Value.slice (some ⟨g, off * d.sz, none⟩) n cap).ownBlock := by simp [Value.ownBlock]
      by_cases hmi : m = i.toNat
      · subst hmi
        rw [List.getElem?_set_self (by omega)] at hm
        injection hm with hm
        subst hm
        have hcells : ((inner.take (i.toNat * d.sz + j) ++ seg ++ inner.drop (i.toNat * d.sz + j + seg.length)).drop (i.toNat * d.sz)).take d.sz = c.take j ++ seg ++ c.drop (j + seg.length) := by
          apply List.ext_getElem?
          intro q
          rw [List.getElem?_take, List.getElem?_drop, seg_get inner seg _ (by omega), seg_get c seg j (by omega) q]
          by_cases hq : q < d.sz
          · rw [if_pos hq, hcin q hq]
            by_cases hq1 : q < j
            · rw [if_pos (by omega), if_pos hq1]
            · rw [if_neg (by omega), if_neg hq1]
              by_cases hq2 : q < j + seg.length
              · rw [if_pos (by omega), if_pos hq2]
                congr 1
                omega
              · rw [if_neg (by omega), if_neg hq2]
          · rw [if_neg hq, if_neg (by omega), if_neg (by omega), List.getElem?_eq_none (by omega)]
        rw [hcells]
        refine d.M_mono (fun k hk => ?_) (d.M_move (w1 := W.setCells g (off * d.sz + i.toNat * d.sz + j) seg) (fun k hk => hfar k (hokp k hk).2) hM)
        exact ⟨(hokp k hk).1, fun he => (hokp k hk).2 (by rw [← hgo] at he; injection he)⟩
      · rw [List.getElem?_set_ne (by omega)] at hm
        have hold := hr.2 m p hm
        have hcells : ((inner.take (i.toNat * d.sz + j) ++ seg ++ inner.drop (i.toNat * d.sz + j + seg.length)).drop (m * d.sz)).take d.sz = (inner.drop (m * d.sz)).take d.sz := by
          apply List.ext_getElem?
          intro q
          rw [List.getElem?_take, List.getElem?_take, List.getElem?_drop, List.getElem?_drop, seg_get inner seg _ (by omega)]
          by_cases hq : q < d.sz
          · rw [if_pos hq, if_pos hq]
            rcases Nat.lt_or_gt_of_ne hmi with hlt | hgt
            · have : m * d.sz + d.sz ≤ i.toNat * d.sz := by rw [← Nat.succ_mul]; exact Nat.mul_le_mul_right _ hlt
              rw [if_pos (by omega)]
            · have : i.toNat * d.sz + d.sz ≤ m * d.sz := by rw [← Nat.succ_mul]; exact Nat.mul_le_mul_right _ hgt
              rw [if_neg (by omega), if_neg (by omega)]
          · rw [if_neg hq, if_neg hq]
        rw [hcells]
        refine d.M_move (fun k hk => hfar k (fun he => hk.2 (by rw [he]; exact hgo))) hold
end
section
variable {α : Type} {enc : α → Value} {h1 : ∀ x, (enc x).oneCell' = true} {e base g o n cap : Nat} {ok : Nat → Prop} {W : World} {xs : List α}
theorem Q_cell (d : α) (h : (scalar enc h1).Q e W base ok (.slice (some ⟨g, o, none⟩) n cap) xs) (i : Int) (h0 : 0 ≤ i) (hi : i < n) : W.cell? ⟨g, o + i.toNat, none⟩ = some (enc (rdOf d xs i)) ∧ W.frozen? ⟨g, o + i.toNat, none⟩ = false := by
  obtain ⟨c, _, hM, hcc, hf⟩ := Q_elem h d i h0 hi
  have hM' : c = [enc (xs.getD i.toNat d)] := hM
  subst hM'
  have h2 := hcc 0 _ rfl
  have h3 := hf 0
  rw [show (scalar enc h1).sz = 1 from rfl, Nat.mul_one, Nat.add_zero] at h2 h3
  exact ⟨h2, h3⟩
theorem Q_putg (h : (scalar enc h1).Q e W base ok (.slice (some ⟨g, o, none⟩) n cap) xs) (i : Int) (h0 : 0 ≤ i) (hi : i < n) (x : α) : (scalar enc h1).Q e (W.setCell ⟨g, o + i.toNat, none⟩ (enc x)) base ok (.slice (some ⟨g, o, none⟩) n cap) (xs.set i.toNat x) ∧ W.grownBy (W.setCell ⟨g, o + i.toNat, none⟩ (enc x)) (some g) := by
  have hp : 0 < xs.length := by have := (Q_reads' h).1; omega
  obtain ⟨c, hcl, _, hcc, _⟩ := Q_elem h (xs[0]'hp) i h0 hi
  have h2 := Q_seg h i h0 hi (c := c) (seg := [enc x]) (j := 0) (okp := fun _ => False) (x' := x) hcl hcc (Nat.le_refl 1) (by
    have hl : c.length = 1 := hcl
    show c.take 0 ++ [enc x] ++ c.drop (0 + 1) = [enc x]
    rw [List.drop_eq_nil_of_le (by omega)]
    rfl) (fun _ hk => hk.elim)
  rw [show (scalar enc h1).sz = 1 from rfl, Nat.mul_one, Nat.add_zero] at h2
  exact h2
end
end Kd
end Go.Proofs.YtofdnnjkfpomcaaW.PrintWords

-- PRINTED BY print.sh 35421559b90ae4d0a3588c463048766b98c2df88dd9212a6774a882060cdf62d: not written by this session
/-! ### 40. Elements whose inner rows lie apart: what is stored into one says nothing of the others.
   S: as R, with an owner function f (block to element's index). H: as S with a hole: of element i its cells alone are told, its blocks are oki. -/
namespace Go.Proofs.YtofdnnjkfpomcaaW.PrintWords
open Go.RowKit
namespace Kd
/-- An element with its index: its blocks are those that f gives to it. -/
def tag {α : Type} (f : Nat → Nat) (d : Kd α) : Kd (α × Nat) where
  sz := d.sz
  E := d.E
  K := fun w x cs => d.K w x.1 cs
  M := fun w base ok x cs => d.M w base (fun k => ok k ∧ f k = x.2) x.1 cs
  K_len := fun h => d.K_len h
  K_one := fun h => d.K_one h
  K_below := fun hb h => d.K_below hb h
  K_of_M := fun h => d.K_of_M h
  M_mono := fun hok h => d.M_mono (fun k hk => ⟨hok k hk.1, hk.2⟩) h
  M_bound := fun h => d.M_mono (fun _ hk => ⟨⟨hk.1.1, hk.2⟩, hk.1.2⟩) (d.M_bound h)
  M_move := fun hm h => d.M_move (fun k hk => hm k hk.1) h
  M_lower := fun hb h => d.M_lower hb h
/-- The cells themselves. -/
def raw (sz : Nat) : Kd (List Value) where
  sz := sz
  E := []
  K := fun _ x cs => cs = x ∧ cs.length = sz ∧ ∀ u ∈ cs, u.oneCell' = true
  M := fun _ _ _ x cs => cs = x ∧ cs.length = sz ∧ ∀ u ∈ cs, u.oneCell' = true
  K_len := fun h => h.2.1
  K_one := fun h => h.2.2
  K_below := fun _ h => h
  K_of_M := fun h => h
  M_mono := fun _ h => h
  M_bound := fun h => h
  M_move := fun _ h => h
  M_lower := fun _ h => h
/-- A row of elements (type e) of the call's own, no two of which lead to one block. -/
def S {α : Type} (d : Kd α) (e : Nat) (w : World) (base : Nat) (ok : Nat → Prop) (v : Value) (xs : List α) : Prop := ∃ f, (tag f d).R e w base ok v xs.zipIdx
section
variable {α β : Type} {d : Kd α} {d' : Kd β} {e e' : Nat} {w w1 W : World} {base b : Nat} {ok ok' okv oku : Nat → Prop} {u v : Value} {xs : List α} {ys : List β}
end
section
variable {α β : Type} {d : Kd α} {d' : Kd β} {e e' g : Nat} {w w1 W : World} {base b : Nat} {ok ok' okv oku : Nat → Prop} {u v : Value} {xs : List α} {ys : List β}
end
/-! #### append, make, literals: the new element's blocks are none of the elder ones' -/
section
variable {P : Program} {ops : Array Oper} {rest : List Oper} {o : Oper} {a : Act} {Q : Exit → Act → World → Prop} {Kc : Act → World → Prop} {α : Type}
end
/-! #### a row with a hole: element i is lent, its blocks are oki; of it the row says its cells alone -/
/-- Element i is these cells; the others are d's. -/
def gap {α : Type} (f : Nat → Nat) (d : Kd α) (i : Nat) (c : List Value) : Kd (α × Nat) where
  sz := d.sz
  E := d.E
  K := fun w x cs => (x.2 = i → cs = c ∧ cs.length = d.sz ∧ ∀ u ∈ cs, u.oneCell' = true) ∧ (x.2 ≠ i → d.K w x.1 cs)
  M := fun w base ok x cs => (x.2 = i → cs = c ∧ cs.length = d.sz ∧ ∀ u ∈ cs, u.oneCell' = true) ∧ (x.2 ≠ i → d.M w base (fun k => ok k ∧ f k = x.2) x.1 cs)
  K_len := fun {w x cs} h => by
    by_cases hx : x.2 = i
    · exact (h.1 hx).2.1
    · exact d.K_len (h.2 hx)
  K_one := fun {w x cs} h => by
    by_cases hx : x.2 = i
    · exact (h.1 hx).2.2
    · exact d.K_one (h.2 hx)
  K_below := fun hb h => ⟨h.1, fun hx => d.K_below hb (h.2 hx)⟩
  K_of_M := fun h => ⟨h.1, fun hx => d.K_of_M (h.2 hx)⟩
  M_mono := fun hok h => ⟨h.1, fun hx => d.M_mono (fun k hk => ⟨hok k hk.1, hk.2⟩) (h.2 hx)⟩
  M_bound := fun h => ⟨h.1, fun hx => d.M_mono (fun _ hk => ⟨⟨hk.1.1, hk.2⟩, hk.1.2⟩) (d.M_bound (h.2 hx))⟩
  M_move := fun hm h => ⟨h.1, fun hx => d.M_move (fun k hk => hm k hk.1) (h.2 hx)⟩
  M_lower := fun hb h => ⟨h.1, fun hx => d.M_lower hb (h.2 hx)⟩
def H {α : Type} (d : Kd α) (e : Nat) (w : World) (base : Nat) (ok : Nat → Prop) (v : Value) (xs : List α) (i : Int) (oki : Nat → Prop) (c : List Value) : Prop :=
  (∀ k, oki k → ok k) ∧ ∃ f, (gap f d i.toNat c).R e w base (fun k => ok k ∧ ¬ oki k) v xs.zipIdx
section
variable {α β : Type} {d : Kd α} {e e' g n cap : Nat} {w w1 W : World} {base : Nat} {ok ok' oki okp : Nat → Prop} {u v : Value} {xs : List α} {i : Int} {c : List Value}
end
section
variable {P : Program} {ops : Array Oper} {rest : List Oper} {o : Oper} {a : Act} {Q : Exit → Act → World → Prop} {α : Type}
end
end Kd
end Go.Proofs.YtofdnnjkfpomcaaW.PrintWords

-- PRINTED BY print.sh 35421559b90ae4d0a3588c463048766b98c2df88dd9212a6774a882060cdf62d: not written by this session
/-! ### 41. Arrays '[n]T' as_ values: a kind (a field, an element of a row), an element read, an element set -/
namespace Go.Proofs.YtofdnnjkfpomcaaW.PrintWords
open Go.RowKit
namespace Kd
theorem reps_one {α : Type} {R : α → List Value → Prop} {size : Nat} {ps : List α} {cs : List Value} (h : Reps R size ps cs) (hs0 : 0 < size) (hR : ∀ p c, R p c → ∀ u ∈ c, u.oneCell' = true) : ∀ u ∈ cs, u.oneCell' = true := by
  intro u hu
  obtain ⟨q, hq, rfl⟩ := List.mem_iff_getElem.1 hu
  have hql : q / size < ps.length := by
    rw [Nat.div_lt_iff_lt_mul hs0, ← h.1]
    exact hq
  refine hR _ _ (h.2 (q / size) _ (List.getElem?_eq_getElem hql)) _ ?_
  rw [List.mem_iff_getElem?]
  refine ⟨q % size, ?_⟩
  rw [List.getElem?_take, if_pos (Nat.mod_lt _ hs0), List.getElem?_drop, Nat.mul_comm, Nat.div_add_mod, List.getElem?_eq_getElem hq]
/-- An array of n elements of kind d. -/
def arr {α : Type} (n : Nat) (d : Kd α) (hs : 0 < d.sz) : Kd (List α) where
  sz := n * d.sz
  E := d.E
  K := fun w xs cs => xs.length = n ∧ Reps (d.K w) d.sz xs cs
  M := fun w base ok xs cs => xs.length = n ∧ Reps (d.M w base ok) d.sz xs cs
  K_len := fun h => by rw [← h.1]; exact h.2.1
  K_one := fun h => reps_one h.2 hs (fun _ _ hk => d.K_one hk)
  K_below := fun hb h => ⟨h.1, h.2.imp_ (fun _ _ hk => d.K_below hb hk)⟩
  K_of_M := fun h => ⟨h.1, h.2.imp_ (fun _ _ hk => d.K_of_M hk)⟩
  M_mono := fun hok h => ⟨h.1, h.2.imp_ (fun _ _ hk => d.M_mono hok hk)⟩
  M_bound := fun h => ⟨h.1, h.2.imp_ (fun _ _ hk => d.M_bound hk)⟩
  M_move := fun hm h => ⟨h.1, h.2.imp_ (fun _ _ hk => d.M_move hm hk)⟩
  M_lower := fun hb h => ⟨h.1, h.2.imp_ (fun _ _ hk => d.M_lower hb hk)⟩
section
variable {α : Type} {n : Nat} {d : Kd α} {hs : 0 < d.sz} {w : World} {base : Nat} {ok : Nat → Prop} {xs : List α} {cs : List Value}
end
section
variable {α : Type} {n : Nat} {enc : α → Value} {h1 : ∀ x, (enc x).oneCell' = true} {hs : 0 < (scalar enc h1).sz} {w : World} {base : Nat} {ok : Nat → Prop} {xs : List α} {cs : List Value}
end
end Kd
end Go.Proofs.YtofdnnjkfpomcaaW.PrintWords

-- PRINTED BY print.sh 35421559b90ae4d0a3588c463048766b98c2df88dd9212a6774a882060cdf62d: not written by this session
/-! ### 42. append(v, make([]T, n)...): the operation comes as_ append with the number in the second place -/
namespace Go.Proofs.YtofdnnjkfpomcaaW.PrintWords
open Go.RowKit
section
variable {P : Program}
end
namespace Kd
section
variable {P : Program} {ops : Array Oper} {rest : List Oper} {o : Oper} {a : Act} {Q : Exit → Act → World → Prop} {Kc : Act → World → Prop} {α : Type}
end
/-! #### the same for rows whose elements lie apart -/
section
variable {α : Type} {d : Kd α} {e : Nat} {w : World} {base : Nat} {ok : Nat → Prop} {v : Value} {xs : List α}
end
section
variable {P : Program} {ops : Array Oper} {rest : List Oper} {o : Oper} {a : Act} {Q : Exit → Act → World → Prop} {Kc : Act → World → Prop} {α : Type}
end
end Kd
end Go.Proofs.YtofdnnjkfpomcaaW.PrintWords

-- PRINTED BY print.sh 35421559b90ae4d0a3588c463048766b98c2df88dd9212a6774a882060cdf62d: not written by this session
/-! ### 43. What is read beside a state: it stays read whatever the state's calls turn ('∀ W', KeepBut w W' g none → d.C W' A n xs') -/
namespace Go.Proofs.YtofdnnjkfpomcaaW.PrintWords
open Go.RowKit
namespace Kd
/-- What a kind reads lies in the blocks: nothing else of the world is looked at. -/
structure Heap {α : Type} (d : Kd α) : Prop where
  K : ∀ {w w1 : World} {x : α} {cs : List Value}, (∀ k, k < w.heap.size → w1.heap[k]? = w.heap[k]?) → d.K w x cs → d.K w1 x cs
theorem cell_heap {w w1 : World} (hb : ∀ k, k < w.heap.size → w1.heap[k]? = w.heap[k]?) {a : Addr} {v : Value} (h : w.cell? a = some v) : w1.cell? a = some v := by
  have := hb a.block (World.block_lt_of_cell? w a h)
  simpa [World.cell?, this] using h
theorem Heap.C {α : Type} {d : Kd α} (hd : Heap d) {w w1 : World} {A : Option Addr} {n : Nat} {xs : List α} (hb : ∀ k, k < w.heap.size → w1.heap[k]? = w.heap[k]?) (h : d.C w A n xs) : d.C w1 A n xs :=
  ⟨h.1, h.2.1, fun hn => by
    obtain ⟨ad, e, hc⟩ := h.2.2 hn
    refine ⟨ad, e, fun j p hj => ?_⟩
    obtain ⟨c, hs, hr, hcell⟩ := hc j p hj
    exact ⟨c, hs, hd.K hb hr, fun i u hu => cell_heap hb (hcell i u hu)⟩⟩
section
variable {α : Type} {d : Kd α} {e base g n c : Nat} {ok : Nat → Prop} {w w0 W : World} {A : Option Addr} {xs : List α}
end
end Kd
end Go.Proofs.YtofdnnjkfpomcaaW.PrintWords

-- PRINTED BY print.sh 35421559b90ae4d0a3588c463048766b98c2df88dd9212a6774a882060cdf62d: not written by this session
/-! ### 45. What a call keeps: all but the blocks of S (the rows that it was given to write) and what is new since -/
namespace Go.Proofs.YtofdnnjkfpomcaaW.PrintWords
open Go.RowKit
def Kept (w W : World) (S : Nat → Prop) : Prop := w.heap.size ≤ W.heap.size ∧ ∀ i, i < w.heap.size → ¬ S i → W.heap[i]? = w.heap[i]?
section
variable {w W W2 : World} {S S2 S' : Nat → Prop}
theorem Kept.refl (w : World) (S : Nat → Prop) : Kept w w S := ⟨Nat.le_refl _, fun _ _ _ => rfl⟩
theorem Kept.of_below (h : Below w.heap.size w W) (S : Nat → Prop) : Kept w W S := ⟨h.size, fun i hi _ => h.block i hi⟩
theorem Kept.mono (h : Kept w W S) (hs : ∀ k, S k → S' k) : Kept w W S' := ⟨h.1, fun i hi hn => h.2 i hi (fun hk => hn (hs i hk))⟩
theorem Kept.then_ (h : Kept w W S) (k : Kept W W2 S2) (hs : ∀ k, S2 k → S k ∨ w.heap.size ≤ k) : Kept w W2 S :=
  ⟨Nat.le_trans h.1 k.1, fun i hi hn => (k.2 i (Nat.lt_of_lt_of_le hi h.1) (fun h2 => (hs i h2).elim hn (fun h3 => by omega))).trans (h.2 i hi hn)⟩
theorem Kept.below (h : Kept w W S) (hb : Below W.heap.size W W2) : Kept w W2 S := h.then_ (Kept.of_below hb (fun _ => False)) (fun _ hk => hk.elim)
theorem Kept.alloc (h : Kept w W S) (o : Obj) : Kept w (W.alloc o) S := h.below (below_alloc (Below.refl _ _) o)
theorem Kept.drew (h : Kept w W S) : Kept w W.drew S := h
theorem Kept.drewN (h : Kept w W S) (m : Nat) : Kept w (W.drewN m) S := h
theorem Kept.setCell (h : Kept w W S) {p : Addr} (hp : S p.block ∨ w.heap.size ≤ p.block) (u : Value) : Kept w (W.setCell p u) S :=
  h.then_ (S2 := fun k => k = p.block) ⟨by simp [World.setCell], fun i _ hn => Below.heap_setCell W p u i hn⟩ (fun k hk => by rw [hk]; exact hp)
/-- Beside a state: what was written is new since. -/
theorem Kept.keep {g : Nat} (h : KeepBut w W g none) (k : Kept W W2 S2) (hs : ∀ k, S2 k → w.heap.size ≤ k) : KeepBut w W2 g none :=
  ⟨Nat.le_trans h.1 k.1, fun i hi hg hr => (k.2 i (Nat.lt_of_lt_of_le hi h.1) (fun h2 => by have := hs i h2; omega)).trans (h.2 i hi hg hr)⟩
theorem cell_kept {a : Addr} {v : Value} (hc : W.cell? a = some v) (hk : Kept W W2 S) (hne : ¬ S a.block) : W2.cell? a = some v := by
  have := hk.2 a.block (World.block_lt_of_cell? W a hc) hne
  simpa [World.cell?, this] using hc
end
namespace Kd
section
variable {α : Type} {d : Kd α} {e base n c : Nat} {ok oki S S2 : Nat → Prop} {w w0 W W1 W2 : World} {v : Value} {A : Option Addr} {xs : List α} {i : Int} {cs : List Value}
end
end Kd
end Go.Proofs.YtofdnnjkfpomcaaW.PrintWords

-- PRINTED BY print.sh 35421559b90ae4d0a3588c463048766b98c2df88dd9212a6774a882060cdf62d: not written by this session
/-! ### 46. Values that share: what is only read, with the blocks it lies in (its footprint 'ok'): Foot, F (a row that is read), FK (an element's cells) -/
namespace Go.Proofs.YtofdnnjkfpomcaaW.PrintWords
open Go.RowKit
/-- P holds in W and in every world that has W's blocks of ok. -/
def Foot (P : World → Prop) (W : World) (ok : Nat → Prop) : Prop := ∀ W' : World, (∀ k, ok k → k < W.heap.size → W'.heap[k]? = W.heap[k]?) → P W'
theorem heap_lt {W W1 : World} {k : Nat} (h : W1.heap[k]? = W.heap[k]?) (hlt : k < W.heap.size) : k < W1.heap.size := by
  rw [Array.getElem?_eq_getElem hlt] at h
  exact (Array.getElem?_eq_some_iff.1 h).1
namespace Foot
variable {P Q : World → Prop} {W W1 : World} {ok ok' : Nat → Prop}
theorem now (h : Foot P W ok) : P W := h W (fun _ _ _ => rfl)
theorem mono (h : Foot P W ok) (hok : ∀ k, ok k → ok' k) : Foot P W ok' := fun W' hW => h W' (fun k hk hlt => hW k (hok k hk) hlt)
theorem bound (h : Foot P W ok) : Foot P W (fun k => ok k ∧ k < W.heap.size) := fun W' hW => h W' (fun k hk hlt => hW k ⟨hk, hlt⟩ hlt)
theorem step (h : Foot P W ok) (hm : ∀ k, ok k → k < W.heap.size → W1.heap[k]? = W.heap[k]?) : Foot P W1 ok := fun W' hW => h W' (fun k hk hlt => (hW k hk (heap_lt (hm k hk hlt) hlt)).trans (hm k hk hlt))
theorem imp (h : Foot P W ok) (hi : ∀ W', P W' → Q W') : Foot Q W ok := fun W' hW => hi W' (h W' hW)
/-- Moved, and still elder than what is new since W. -/
theorem old (h : Foot P W ok) (hb : Below W.heap.size W W1) : Foot P W1 (fun k => ok k ∧ k < W.heap.size) := (h.bound).step (fun k _ hlt => hb.block k hlt)
end Foot
namespace Kd
/-- A row that is only read: what it leads to lies in ok. -/
def F {α : Type} (d : Kd α) (W : World) (ok : Nat → Prop) (A : Option Addr) (n : Nat) (xs : List α) : Prop := Foot (fun W => d.C W A n xs) W ok
/-- An element's cells: what they lead to lies in ok. -/
def FK {α : Type} (d : Kd α) (W : World) (ok : Nat → Prop) (x : α) (c : List Value) : Prop := Foot (fun W => d.K W x c) W ok
section
variable {α β : Type} {d : Kd α} {e base n n' cc g N : Nat} {ok ok' okp S : Nat → Prop} {w w0 w1 W W1 : World} {A A' : Option Addr} {u v v1 : Value} {xs : List α} {xs' : List β} {d' : Kd β} {x : α} {c : List Value}
end
end Kd
end Go.Proofs.YtofdnnjkfpomcaaW.PrintWords

-- PRINTED BY print.sh 35421559b90ae4d0a3588c463048766b98c2df88dd9212a6774a882060cdf62d: not written by this session
/-! ### 47. N: a row of the call's own whose elements share (what they lead to is only read) -/
namespace Go.Proofs.YtofdnnjkfpomcaaW.PrintWords
open Go.RowKit
namespace Kd
/-- The cells one behind the other, element by element. -/
def chunks (sz : Nat) (n : Nat) (inner : List Value) : List (List Value) := (List.range n).map fun j => (inner.drop (j * sz)).take sz
section
variable {α : Type} {d : Kd α} {e base n cc g : Nat} {ok ok' okp S : Nat → Prop} {w w1 W W1 : World} {A : Option Addr} {u v v1 : Value} {xs : List α} {x : α} {c : List Value}
/-- A row of elements (type e) of the call's own; what the elements lead to is only read, and is not this row. -/
def N {α : Type} (d : Kd α) (e : Nat) (w : World) (base : Nat) (ok : Nat → Prop) (v : Value) (xs : List α) : Prop :=
  (∀ k, v.ownBlock = some k → ok k) ∧ ∃ rows : List (List Value), rows.length = xs.length ∧ (raw d.sz).R e w base (fun k => some k = v.ownBlock) v rows ∧ ∀ (j : Nat) (x : α) (c : List Value), xs[j]? = some x → rows[j]? = some c → FK d w (fun k => ok k ∧ some k ≠ v.ownBlock) x c
end
end Kd
end Go.Proofs.YtofdnnjkfpomcaaW.PrintWords

-- PRINTED BY print.sh 35421559b90ae4d0a3588c463048766b98c2df88dd9212a6774a882060cdf62d: not written by this session
/-! ### 48. N's events: append, a whole row appended, zeros appended, literals, make, stores, cuts, an element taken out -/
namespace Go.Proofs.YtofdnnjkfpomcaaW.PrintWords
open Go.RowKit
namespace Kd
section
variable {α : Type} {d : Kd α} {e base n cap g : Nat} {ok ok' okp : Nat → Prop} {w w1 W : World} {v v1 : Value} {xs ys : List α}
end
section
variable {P : Program} {ops : Array Oper} {rest : List Oper} {o : Oper} {a : Act} {Q : Exit → Act → World → Prop} {Kc : Act → World → Prop} {α : Type}
end
end Kd
end Go.Proofs.YtofdnnjkfpomcaaW.PrintWords

-- PRINTED BY print.sh 35421559b90ae4d0a3588c463048766b98c2df88dd9212a6774a882060cdf62d: not written by this session
-- PRINTED WORDS (module Derived/Print/More.lean): go-gate-2's additions: an AI agent of Go's test side, Tue Nov 17 2026; no person has read it. Lean checks it.
namespace Go.Proofs.YtofdnnjkfpomcaaW.PrintMore
open Go.RowKit Go.Proofs.YtofdnnjkfpomcaaW.PrintWords
namespace Kd
open Go.Proofs.YtofdnnjkfpomcaaW.PrintWords.Kd
end Kd

namespace Kd
open Go.Proofs.YtofdnnjkfpomcaaW.PrintWords.Kd
section
variable {α : Type} {d : Kd α} {e base g N : Nat} {ok : Nat → Prop} {W w1 : World} {u v : Value} {xs : List α}
end
end Kd
end Go.Proofs.YtofdnnjkfpomcaaW.PrintMore
namespace Go.Proofs.YtofdnnjkfpomcaaW.PrintWords
open Go.RowKit
section
variable {P : Program} {ops : Array Oper} {rest : List Oper} {o : Oper} {a : Act} {Q : Exit → Act → World → Prop} {W : World}
end
/-- The greater of two whole numbers, as Go's max tells it. -/
def mx (a b : Int) : Int := if a < b then b else a
/-- The smaller of two whole numbers, as Go's min tells it. -/
def mn (a b : Int) : Int := if b < a then b else a
/-- A shift to the left, as Go tells it: a count beyond the width leaves nothing. -/
def shl (k : IntKind) (x y : Int) : Int := k.wrap (x * 2 ^ min y.toNat k.bits)
/-- A shift to the right: a count beyond the width leaves the sign. -/
def shr (k : IntKind) (x y : Int) : Int := x / 2 ^ min y.toNat k.bits
namespace Kd
section
variable {α : Type} {d : Kd α} {e base : Nat} {ok : Nat → Prop} {W w1 : World} {v : Value} {xs : List α}
end
section
variable {α : Type} {d : Kd α} {e base g n cap : Nat} {ok oki okp : Nat → Prop} {W : World} {xs : List α} {i : Int} {c : List Value}
end
section
variable {α : Type} {d : Kd α} {e base b b' g N : Nat} {ok ok1 : Nat → Prop} {W W2 w1 : World} {u v : Value} {xs ys : List α} {S : Nat → Prop}
end
end Kd
end Go.Proofs.YtofdnnjkfpomcaaW.PrintWords
namespace Go.Proofs.YtofdnnjkfpomcaaW.PrintWords
open Go.RowKit
namespace Kd
/-- A row that is only read, told by its value: its form, its length, what it leads to (in ok). e and base say nothing; they make it as the others are. -/
def V {α : Type} (d : Kd α) (_e : Nat) (W : World) (_base : Nat) (ok : Nat → Prop) (v : Value) (xs : List α) : Prop := ∃ A c, v = .slice A xs.length c ∧ xs.length ≤ c ∧ F d W ok A xs.length xs
section
variable {α β : Type} {d : Kd α} {e base base' n m c g N' lo hi : Nat} {ok ok' S : Nat → Prop} {w W w1 : World} {A : Option Addr} {ad : Addr} {u v v1 : Value} {xs : List α}
end
end Kd
end Go.Proofs.YtofdnnjkfpomcaaW.PrintWords

/- What comes in, opened by its kind: a reading as data is a value of the kind. -/
namespace Go.Proofs.Ytofdnnjkfpomcaa.B
open Go.RowKit Go.Deep Go.Proofs.YtofdnnjkfpomcaaW.PrintWords Go.Proofs.YtofdnnjkfpomcaaW.PrintLast Go.Proofs.YtofdnnjkfpomcaaW.PrintMore

/-- Whatever reads as data of type t is of kind d, and wf. -/
structure Rdb {α : Type} (P : Program) (t : TypeId) (d : Kd α) (wf : α → Prop) : Prop where
  run : ∀ {H : Type} (enc : TypeId × Value → H) (w : World) (fuel : Nat) (cs : List Value) (x : DataW H × List MemPlace),
    DataW.trod enc P w 0 (fun _ => true) true fuel t cs = some x → ∃ y, d.K w y cs ∧ wf y

section
variable {P : Program} {t e : TypeId}
theorem Rdb.int {k : IntKind} (h : P.underlying t = some (.int k)) : Rdb P t (Kd.int k) (fun n => (Lit.int k n).wf = true) := by
  refine ⟨?_⟩
  intro H enc w fuel cs x hx
  obtain ⟨n, rfl, _, hw⟩ := DataW.trod_int h hx
  exact ⟨n, rfl, hw⟩
theorem Rdb.bool (h : P.underlying t = some .bool) : Rdb P t Kd.bool (fun _ => True) := by
  refine ⟨?_⟩
  intro H enc w fuel cs x hx
  obtain ⟨n, rfl, _⟩ := DataW.trod_bool h hx
  exact ⟨n, rfl, trivial⟩
theorem Rdb.slice {α : Type} {d : Kd α} {wf : α → Prop} (h : P.underlying t = some (.slice e)) (hc : P.cellsOf e = d.sz) (hd : Rdb P e d wf) : Rdb P t (Kd.slice e d) (fun l => ∀ y ∈ l, wf y) := by
  refine ⟨?_⟩
  intro H enc w fuel cs x hx
  rcases open_slice h hx with ⟨rfl, _⟩ | ⟨a, len, cap, m, n, D, Pl, rfl, _, hl, hm, hmm, _, hi⟩
  · exact ⟨[], ⟨none, 0, rfl, Nat.le_refl _, ⟨rfl, by simp, fun h => absurd h (by simp)⟩⟩, fun y hy => by cases hy⟩
  · have hle : len ≤ m := by rw [hmm]; simp [hl]
    obtain ⟨f, hf⟩ := choose_lt (n := len) (α := Option α) (p := fun i (o : Option α) => ∃ y c, o = some y ∧ d.K w y c ∧ wf y ∧ w.cells? 0 (a.add (i * d.sz)) d.sz = some c) (fun i hil => by
      obtain ⟨c, h1, h2⟩ := hi i (by omega)
      rw [hc] at h1
      obtain ⟨y, hK, hw⟩ := hd.run enc w _ _ _ h2
      exact ⟨some y, y, c, rfl, hK, hw, h1⟩)
    have hall : ∀ i, i < len → (f i).isSome = true := fun i hil => by obtain ⟨y, _, he, _⟩ := hf i hil; rw [he]; rfl
    have hlen : ((List.range len).attach.map (fun i => (f i.1).get (hall i.1 (List.mem_range.1 i.2)))).length = len := by simp
    refine ⟨(List.range len).attach.map (fun i => (f i.1).get (hall i.1 (List.mem_range.1 i.2))), ⟨some a, cap, by rw [hlen], by rw [hlen]; exact hl, ⟨rfl, by rw [hlen]; unfold maxLen at hm; omega, fun _ => ⟨a, rfl, ?_⟩⟩⟩, ?_⟩
    · intro j p hj
      have hjl : j < len := by
        have := (List.getElem?_eq_some_iff.1 hj).1
        rwa [hlen] at this
      obtain ⟨y, c, he, hK, _, hcells⟩ := hf j hjl
      have hp : p = y := by
        have h1 := (List.getElem?_eq_some_iff.1 hj).2
        simp only [List.getElem_map, List.getElem_attach, List.getElem_range] at h1
        rw [← h1]
        simp [he]
      subst hp
      obtain ⟨_, hcl, hcc⟩ := World.cells?_some hcells
      refine ⟨c, d.K_len hK, hK, fun i u hu => ?_⟩
      have hil : i < d.sz := by
        have := (List.getElem?_eq_some_iff.1 hu).1
        omega
      have := hcc i hil
      rw [hu] at this
      rw [← this]
      congr 1
      unfold Addr.add
      by_cases h1 : j * d.sz = 0 <;> by_cases h2 : i = 0 <;> simp [h1, h2, Nat.add_assoc]
    · intro y hy
      obtain ⟨i, hi1, hi2⟩ := List.mem_map.1 hy
      obtain ⟨y', c, he, _, hw, _⟩ := hf i.1 (List.mem_range.1 i.2)
      rw [← hi2]
      simpa [he] using hw
/-- A struct's fields from the place off on. -/
structure OpF {α : Type} (P : Program) (fs : List Field) (off : Nat) (d : Kd α) (wf : α → Prop) : Prop where
  run : ∀ {H : Type} (enc : TypeId × Value → H) (w : World) (fuel : Nat) (cs : List Value),
    cs.length = off + d.sz → (∀ f ∈ fs, ∃ x, DataW.trod enc P w 0 (fun _ => true) true fuel f.type ((cs.drop f.offset).take (P.cellsOf f.type)) = some x) → ∃ y, d.K w y (cs.drop off) ∧ wf y
theorem OpF.one {α : Type} {d : Kd α} {wf : α → Prop} {f : Field} {off : Nat} (ho : f.offset = off) (hc : P.cellsOf f.type = d.sz) (h : Rdb P f.type d wf) : OpF P [f] off d wf := by
  refine ⟨?_⟩
  intro H enc w fuel cs hl hx
  obtain ⟨x, hx⟩ := hx f (by simp)
  obtain ⟨y, hK, hw⟩ := h.run enc w _ _ _ hx
  rw [ho, hc, List.take_of_length_le (by rw [List.length_drop]; omega)] at hK
  exact ⟨y, hK, hw⟩
def WfP {α β : Type} (wf : α → Prop) (wf' : β → Prop) (x : α × β) : Prop := wf x.1 ∧ wf' x.2
theorem Rdb.mono {α : Type} {d : Kd α} {wf wf' : α → Prop} (h : Rdb P t d wf) (hw : ∀ x, wf x → wf' x) : Rdb P t d wf' := ⟨fun enc w fuel cs x hx => let ⟨y, h1, h2⟩ := h.run enc w fuel cs x hx; ⟨y, h1, hw y h2⟩⟩
theorem OpF.cons {α β : Type} {d : Kd α} {d' : Kd β} {wf : α → Prop} {wf' : β → Prop} {f : Field} {fs : List Field} {off : Nat} (ho : f.offset = off) (hc : P.cellsOf f.type = d.sz) (h : Rdb P f.type d wf) (h' : OpF P fs (off + d.sz) d' wf') : OpF P (f :: fs) off (Kd.pair d d') (WfP wf wf') := by
  refine ⟨?_⟩
  intro H enc w fuel cs hl hx
  have hl' : cs.length = off + (d.sz + d'.sz) := hl
  obtain ⟨x, hx0⟩ := hx f (by simp)
  obtain ⟨y, hK, hw⟩ := h.run enc w _ _ _ hx0
  obtain ⟨y', hK', hw'⟩ := h'.run enc w fuel cs (by omega) (fun f hf => hx f (by simp [hf]))
  rw [ho, hc] at hK
  refine ⟨(y, y'), ⟨_, _, ?_, hK, hK'⟩, hw, hw'⟩
  rw [← List.drop_drop, List.take_append_drop]
theorem Rdb.struct {α β : Type} {d : Kd α} {f : β → α} {g : α → β} {wf : α → Prop} {fs : Array Field} (hg : ∀ x, f (g x) = x) (h : P.underlying t = some (.struct fs)) (hc : P.cellsOf t = d.sz) (hf : OpF P fs.toList 0 d wf) : Rdb P t (Kd.iso d f) (fun x => wf (f x)) := by
  refine ⟨?_⟩
  intro H enc w fuel cs x hx
  obtain ⟨xs, n, _, _, hl, hlen, hfs⟩ := DataW.trod_struct h hx
  obtain ⟨y, hK, hw⟩ := hf.run enc w n cs (by rw [hl, hc]; omega) (fun fd hfd => by
    obtain ⟨i, hi, he⟩ := List.mem_iff_getElem.1 hfd
    have hi' : i < fs.size := by simpa using hi
    have := hfs i fd (by rw [Array.getElem?_eq_getElem hi']; simp only [Option.some.injEq]; rw [← he]; simp)
    rw [List.getElem?_eq_getElem (by omega)] at this
    exact ⟨_, this⟩)
  refine ⟨g y, ?_, ?_⟩
  · show d.K w (f (g y)) cs
    rw [hg]
    simpa using hK
  · show wf (f (g y))
    rw [hg]
    exact hw
end
end Go.Proofs.Ytofdnnjkfpomcaa.B

/- The kinds of the struct types: written by gen.py (this session's) out of the translation's types. -/
namespace Go.Proofs.Ytofdnnjkfpomcaa.B
open Go.RowKit Go.Deep Go.Proofs.YtofdnnjkfpomcaaW.PrintWords Go.Proofs.YtofdnnjkfpomcaaW.PrintLast Go.Proofs.YtofdnnjkfpomcaaW.PrintMore

/-! #### chaplet/api.Config: type 25 -/
structure GConfig where
  nodes : Int
  lines : Int
  words : Int
  sets : Int
  ways : Int
  out : Int
  in_ : Int
  init : (List Int)
  deriving DecidableEq
/-! #### chaplet/api.Packet: type 33 -/
structure GPacket where
  kind : Int
  from_ : Int
  to_ : Int
  iD : Int
  line : Int
  ptr : Int
  state : Int
  flag : Bool
  data : (List Int)
  deriving DecidableEq
/-! #### chaplet/chapletplay.Setup: type 47 -/
structure GSetup where
  nodes : Int
  lines : Int
  words : Int
  sets : Int
  ways : Int
  out : Int
  in_ : Int
  init : (List Int)
  who : (List Int)
  kinds : (List Int)
  addrs : (List Int)
  values : (List Int)
  deriving DecidableEq
/-! #### chaplet/chapletlaw06.Act: type 57 -/
structure GAct where
  do_ : Int
  at_ : Int
  bit : Int
  mask : Int
  packet : GPacket
  how : Int
  deriving DecidableEq
/-! #### chaplet/pool.Pool: type 96 -/
structure GPool where
  l : (List GPacket)
  room : Int
/-! #### chaplet/queue.Queue: type 98 -/
structure GQueue where
  l : (List GPacket)
  room : Int
end Go.Proofs.Ytofdnnjkfpomcaa.B

/- FabricFull, with its arguments as they are read. -/
namespace Go.Proofs.Ytofdnnjkfpomcaa.B
open Go.RowKit Go.Proofs.YtofdnnjkfpomcaaW.PrintWords Go.Proofs.Ytofdnnjkfpomcaa.E
set_option linter.unusedVariables false
theorem lawFabricFull (w : World) (a0 : Int) (w0 : (Lit.int .i64 a0).wf = true) (a1 : Int) (w1 : (Lit.int .i64 a1).wf = true) (a2 : Bool) :
    Calls Try.prog 4 #[.int .i64 a0, .int .i64 a1, .bool a2] w fun e w' => e = .returned (.bool true) ∧ Below w.heap.size w w' :=
  law_calls (E.full rfl a0 a1 a2) rfl (args_cons (arg_g (.int .i64 (.sym a0))) (args_cons (arg_g (.int .i64 (.sym a1))) (args_cons (arg_g (.bool (.sym a2))) args_nil)))
end Go.Proofs.Ytofdnnjkfpomcaa.B
