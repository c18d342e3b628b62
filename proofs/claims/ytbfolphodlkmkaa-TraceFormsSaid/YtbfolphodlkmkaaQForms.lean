/- TraceForms. -/
import Derived.Test.YtbfolphodlkmkaaTC
namespace Go.Proofs.Ytbfolphodlkmkaa.E
open Go
set_option linter.unusedVariables false
set_option maxRecDepth 100000

theorem mix (y : Int) (h : 0 ≤ y ∧ y < 4) : y = 0 ∨ y = 1 ∨ y = 2 ∨ y = 3 := by omega
theorem forms_0 (y q v0 : Int) (h : 0 ≤ y ∧ y < 4) (hq : q = (y + 1).tmod 4) : rightL 4 [] [] = true := by
  rcases mix y h with rfl | rfl | rfl | rfl <;> subst hq <;> rfl
theorem forms_1 (y q v0 : Int) (h : 0 ≤ y ∧ y < 4) (hq : q = (y + 1).tmod 4) : rightL 4 [] [⟨y, 0, false, 0⟩] = true := by
  rcases mix y h with rfl | rfl | rfl | rfl <;> subst hq <;> simp [rightL, okAt, cnt]
theorem forms_2 (y q v0 : Int) (h : 0 ≤ y ∧ y < 4) (hq : q = (y + 1).tmod 4) : rightL 4 [] [⟨y, 0, false, 0⟩, ⟨y, 0, true, v0⟩] = true := by
  rcases mix y h with rfl | rfl | rfl | rfl <;> subst hq <;> simp [rightL, okAt, cnt]
theorem forms_3 (y q v0 : Int) (h : 0 ≤ y ∧ y < 4) (hq : q = (y + 1).tmod 4) : rightL 4 [] [⟨y, 0, false, 0⟩, ⟨y, 0, true, v0⟩, ⟨y, 1, false, 0⟩] = true := by
  rcases mix y h with rfl | rfl | rfl | rfl <;> subst hq <;> simp [rightL, okAt, cnt]
theorem forms_4 (y q v0 : Int) (h : 0 ≤ y ∧ y < 4) (hq : q = (y + 1).tmod 4) : rightL 4 [] [⟨y, 0, true, v0⟩] = false := by
  rcases mix y h with rfl | rfl | rfl | rfl <;> subst hq <;> simp [rightL, okAt, cnt]
theorem forms_5 (y q v0 : Int) (h : 0 ≤ y ∧ y < 4) (hq : q = (y + 1).tmod 4) : rightL 4 [] [⟨y, 0, false, 0⟩, ⟨y, 0, false, 0⟩] = false := by
  rcases mix y h with rfl | rfl | rfl | rfl <;> subst hq <;> simp [rightL, okAt, cnt]
theorem forms_6 (y q v0 : Int) (h : 0 ≤ y ∧ y < 4) (hq : q = (y + 1).tmod 4) : rightL 4 [] [⟨y, 0, false, 0⟩, ⟨y, 0, true, v0⟩, ⟨y, 0, true, v0⟩] = false := by
  rcases mix y h with rfl | rfl | rfl | rfl <;> subst hq <;> simp [rightL, okAt, cnt]
theorem forms_7 (y q v0 : Int) (h : 0 ≤ y ∧ y < 4) (hq : q = (y + 1).tmod 4) : rightL 4 [] [⟨y, 1, false, 0⟩] = false := by
  rcases mix y h with rfl | rfl | rfl | rfl <;> subst hq <;> simp [rightL, okAt, cnt]
theorem forms_8 (y q v0 : Int) (h : 0 ≤ y ∧ y < 4) (hq : q = (y + 1).tmod 4) : rightL 4 [] [⟨y, 0, false, 0⟩, ⟨y, 1, false, 0⟩] = false := by
  rcases mix y h with rfl | rfl | rfl | rfl <;> subst hq <;> simp [rightL, okAt, cnt]
theorem forms_9 (y q v0 : Int) (h : 0 ≤ y ∧ y < 4) (hq : q = (y + 1).tmod 4) : rightL 4 [] [⟨y, 0, false, 1⟩] = false := by
  rcases mix y h with rfl | rfl | rfl | rfl <;> subst hq <;> simp [rightL, okAt, cnt]
theorem forms_10 (y q v0 : Int) (h : 0 ≤ y ∧ y < 4) (hq : q = (y + 1).tmod 4) : rightL 4 [] [⟨-1, 0, false, 0⟩] = false := by
  rcases mix y h with rfl | rfl | rfl | rfl <;> subst hq <;> simp [rightL, okAt, cnt]
theorem forms_11 (y q v0 : Int) (h : 0 ≤ y ∧ y < 4) (hq : q = (y + 1).tmod 4) : rightL 4 [] [⟨4, 0, false, 0⟩] = false := by
  rcases mix y h with rfl | rfl | rfl | rfl <;> subst hq <;> simp [rightL, okAt, cnt]
theorem forms_12 (y q v0 : Int) (h : 0 ≤ y ∧ y < 4) (hq : q = (y + 1).tmod 4) : rightL 4 [] [⟨y, 0, false, 0⟩, ⟨q, 0, false, 0⟩, ⟨y, 0, true, v0⟩, ⟨q, 0, true, 0⟩] = true := by
  rcases mix y h with rfl | rfl | rfl | rfl <;> subst hq <;> simp [rightL, okAt, cnt]
theorem forms_z (y : Int) (h : 0 ≤ y ∧ y < 4) : rightL y [] [⟨y, 0, false, 0⟩] = false := by
  rcases mix y h with rfl | rfl | rfl | rfl <;> rfl
/-- A loop in which a counter alone changes. -/
theorem Holds.loop_cnt {P : Program} {I : Ints} {p : Nat} {x : X} {ts : List A} {m : Mem} {k : Ex → List A → Mem → Tree} (slot N : Nat) (T : List A) (M : Mem) (σ fz keep : List Nat)
    (hσ : σ.Nodup) (hp : σ.take p = List.range p) (hT : T = ((maskT keep 0 ts).map (A.inv I σ (.frz fz) m)).map A.sy) (hM : M = (invMem I σ (.frz fz) m).map Blk.sy) (h0 : T[slot]? = some (i64 0))
    (h : ∀ (next : List A → Mem → Tree) (i : Nat) (z : Int), isN z i → i ≤ N → (i < N → ∀ (ts1 : List A) (m1 : Mem) (z1 : Int) (σ fz keep : List Nat), isN z1 (i + 1) → σ.Nodup → σ.take p = List.range p → T.set slot (i64 z1) = ((maskT keep 0 ts1).map (A.inv I σ (.frz fz) m1)).map A.sy → M = (invMem I σ (.frz fz) m1).map Blk.sy → Holds P I p (next ts1 m1)) →
      Holds P I p (ev I x (T.set slot (i64 z)) M fun e ts m => match e with
        | .normal => next ts m
        | .exit i => k (.exit i) ts m
        | .ret => k .ret ts m)) : Holds P I p (.loop x ts m k) := by
  refine .loop_next (fun n ts m => ∃ (i : Nat) (z : Int), n = N - i ∧ isN z i ∧ i ≤ N ∧ ts = T.set slot (i64 z) ∧ m = M) N T M σ fz keep hσ hp hT hM ⟨0, 0, rfl, rfl, Nat.zero_le _, set_self2 h0, rfl⟩ ?_
  rintro next n hnext ts m ⟨i, z, hn, hz, hi, rfl, rfl⟩
  refine h next i z hz hi fun hlt ts1 m1 z1 σ fz keep hz1 hσ hp h1 h2 => ?_
  exact hnext ts1 m1 (N - (i + 1)) σ fz keep _ _ (by omega) hσ hp h1 h2 ⟨i + 1, z1, rfl, hz1, hlt, rfl, rfl⟩
section
variable {P : Program} (hp : P = Try.prog)
include hp
set_option maxHeartbeats 8000000 in
theorem forms (n v0 : Int) : LValid P 4 [gi .i64 n, gi .i64 v0] [] (fun v _ => ∃ b : BB, b.val = true ∧ v = .one (.c (.g (.bool b)))) := by
  obtain ⟨I, hI⟩ := ref
  refine fn_sim hI (mo hp) (cc hp c4) fun Post hP => ?_
  cbv
  refine .go [] [] [] (within hp _ _) rfl rfl rfl rfl rfl rfl ?_
  rintro r m1 ⟨y, hy, rfl, rfl⟩
  have hyr : 0 ≤ y ∧ y < 4 := by rw [hy]; exact win_in n 4 (by omega) (by omega)
  obtain ⟨q, hq⟩ : ∃ q, q = I.bin .rem .i64 (I.bin .add .i64 y 1) 4 := ⟨_, rfl⟩
  have hqv : q = (y + 1).tmod 4 := by
    rw [hq, hI]
    show (IntKind.i64.wrap (y + 1)).tmod 4 = _
    rw [wrap_in] <;> omega
  clear hy
  cbv
  refine .loop_cnt 75 13 _ _ [0, 1, 2, 3, 4, 5, 6, 7, 8, 9, 10, 11, 12, 13, 14, 15] [] [0, 1, 5, 73, 74, 75] (by decide) rfl rfl rfl rfl ?_
  intro next i z hz hi hnext
  cbv
  refine .br (fun g1 => ?_) (fun g1 => ?_)
  · have hi1 : i < 13 := by
      have : z < 13 := by simpa [hI, ints, rCmp] using g1
      unfold isN at hz
      omega
    have hz1 : isN (I.bin .add .i64 z 1) (i + 1) := by unfold isN at hz ⊢; rw [hI]; simp only [ints, rBin]; rw [wrap_in] <;> omega
    replace hnext := hnext hi1
    rcases (show i = 0 ∨ i = 1 ∨ i = 2 ∨ i = 3 ∨ i = 4 ∨ i = 5 ∨ i = 6 ∨ i = 7 ∨ i = 8 ∨ i = 9 ∨ i = 10 ∨ i = 11 ∨ i = 12 from by omega) with rfl | rfl | rfl | rfl | rfl | rfl | rfl | rfl | rfl | rfl | rfl | rfl | rfl
    · cbv
      refine .idx 0 hz (by decide) ?_
      cbv
      refine .drawn [] ?_
      cbv
      refine .go [] [] [.keep, .bor 4] (right_ hp (.lit 4) [] [] rfl (by simp)) rfl rfl rfl rfl rfl rfl ?_
      rintro v m1 ⟨t, ht, rfl, rfl⟩
      have ht : t = true := ht.trans (forms_0 y _ v0 hyr (hq ▸ hqv))
      cbv
      refine br_f (by rw [hI, ht]; rfl) ?_
      cbv
      exact hnext _ _ _ [0, 1, 2, 3, 4, 5, 6, 7, 8, 9, 10, 11, 12, 13, 14, 15] [] [0, 1, 5, 73, 74, 75] hz1 (by decide) rfl rfl rfl
    · cbv
      refine .idx 1 hz (by decide) ?_
      cbv
      refine .drawn [] ?_
      cbv
      refine .go [] [] [.keep, .bor 4] (right_ hp (.lit 4) [EV.row ⟨y, 0, false, 0⟩] [⟨y, 0, false, 0⟩] rfl (by simp)) rfl rfl rfl rfl rfl rfl ?_
      rintro v m1 ⟨t, ht, rfl, rfl⟩
      have ht : t = true := ht.trans (forms_1 y _ v0 hyr (hq ▸ hqv))
      cbv
      refine br_f (by rw [hI, ht]; rfl) ?_
      cbv
      exact hnext _ _ _ [0, 1, 2, 3, 4, 5, 6, 7, 8, 9, 10, 11, 12, 13, 14, 15] [] [0, 1, 5, 73, 74, 75] hz1 (by decide) rfl rfl rfl
    · cbv
      refine .idx 2 hz (by decide) ?_
      cbv
      refine .drawn [] ?_
      cbv
      refine .go [] [] [.keep, .bor 4] (right_ hp (.lit 4) [EV.row ⟨y, 0, false, 0⟩, EV.row ⟨y, 0, true, v0⟩] [⟨y, 0, false, 0⟩, ⟨y, 0, true, v0⟩] rfl (by simp)) rfl rfl rfl rfl rfl rfl ?_
      rintro v m1 ⟨t, ht, rfl, rfl⟩
      have ht : t = true := ht.trans (forms_2 y _ v0 hyr (hq ▸ hqv))
      cbv
      refine br_f (by rw [hI, ht]; rfl) ?_
      cbv
      exact hnext _ _ _ [0, 1, 2, 3, 4, 5, 6, 7, 8, 9, 10, 11, 12, 13, 14, 15] [] [0, 1, 5, 73, 74, 75] hz1 (by decide) rfl rfl rfl
    · cbv
      refine .idx 3 hz (by decide) ?_
      cbv
      refine .drawn [] ?_
      cbv
      refine .go [] [] [.keep, .bor 4] (right_ hp (.lit 4) [EV.row ⟨y, 0, false, 0⟩, EV.row ⟨y, 0, true, v0⟩, EV.row ⟨y, 1, false, 0⟩] [⟨y, 0, false, 0⟩, ⟨y, 0, true, v0⟩, ⟨y, 1, false, 0⟩] rfl (by simp)) rfl rfl rfl rfl rfl rfl ?_
      rintro v m1 ⟨t, ht, rfl, rfl⟩
      have ht : t = true := ht.trans (forms_3 y _ v0 hyr (hq ▸ hqv))
      cbv
      refine br_f (by rw [hI, ht]; rfl) ?_
      cbv
      exact hnext _ _ _ [0, 1, 2, 3, 4, 5, 6, 7, 8, 9, 10, 11, 12, 13, 14, 15] [] [0, 1, 5, 73, 74, 75] hz1 (by decide) rfl rfl rfl
    · cbv
      refine .idx 4 hz (by decide) ?_
      cbv
      refine .drawn [] ?_
      cbv
      refine .go [] [] [.keep, .bor 4] (right_ hp (.lit 4) [EV.row ⟨y, 0, true, v0⟩] [⟨y, 0, true, v0⟩] rfl (by simp)) rfl rfl rfl rfl rfl rfl ?_
      rintro v m1 ⟨t, ht, rfl, rfl⟩
      have ht : t = false := ht.trans (forms_4 y _ v0 hyr (hq ▸ hqv))
      cbv
      refine br_f (by rw [hI, ht]; rfl) ?_
      cbv
      exact hnext _ _ _ [0, 1, 2, 3, 4, 5, 6, 7, 8, 9, 10, 11, 12, 13, 14, 15] [] [0, 1, 5, 73, 74, 75] hz1 (by decide) rfl rfl rfl
    · cbv
      refine .idx 5 hz (by decide) ?_
      cbv
      refine .drawn [] ?_
      cbv
      refine .go [] [] [.keep, .bor 4] (right_ hp (.lit 4) [EV.row ⟨y, 0, false, 0⟩, EV.row ⟨y, 0, false, 0⟩] [⟨y, 0, false, 0⟩, ⟨y, 0, false, 0⟩] rfl (by simp)) rfl rfl rfl rfl rfl rfl ?_
      rintro v m1 ⟨t, ht, rfl, rfl⟩
      have ht : t = false := ht.trans (forms_5 y _ v0 hyr (hq ▸ hqv))
      cbv
      refine br_f (by rw [hI, ht]; rfl) ?_
      cbv
      exact hnext _ _ _ [0, 1, 2, 3, 4, 5, 6, 7, 8, 9, 10, 11, 12, 13, 14, 15] [] [0, 1, 5, 73, 74, 75] hz1 (by decide) rfl rfl rfl
    · cbv
      refine .idx 6 hz (by decide) ?_
      cbv
      refine .drawn [] ?_
      cbv
      refine .go [] [] [.keep, .bor 4] (right_ hp (.lit 4) [EV.row ⟨y, 0, false, 0⟩, EV.row ⟨y, 0, true, v0⟩, EV.row ⟨y, 0, true, v0⟩] [⟨y, 0, false, 0⟩, ⟨y, 0, true, v0⟩, ⟨y, 0, true, v0⟩] rfl (by simp)) rfl rfl rfl rfl rfl rfl ?_
      rintro v m1 ⟨t, ht, rfl, rfl⟩
      have ht : t = false := ht.trans (forms_6 y _ v0 hyr (hq ▸ hqv))
      cbv
      refine br_f (by rw [hI, ht]; rfl) ?_
      cbv
      exact hnext _ _ _ [0, 1, 2, 3, 4, 5, 6, 7, 8, 9, 10, 11, 12, 13, 14, 15] [] [0, 1, 5, 73, 74, 75] hz1 (by decide) rfl rfl rfl
    · cbv
      refine .idx 7 hz (by decide) ?_
      cbv
      refine .drawn [] ?_
      cbv
      refine .go [] [] [.keep, .bor 4] (right_ hp (.lit 4) [EV.row ⟨y, 1, false, 0⟩] [⟨y, 1, false, 0⟩] rfl (by simp)) rfl rfl rfl rfl rfl rfl ?_
      rintro v m1 ⟨t, ht, rfl, rfl⟩
      have ht : t = false := ht.trans (forms_7 y _ v0 hyr (hq ▸ hqv))
      cbv
      refine br_f (by rw [hI, ht]; rfl) ?_
      cbv
      exact hnext _ _ _ [0, 1, 2, 3, 4, 5, 6, 7, 8, 9, 10, 11, 12, 13, 14, 15] [] [0, 1, 5, 73, 74, 75] hz1 (by decide) rfl rfl rfl
    · cbv
      refine .idx 8 hz (by decide) ?_
      cbv
      refine .drawn [] ?_
      cbv
      refine .go [] [] [.keep, .bor 4] (right_ hp (.lit 4) [EV.row ⟨y, 0, false, 0⟩, EV.row ⟨y, 1, false, 0⟩] [⟨y, 0, false, 0⟩, ⟨y, 1, false, 0⟩] rfl (by simp)) rfl rfl rfl rfl rfl rfl ?_
      rintro v m1 ⟨t, ht, rfl, rfl⟩
      have ht : t = false := ht.trans (forms_8 y _ v0 hyr (hq ▸ hqv))
      cbv
      refine br_f (by rw [hI, ht]; rfl) ?_
      cbv
      exact hnext _ _ _ [0, 1, 2, 3, 4, 5, 6, 7, 8, 9, 10, 11, 12, 13, 14, 15] [] [0, 1, 5, 73, 74, 75] hz1 (by decide) rfl rfl rfl
    · cbv
      refine .idx 9 hz (by decide) ?_
      cbv
      refine .drawn [] ?_
      cbv
      refine .go [] [] [.keep, .bor 4] (right_ hp (.lit 4) [EV.row ⟨y, 0, false, 1⟩] [⟨y, 0, false, 1⟩] rfl (by simp)) rfl rfl rfl rfl rfl rfl ?_
      rintro v m1 ⟨t, ht, rfl, rfl⟩
      have ht : t = false := ht.trans (forms_9 y _ v0 hyr (hq ▸ hqv))
      cbv
      refine br_f (by rw [hI, ht]; rfl) ?_
      cbv
      exact hnext _ _ _ [0, 1, 2, 3, 4, 5, 6, 7, 8, 9, 10, 11, 12, 13, 14, 15] [] [0, 1, 5, 73, 74, 75] hz1 (by decide) rfl rfl rfl
    · cbv
      refine .idx 10 hz (by decide) ?_
      cbv
      refine .drawn [] ?_
      cbv
      refine .go [] [] [.keep, .bor 4] (right_ hp (.lit 4) [EV.row ⟨-1, 0, false, 0⟩] [⟨-1, 0, false, 0⟩] rfl (by simp)) rfl rfl rfl rfl rfl rfl ?_
      rintro v m1 ⟨t, ht, rfl, rfl⟩
      have ht : t = false := ht.trans (forms_10 y _ v0 hyr (hq ▸ hqv))
      cbv
      refine br_f (by rw [hI, ht]; rfl) ?_
      cbv
      exact hnext _ _ _ [0, 1, 2, 3, 4, 5, 6, 7, 8, 9, 10, 11, 12, 13, 14, 15] [] [0, 1, 5, 73, 74, 75] hz1 (by decide) rfl rfl rfl
    · cbv
      refine .idx 11 hz (by decide) ?_
      cbv
      refine .drawn [] ?_
      cbv
      refine .go [] [] [.keep, .bor 4] (right_ hp (.lit 4) [EV.row ⟨4, 0, false, 0⟩] [⟨4, 0, false, 0⟩] rfl (by simp)) rfl rfl rfl rfl rfl rfl ?_
      rintro v m1 ⟨t, ht, rfl, rfl⟩
      have ht : t = false := ht.trans (forms_11 y _ v0 hyr (hq ▸ hqv))
      cbv
      refine br_f (by rw [hI, ht]; rfl) ?_
      cbv
      exact hnext _ _ _ [0, 1, 2, 3, 4, 5, 6, 7, 8, 9, 10, 11, 12, 13, 14, 15] [] [0, 1, 5, 73, 74, 75] hz1 (by decide) rfl rfl rfl
    · cbv
      refine .idx 12 hz (by decide) ?_
      cbv
      refine .drawn [] ?_
      cbv
      refine .go [] [] [.keep, .bor 4] (right_ hp (.lit 4) [EV.row ⟨y, 0, false, 0⟩, EV.row ⟨I.bin .rem .i64 (I.bin .add .i64 y 1) 4, 0, false, 0⟩, EV.row ⟨y, 0, true, v0⟩, EV.row ⟨I.bin .rem .i64 (I.bin .add .i64 y 1) 4, 0, true, 0⟩] [⟨y, 0, false, 0⟩, ⟨I.bin .rem .i64 (I.bin .add .i64 y 1) 4, 0, false, 0⟩, ⟨y, 0, true, v0⟩, ⟨I.bin .rem .i64 (I.bin .add .i64 y 1) 4, 0, true, 0⟩] rfl (by simp)) rfl rfl rfl rfl rfl rfl ?_
      rintro v m1 ⟨t, ht, rfl, rfl⟩
      have ht : t = true := ht.trans (forms_12 y _ v0 hyr (hq ▸ hqv))
      cbv
      refine br_f (by rw [hI, ht]; rfl) ?_
      cbv
      exact hnext _ _ _ [0, 1, 2, 3, 4, 5, 6, 7, 8, 9, 10, 11, 12, 13, 14, 15] [] [0, 1, 5, 73, 74, 75] hz1 (by decide) rfl rfl rfl
  cbv
  refine .go [] [] [.keep, .bor 4] (right_ hp (.sym y) [EV.row ⟨y, 0, false, 0⟩] [⟨y, 0, false, 0⟩] rfl (by simp)) rfl rfl rfl rfl rfl rfl ?_
  rintro v m1 ⟨t, ht, rfl, rfl⟩
  have ht : t = false := ht.trans (forms_z y hyr)
  cbv
  refine br_t (by rw [hI, ht]; rfl) ?_
  cbv
  refine .go [] [] [] (wakes hp) rfl rfl rfl rfl rfl rfl ?_
  rintro v m1 ⟨rfl, rfl⟩
  cbv
  exact hP _ _ [] [] _ _ .nil rfl rfl rfl rfl rfl ⟨_, rfl, rfl⟩
end
end Go.Proofs.Ytbfolphodlkmkaa.E
