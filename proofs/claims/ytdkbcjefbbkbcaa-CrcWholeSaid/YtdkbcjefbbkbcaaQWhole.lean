/- CrcWhole. -/
import Derived.Test.YtdkbcjefbbkbcaaQFinds
namespace Go.Proofs.Ytdkbcjefbbkbcaa.E
open Go
set_option linter.unusedVariables false
set_option maxRecDepth 100000

section
variable {P : Program} (hp : P = Try.prog)
include hp
set_option maxHeartbeats 4000000 in
theorem whole (B0 : List (List G)) (h0 : ∃ us, isB B0 us) (raw : Bool) : LValid P 7 [.c (.g (.rows 1 B0)), gb raw] [] (fun v _ => ∃ b : BB, b.val = true ∧ v = .one (.c (.g (.bool b)))) := by
  obtain ⟨us0, h0⟩ := h0
  obtain ⟨I, hI⟩ := ref
  refine fn_sim hI (mo hp) (cc hp c7) fun Post hP => ?_
  cbv
  refine .go [] [] [.bor 1] (cut2 hp B0 us0 h0 (.lit 60) 60 rfl (by omega)) rfl rfl rfl rfl rfl rfl ?_
  rintro v m1 ⟨l, us, hul, hB, rfl, rfl⟩
  have hl : I.len l = us.length := by rw [hI]; exact hB.len
  have cge : ∀ n : Nat, I.cmp .geq (I.ofNat n) 2 = decide (2 ≤ n) := fun n => by
    rw [hI]
    show decide ((n : Int) ≥ 2) = _
    by_cases h : 2 ≤ n
    · rw [decide_eq_true h, decide_eq_true (by omega)]
    · rw [decide_eq_false h, decide_eq_false (by omega)]
  have ceq : ∀ s : BitVec 16, I.cmp .eql (w16 s) 0 = (s == 0#16) := fun s => by
    rw [hI]
    show (w16 s == w16 0#16) = _
    by_cases h : s = 0#16
    · rw [h]; simp
    · rw [beq_eq_false_iff_ne.2 h, beq_eq_false_iff_ne.2 (fun e => h (w16_inj e))]
  cbv
  refine .br (fun g1 => ?_) (fun g1 => ?_)
  · have hr : raw = false := by simpa [hI, ints] using g1
    cbv
    refine .go [] [] [.bor 1] (seal_ hp l us hB (by omega)) rfl rfl rfl rfl rfl rfl ?_
    rintro v m1 ⟨l1, hB1, rfl, rfl⟩
    have hsl := sealB_len us
    have hl1 : I.len l1 = us.length + 2 := by rw [hI]; exact hB1.len.trans hsl
    cbv
    refine .go [] [] [.bor 1] (open_ hp l1 _ hB1 (by rw [hsl]; omega)) rfl rfl rfl rfl rfl rfl ?_
    rintro v m1 (⟨h2, hs, l3, hB3, rfl, rfl⟩ | ⟨hs, rfl, rfl⟩)
    rotate_left
    · exact absurd ⟨by rw [hsl]; omega, seal_is us⟩ hs
    rw [seal_take] at hB3
    cbv
    refine br_t (show I.cmp .geq (I.ofNat (I.len l1)) 2 = true from by rw [cge, hl1]; exact decide_eq_true (by omega)) ?_
    cbv
    refine .go [] [] [.bor 1] (sum hp l1 _ hB1 (by rw [hsl]; omega)) rfl rfl rfl rfl rfl rfl ?_
    rintro v m1 ⟨t, ht, rfl, rfl⟩
    have hc0 : I.cmp .eql t 0 = true := by rw [ht, ceq, seal_sum]; rfl
    cbv
    refine br_f (show I.not (I.beq true (I.cmp .eql t 0)) = false from by rw [hc0, hI]; rfl) ?_
    cbv
    refine br_t g1 ?_
    cbv
    refine br_t rfl ?_
    cbv
    refine .go [] [] [.bor 1, .bor 1] (same2 hp l3 l _ _ hB3 hB (by omega)) rfl rfl rfl rfl rfl rfl ?_
    rintro v m1 ⟨t2, ht2, rfl, rfl⟩
    have ht2 : t2 = true := by rw [ht2]; simp
    cbv
    refine br_t ht2 ?_
    cbv
    refine .go [] [] [] (wakes P hp) rfl rfl rfl rfl rfl rfl ?_
    rintro v m1 ⟨rfl, rfl⟩
    cbv
    exact hP _ _ [] [] _ _ .nil rfl rfl rfl rfl rfl ⟨_, rfl, rfl⟩
  · cbv
    refine .go [] [] [.bor 1] (open_ hp l _ hB (by omega)) rfl rfl rfl rfl rfl rfl ?_
    rintro v m1 (⟨h2, hs, l3, hB3, rfl, rfl⟩ | ⟨hs, rfl, rfl⟩)
    · have hs0 : crcSum us = 0#16 := by rw [isSeal_iff us h2] at hs; simpa using hs
      have hk : I.bin .sub .i64 (I.ofNat (I.len l)) 2 = ((us.length - 2 : Nat) : Int) := by
        rw [hl, hI]
        show IntKind.i64.wrap ((us.length : Int) - 2) = _
        rw [wrap_in _ (by omega) (by omega)]
        exact (Int.ofNat_sub h2).symm
      have hkl : us.length - 2 ≤ I.len l := by rw [hl]; omega
      have hE : isB (I.ext l 0 (us.length - 2)) (us.take (us.length - 2)) := by rw [hI]; exact hB.take _
      have hl3 : (us.take (us.length - 2)).length ≤ 1000000000 := by rw [List.length_take]; omega
      generalize hkk : us.length - 2 = k at hk hkl hE hl3 hB3
      generalize hx : I.ext l 0 k = lx at hE
      cbv
      refine br_t (show I.cmp .geq (I.ofNat (I.len l)) 2 = true from by rw [cge, hl]; exact decide_eq_true h2) ?_
      cbv
      refine .go [] [] [.bor 1] (sum hp l _ hB (by omega)) rfl rfl rfl rfl rfl rfl ?_
      rintro v m1 ⟨t, ht, rfl, rfl⟩
      have hc0 : I.cmp .eql t 0 = true := by rw [ht, ceq, hs0]; rfl
      cbv
      refine br_f (show I.not (I.beq true (I.cmp .eql t 0)) = false from by rw [hc0, hI]; rfl) ?_
      cbv
      refine br_f g1 ?_
      cbv
      refine br_f (show I.not true = false from by rw [hI]; rfl) ?_
      cbv
      refine br_t rfl ?_
      cbv
      refine .rng 0 k rfl hk (Nat.zero_le _) hkl ?_
      cbv
      refine .go [] [] [.bor 1, .bor 1] (same2 hp l3 lx _ _ hB3 hE hl3) rfl rfl rfl rfl (by rw [← hx]; rfl) rfl ?_
      rintro v m1 ⟨t2, ht2, rfl, rfl⟩
      have ht2 : t2 = true := by rw [ht2]; simp
      cbv
      refine br_t ht2 ?_
      cbv
      refine .go [] [] [] (wakes P hp) rfl rfl rfl rfl rfl rfl ?_
      rintro v m1 ⟨rfl, rfl⟩
      cbv
      exact hP _ _ [] [] _ _ .nil rfl rfl rfl rfl rfl ⟨_, rfl, rfl⟩
    · by_cases h2 : 2 ≤ us.length
      · have hs0 : (crcSum us == 0#16) = false := by
          rw [← isSeal_iff us h2]
          exact Bool.eq_false_iff.2 fun e => hs ⟨h2, e⟩
        cbv
        refine br_t (show I.cmp .geq (I.ofNat (I.len l)) 2 = true from by rw [cge, hl]; exact decide_eq_true h2) ?_
        cbv
        refine .go [] [] [.bor 1] (sum hp l _ hB (by omega)) rfl rfl rfl rfl rfl rfl ?_
        rintro v m1 ⟨t, ht, rfl, rfl⟩
        have hc0 : I.cmp .eql t 0 = false := by rw [ht, ceq, hs0]
        cbv
        refine br_f (show I.not (I.beq false (I.cmp .eql t 0)) = false from by rw [hc0, hI]; rfl) ?_
        cbv
        refine br_f g1 ?_
        cbv
        refine br_t (show I.not false = true from by rw [hI]; rfl) ?_
        cbv
        refine .go [] [] [] (wakes P hp) rfl rfl rfl rfl rfl rfl ?_
        rintro v m1 ⟨rfl, rfl⟩
        cbv
        exact hP _ _ [] [] _ _ .nil rfl rfl rfl rfl rfl ⟨_, rfl, rfl⟩
      · cbv
        refine br_f (show I.cmp .geq (I.ofNat (I.len l)) 2 = false from by rw [cge, hl]; exact decide_eq_false h2) ?_
        cbv
        refine br_f (show I.not (I.beq false false) = false from by rw [hI]; rfl) ?_
        cbv
        refine br_f g1 ?_
        cbv
        refine br_t (show I.not false = true from by rw [hI]; rfl) ?_
        cbv
        refine .go [] [] [] (wakes P hp) rfl rfl rfl rfl rfl rfl ?_
        rintro v m1 ⟨rfl, rfl⟩
        cbv
        exact hP _ _ [] [] _ _ .nil rfl rfl rfl rfl rfl ⟨_, rfl, rfl⟩
end
end Go.Proofs.Ytdkbcjefbbkbcaa.E
