/- CrcFinds. -/
import Derived.Test.YtdkbcjefbbkbcaaQSteps
namespace Go.Proofs.Ytdkbcjefbbkbcaa.E
open Go
set_option linter.unusedVariables false
set_option maxRecDepth 100000

theorem wordIs {y : Int} (h : (Lit.int .u16 y).wf = true) : ∃ b : BitVec 16, y = w16 b := by
  have h2 : (decide (IntKind.u16.min ≤ y) && decide (y ≤ IntKind.u16.max)) = true := h
  rw [show IntKind.u16.min = 0 from rfl, show IntKind.u16.max = 65535 from rfl] at h2
  have h3 : 0 ≤ y ∧ y ≤ 65535 := by simpa using h2
  refine ⟨BitVec.ofNat 16 y.toNat, ?_⟩
  unfold w16
  rw [BitVec.toNat_ofNat, Nat.mod_eq_of_lt (by omega)]
  omega
theorem wrap_b (x : Int) : -9223372036854775808 ≤ IntKind.i64.wrap x ∧ IntKind.i64.wrap x ≤ 9223372036854775807 := by
  rw [IntKind.wrap_i64]
  omega
section
variable {P : Program} (hp : P = Try.prog)
include hp
set_option maxHeartbeats 4000000 in
theorem finds (B0 : List (List G)) (h0 : ∃ us, isB B0 us) (bit : Int) (q : Int) (hq : ∃ mask, q = w16 mask) : LValid P 9 [.c (.g (.rows 1 B0)), gi .i64 bit, gi .u16 q] [] (fun v _ => ∃ b : BB, b.val = true ∧ v = .one (.c (.g (.bool b)))) := by
  obtain ⟨us0, h0⟩ := h0
  obtain ⟨mask, hq⟩ := hq
  obtain ⟨I, hI⟩ := ref
  refine fn_sim hI (mo hp) (cc hp c9) fun Post hP => ?_
  cbv
  refine .go [] [] [.bor 1] (cut2 hp B0 us0 h0 (.lit 60) 60 rfl (by omega)) rfl rfl rfl rfl rfl rfl ?_
  rintro v m1 ⟨l, us, hul, hB, rfl, rfl⟩
  cbv
  refine .go [] [] [.bor 1] (seal_ hp l us hB (by omega)) rfl rfl rfl rfl rfl rfl ?_
  rintro v m1 ⟨l1, hB1, rfl, rfl⟩
  have hl : I.len l = us.length := by rw [hI]; exact hB.len
  have hl1 : I.len l1 = us.length + 2 := by rw [hI]; exact hB1.len.trans (sealB_len us)
  have hsl := sealB_len us
  cbv
  refine br_f (show I.cmp .neq (I.ofNat (I.len l1)) (I.bin .add .i64 (I.ofNat (I.len l)) 2) = false from by
    rw [hl, hl1, hI]
    show rCmp .neq (((us.length + 2 : Nat)) : Int) (IntKind.i64.wrap ((us.length : Int) + 2)) = false
    rw [wrap_in _ (by omega) (by omega)]
    simp [rCmp]) ?_
  cbv
  refine .go [] [] [] (within hp _ _) rfl rfl rfl rfl rfl rfl ?_
  rintro r m1 ⟨y, hy, rfl, rfl⟩
  have hbb : -9223372036854775808 ≤ I.bin .sub .i64 y 18 ∧ I.bin .sub .i64 y 18 ≤ 9223372036854775807 := by rw [hI]; exact wrap_b _
  generalize hbit : I.bin .sub .i64 y 18 = bt at hbb
  cbv
  refine .go [] [] [.bor 1] (spoil hp l1 _ hB1 (by rw [hsl]; omega) (.sym bt) hbb (.sym q) mask hq) rfl rfl rfl rfl (by rw [← hbit]; rfl) rfl ?_
  rintro v m1 ⟨l2, hB2, rfl, rfl⟩
  have hB2 : isB l2 (spoilt mask bt 0 (sealB us)) := hB2
  have hs2 : (spoilt mask bt 0 (sealB us)).length = us.length + 2 := by rw [spoilt_len, hsl]
  cbv
  refine .go [] [] [.bor 1] (open_ hp l2 _ hB2 (by rw [hs2]; omega)) rfl rfl rfl rfl rfl rfl ?_
  rintro v m1 (⟨h2, hs, l3, hB3, rfl, rfl⟩ | ⟨hs, rfl, rfl⟩)
  · have e : spoilt mask bt 0 (sealB us) = sealB us := spoilt_found _ _ _ (seal_sum us) (by
      rw [isSeal_iff _ h2] at hs
      simpa using hs)
    rw [e] at hB3 hB2
    rw [seal_take] at hB3
    cbv
    refine .go [] [] [.bor 1, .bor 1] (same2 hp l1 l2 _ _ hB1 hB2 (by rw [hsl]; omega)) rfl rfl rfl rfl rfl rfl ?_
    rintro v m1 ⟨t, ht, rfl, rfl⟩
    have ht : t = true := by rw [ht]; simp
    cbv
    refine br_t ht ?_
    cbv
    refine br_t rfl ?_
    cbv
    refine .go [] [] [.bor 1, .bor 1] (same2 hp l3 l _ _ hB3 hB (by omega)) rfl rfl rfl rfl rfl rfl ?_
    rintro v m1 ⟨t2, ht2, rfl, rfl⟩
    have ht2 : t2 = true := by rw [ht2]; simp
    cbv
    refine br_t ht2 ?_
    cbv
    refine .go [] [] [] (wakes P hp) rfl rfl rfl rfl rfl rfl ?_
    rintro v m1 ⟨rfl, rfl⟩
    cbv
    exact hP _ _ [] [] _ _ .nil rfl rfl rfl rfl rfl ⟨_, rfl, rfl⟩
  · have hne : ¬ (sealB us = spoilt mask bt 0 (sealB us)) := fun e => hs ⟨by rw [hs2]; omega, by rw [← e]; exact seal_is us⟩
    cbv
    refine .go [] [] [.bor 1, .bor 1] (same2 hp l1 l2 _ _ hB1 hB2 (by rw [hsl]; omega)) rfl rfl rfl rfl rfl rfl ?_
    rintro v m1 ⟨t, ht, rfl, rfl⟩
    have ht : t = false := by rw [ht, beq_eq_false_iff_ne.2 hne]
    cbv
    refine br_f ht ?_
    cbv
    refine br_t (by rw [hI]; rfl) ?_
    cbv
    refine .go [] [] [] (wakes P hp) rfl rfl rfl rfl rfl rfl ?_
    rintro v m1 ⟨rfl, rfl⟩
    cbv
    exact hP _ _ [] [] _ _ .nil rfl rfl rfl rfl rfl ⟨_, rfl, rfl⟩
end
end Go.Proofs.Ytdkbcjefbbkbcaa.E
