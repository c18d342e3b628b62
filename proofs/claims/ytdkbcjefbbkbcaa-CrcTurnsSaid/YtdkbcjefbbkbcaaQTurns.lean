/- CrcTurns. -/
import Derived.Test.YtdkbcjefbbkbcaaQFinds
namespace Go.Proofs.Ytdkbcjefbbkbcaa.E
open Go
set_option linter.unusedVariables false
set_option maxRecDepth 100000

section
variable {P : Program} (hp : P = Try.prog)
include hp
set_option maxHeartbeats 4000000 in
theorem turns (B0 : List (List G)) (h0 : ∃ us, isB B0 us) (bit : Int) (hbb : -9223372036854775808 ≤ bit ∧ bit ≤ 9223372036854775807) (q : Int) (hq : ∃ mask, q = w16 mask) : LValid P 5 [.c (.g (.rows 1 B0)), gi .i64 bit, gi .u16 q] [] (fun v _ => ∃ b : BB, b.val = true ∧ v = .one (.c (.g (.bool b)))) := by
  obtain ⟨us0, h0⟩ := h0
  obtain ⟨mask, hq⟩ := hq
  obtain ⟨I, hI⟩ := ref
  refine fn_sim hI (mo hp) (cc hp c5) fun Post hP => ?_
  cbv
  refine .go [] [] [.bor 1] (cut2 hp B0 us0 h0 (.lit 60) 60 rfl (by omega)) rfl rfl rfl rfl rfl rfl ?_
  rintro v m1 ⟨l, us, hul, hB, rfl, rfl⟩
  have hl : I.len l = us.length := by rw [hI]; exact hB.len
  have h8 : I.bin .mul .i64 8 (I.ofNat (I.len l)) = 8 * (us.length : Int) := by
    rw [hl, hI]
    show IntKind.i64.wrap (8 * (us.length : Int)) = _
    rw [wrap_in] <;> omega
  have e8 : spoilt mask (8 * (us.length : Int)) 0 us = us := spoilt_none _ _ _ _ fun i hi => pat_out _ _ _ (by omega)
  have e16 : spoilt mask (-16) 0 us = us := spoilt_none _ _ _ _ fun i hi => pat_out _ _ _ (by omega)
  have e0 : spoilt 0#16 bit 0 us = us := spoilt_none _ _ _ _ fun i hi => pat_zero _ _
  have hb8 : -9223372036854775808 ≤ 8 * (us.length : Int) ∧ 8 * (us.length : Int) ≤ 9223372036854775807 := by omega
  rw [← h8] at e8 hb8
  cbv
  refine .go [] [] [.bor 1] (spoil hp l us hB (by omega) (.sym bit) hbb (.sym q) mask hq) rfl rfl rfl rfl rfl rfl ?_
  rintro v m1 ⟨l1, hB1, rfl, rfl⟩
  have hl1 : I.len l1 = us.length := by rw [hI]; exact hB1.len.trans (spoilt_len _ _ _ _)
  cbv
  refine br_t (show I.cmp .eql (I.ofNat (I.len l1)) (I.ofNat (I.len l)) = true from by rw [hl, hl1, hI]; simp [ints, rCmp]) ?_
  cbv
  refine .go [] [] [.bor 1] (spoil hp l1 _ hB1 (by rw [spoilt_len]; omega) (.sym bit) hbb (.sym q) mask hq) rfl rfl rfl rfl rfl rfl ?_
  rintro v m1 ⟨l2, hB2, rfl, rfl⟩
  rw [show (Z.sym bit).val = bit from rfl, spoilt_twice] at hB2
  cbv
  refine .go [] [] [.bor 1, .bor 1] (same2 hp l2 l _ _ hB2 hB (by omega)) rfl rfl rfl rfl rfl rfl ?_
  rintro v m1 ⟨t, ht, rfl, rfl⟩
  have ht : t = true := by rw [ht]; simp
  cbv
  refine br_t ht ?_
  cbv
  refine .go [] [] [.bor 1] (spoil hp l us hB (by omega) (.sym bit) hbb (.lit 0) 0#16 rfl) rfl rfl rfl rfl rfl rfl ?_
  rintro v m1 ⟨l3, hB3, rfl, rfl⟩
  have hB3 : isB l3 us := e0 ▸ hB3
  cbv
  refine .go [] [] [.bor 1, .bor 1] (same2 hp l3 l _ _ hB3 hB (by omega)) rfl rfl rfl rfl rfl rfl ?_
  rintro v m1 ⟨t2, ht2, rfl, rfl⟩
  have ht2 : t2 = true := by rw [ht2]; simp
  cbv
  refine br_t ht2 ?_
  cbv
  refine .go [] [] [.bor 1] (spoil hp l us hB (by omega) (.sym (I.bin .mul .i64 8 (I.ofNat (I.len l)))) hb8 (.sym q) mask hq) rfl rfl rfl rfl rfl rfl ?_
  rintro v m1 ⟨l4, hB4, rfl, rfl⟩
  have hB4 : isB l4 us := e8 ▸ hB4
  cbv
  refine .go [] [] [.bor 1, .bor 1] (same2 hp l4 l _ _ hB4 hB (by omega)) rfl rfl rfl rfl rfl rfl ?_
  rintro v m1 ⟨t3, ht3, rfl, rfl⟩
  have ht3 : t3 = true := by rw [ht3]; simp
  cbv
  refine br_t ht3 ?_
  cbv
  refine .go [] [] [.bor 1] (spoil hp l us hB (by omega) (.lit (-16)) (by decide) (.sym q) mask hq) rfl rfl rfl rfl rfl rfl ?_
  rintro v m1 ⟨l5, hB5, rfl, rfl⟩
  have hB5 : isB l5 us := e16 ▸ hB5
  cbv
  refine .go [] [] [.bor 1, .bor 1] (same2 hp l5 l _ _ hB5 hB (by omega)) rfl rfl rfl rfl rfl rfl ?_
  rintro v m1 ⟨t4, ht4, rfl, rfl⟩
  have ht4 : t4 = true := by rw [ht4]; simp
  cbv
  refine br_t ht4 ?_
  cbv
  refine .go [] [] [] (wakes P hp) rfl rfl rfl rfl rfl rfl ?_
  rintro v m1 ⟨rfl, rfl⟩
  cbv
  exact hP _ _ [] [] _ _ .nil rfl rfl rfl rfl rfl ⟨_, rfl, rfl⟩
end
end Go.Proofs.Ytdkbcjefbbkbcaa.E
