/- CrcSteps. -/
import Derived.Test.YtdkbcjefbbkbcaaCC
import Derived.Test.YtdkbcjefbbkbcaaCW
namespace Go.Proofs.Ytdkbcjefbbkbcaa.E
open Go
set_option linter.unusedVariables false
set_option maxRecDepth 100000

/-- So far from 7. -/
def isD (z : Int) (k : Nat) : Prop := z = 7 - (k : Int)
theorem byteIs {y : Int} (h : (Lit.int .u8 y).wf = true) : ∃ b : BitVec 8, y = w8 b := by
  have h2 : (decide (IntKind.u8.min ≤ y) && decide (y ≤ IntKind.u8.max)) = true := h
  rw [show IntKind.u8.min = 0 from rfl, show IntKind.u8.max = 255 from rfl] at h2
  have h3 : 0 ≤ y ∧ y ≤ 255 := by simpa using h2
  refine ⟨BitVec.ofNat 8 y.toNat, ?_⟩
  unfold w8
  rw [BitVec.toNat_ofNat, Nat.mod_eq_of_lt (by omega)]
  omega
theorem bit16 (x : BitVec 8) (j : Nat) (hj : j ≤ 7) : IntKind.u16.wrap (rBin .and .u8 (rBin .shr .u8 (w8 x) (j : Int)) 1) = w16 (if x.getLsbD j then 1#16 else 0#16) := by
  show IntKind.u16.wrap (rBin .and .u8 (rBin .shr .u8 (w8 x) (j : Int)) (w8 1#8)) = _
  rw [shr8 _ j (by omega), and8, wide]
  congr 1
  apply BitVec.eq_of_getLsbD_eq
  intro i hi
  simp only [BitVec.getLsbD_setWidth, BitVec.getLsbD_and, BitVec.getLsbD_ushiftRight]
  by_cases h0 : i = 0
  · subst h0
    cases x.getLsbD j <;> simp_all
  · have h1 : (1#8).getLsbD i = false := by
      rw [BitVec.getLsbD_one]
      simp [h0]
    have h2 : (if x.getLsbD j then 1#16 else 0#16).getLsbD i = false := by
      split
      · rw [BitVec.getLsbD_one]
        simp [h0]
      · simp
    rw [h1, h2]
    simp
theorem one_eq (a b : Bool) : rCmp .neq (w16 (if a then 1#16 else 0#16)) (w16 (if b then 1#16 else 0#16)) = (a != b) := by cases a <;> cases b <;> rfl
section
variable {P : Program} (hp : P = Try.prog)
include hp
set_option maxHeartbeats 2000000 in
theorem steps (B0 : List (List G)) (h0 : ∃ us, isB B0 us) (x : Int) (hx : ∃ xb, x = w8 xb) : LValid P 3 [.c (.g (.rows 1 B0)), gi .u8 x] [] (fun v _ => ∃ b : BB, b.val = true ∧ v = .one (.c (.g (.bool b)))) := by
  obtain ⟨us0, h0⟩ := h0
  obtain ⟨xb, hx⟩ := hx
  obtain ⟨I, hI⟩ := ref
  refine fn_sim hI (mo hp) (cc hp c3) fun Post hP => ?_
  cbv
  refine .go [] [] [.bor 1] (cutB hp B0 (.lit 60) 60 rfl (by omega)) rfl rfl rfl rfl rfl rfl ?_
  rintro v m1 ⟨l, hl, rfl, rfl⟩
  obtain ⟨us, hus⟩ : ∃ us, us = us0.take 60 := ⟨_, rfl⟩
  have hB : isB l us := by rw [hl, hus]; exact h0.take 60
  have hul : us.length ≤ 60 := by rw [hus, List.length_take]; omega
  have hll : l.length ≤ 60 := by rw [hB.len]; exact hul
  clear hl hus
  cbv
  refine .go [] [] [.bor 1] (sum hp l us hB (by omega)) rfl rfl rfl rfl rfl rfl ?_
  rintro v m1 ⟨t, ht, rfl, rfl⟩
  cbv
  refine .loop_next (fun n ts m => ∃ (k : Nat) (z r : Int), n = 8 - k ∧ isD z k ∧ k ≤ 8 ∧ r = w16 (gsteps (crcSum us) ((bitsOf xb).take k)) ∧
      ts = fr 41 [(0, .one (.c (.row 0 1 none))), (1, u8 x), (5, u16 r), (6, i64 z)] ∧ m = [.sym 1 l])
    8 _ _ [0] [] [0, 1, 5, 6] (by decide) rfl rfl rfl ⟨0, 7, t, rfl, rfl, by omega, ht, rfl, rfl⟩ ?_
  rintro next n hnext ts m ⟨k, z, r, hn, hz, hk, hr, rfl, rfl⟩
  have hz : z = 7 - (k : Int) := hz
  have hzd : decide (z ≥ 0) = decide (k < 8) := by
    by_cases h : k < 8
    · rw [decide_eq_true h, decide_eq_true (by omega)]
    · rw [decide_eq_false h, decide_eq_false (by omega)]
  have dge : ∀ q : Bool, I.cmp .geq z 0 = q → decide (k < 8) = q := fun q h => by rw [hI] at h; rw [← hzd]; exact h
  have hjx : k < 8 → ∃ j : Nat, z = (j : Int) ∧ j = 7 - k := fun h => ⟨7 - k, by omega, rfl⟩
  have hzx : k < 8 → isD (I.bin .sub .i64 z 1) (k + 1) := fun h => by
    unfold isD
    rw [hI, hz]
    show IntKind.i64.wrap (7 - (k : Int) - 1) = _
    rw [wrap_in] <;> omega
  cbv
  refine .br (fun g1 => ?_) (fun g1 => ?_)
  · have hk1 : k < 8 := of_decide_eq_true (dge _ g1)
    obtain ⟨j, hj, hj7⟩ := hjx hk1
    have hcz : I.conv .u64 z = (j : Int) := by
      rw [hI, hj]
      show IntKind.u64.wrap (j : Int) = _
      rw [IntKind.wrap_u64]
      omega
    have hz1 := hzx hk1
    have hnn : 0 ≤ I.conv .u64 z := by rw [hcz]; omega
    obtain ⟨b, hb⟩ : ∃ b, b = xb.getLsbD j := ⟨_, rfl⟩
    have htake : (bitsOf xb).take (k + 1) = (bitsOf xb).take k ++ [b] := by
      rw [List.take_add_one, bitsOf_get xb k hk1, hb, hj7]
      rfl
    obtain ⟨s, hs⟩ : ∃ s, s = gsteps (crcSum us) ((bitsOf xb).take k) := ⟨_, rfl⟩
    have hg : gsteps (crcSum us) ((bitsOf xb).take (k + 1)) = gstep s b := by rw [htake, gsteps_app, hs]
    rw [← hs] at hr
    have hsl : I.bin .shl .u16 r 1 = w16 (s <<< 1) := by
      rw [hI, hr]
      exact shl16 s 1 (by omega)
    have hd : ∀ q : Bool, I.cmp .neq (I.bin .shr .u16 r 15) (I.conv .u16 (I.bin .and .u8 (I.bin .shr .u8 x (I.conv .u64 z)) 1)) = q → (s.msb != b) = q := fun q h => by
      rw [hcz, hI, hr, hx] at h
      have h' : rCmp .neq (rBin .shr .u16 (w16 s) ((15 : Nat) : Int)) (IntKind.u16.wrap (rBin .and .u8 (rBin .shr .u8 (w8 xb) (j : Int)) 1)) = q := h
      rw [shr16 s 15 (by omega), top16, bit16 xb j (by omega), one_eq, ← hb] at h'
      exact h'
    have hx1 : (s.msb != b) = true → I.bin .xor .u16 (I.bin .shl .u16 r 1) 4129 = w16 (gstep s b) := fun h => by
      rw [hsl, hI]
      show rBin .xor .u16 (w16 (s <<< 1)) (w16 0x1021#16) = _
      rw [xor16]
      unfold gstep
      rw [if_pos h]
    have hx0 : (s.msb != b) = false → I.bin .shl .u16 r 1 = w16 (gstep s b) := fun h => by
      rw [hsl]
      unfold gstep
      rw [if_neg (by rw [h]; decide), BitVec.xor_zero]
    rw [← hg] at hx1 hx0
    clear hzd dge
    cbv
    refine .nonneg hnn ?_
    cbv
    refine .br (fun g2 => ?_) (fun g2 => ?_)
    · have h2 := hx1 (hd _ g2)
      cbv
      exact hnext _ _ (8 - (k + 1)) [0] [] [0, 1, 5, 6] _ _ (by omega) (by decide) rfl rfl rfl ⟨k + 1, _, _, rfl, hz1, hk1, h2, rfl, rfl⟩
    · have h2 := hx0 (hd _ g2)
      cbv
      exact hnext _ _ (8 - (k + 1)) [0] [] [0, 1, 5, 6] _ _ (by omega) (by decide) rfl rfl rfl ⟨k + 1, _, _, rfl, hz1, hk1, h2, rfl, rfl⟩
  have hk1 : k = 8 := by have := of_decide_eq_false (dge _ g1); omega
  have hB2 : isB (I.app l [[.int .u8 (.sym x)]]) (us ++ [xb]) := by rw [hI, hx]; exact hB.app rfl
  have hl2 : I.len (I.app l [[.int .u8 (.sym x)]]) ≤ 61 := by
    have := hB2.len
    rw [hI] at this ⊢
    show List.length _ ≤ _
    rw [this, List.length_append]
    show us.length + 1 ≤ 61
    omega
  have hll8 : l.length * 8 ≤ 140737488355328 := by omega
  generalize hap : I.app l [[.int .u8 (.sym x)]] = lx at hB2 hl2
  cbv
  refine .go [] [] [.bor 1] (copyB hp l hll8) rfl rfl rfl rfl rfl rfl ?_
  rintro v m1 ⟨rfl, rfl⟩
  cbv
  refine .most (show I.len (I.app l [[.int .u8 (.sym x)]]) * 1 ≤ 140737488355328 from by rw [hap]; omega) (show I.len (I.app l [[.int .u8 (.sym x)]]) ≤ 140737488355328 from by rw [hap]; omega) ?_
  cbv
  refine .go [] [] [.bor 1] (sum hp lx _ hB2 (by rw [List.length_append]; show us.length + 1 ≤ _; omega)) rfl rfl rfl rfl (by rw [← hap]; rfl) rfl ?_
  rintro v m1 ⟨t2, ht2, rfl, rfl⟩
  have heq : t2 = r := by rw [ht2, hr, hk1, crcSum_app, byteStep_bits]; rfl
  cbv
  refine br_t (by rw [heq, hI]; simp [ints, rCmp]) ?_
  cbv
  refine .go [] [] [] (wakes P hp) rfl rfl rfl rfl rfl rfl ?_
  rintro v m1 ⟨rfl, rfl⟩
  cbv
  exact hP _ _ [] [] _ _ .nil rfl rfl rfl rfl rfl ⟨_, rfl, rfl⟩
end
end Go.Proofs.Ytdkbcjefbbkbcaa.E
