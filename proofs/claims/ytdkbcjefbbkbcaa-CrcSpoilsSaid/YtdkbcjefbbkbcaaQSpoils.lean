/- CrcSpoils. -/
import Derived.Test.YtdkbcjefbbkbcaaQFinds
namespace Go.Proofs.Ytdkbcjefbbkbcaa.E
open Go
set_option linter.unusedVariables false
set_option maxRecDepth 100000

theorem bit8 (x : BitVec 8) (j : Nat) (hj : j ≤ 7) : (rBin .and .u8 (rBin .shr .u8 (w8 x) (j : Int)) 1 == 1) = x.getLsbD j := by
  have h := bit16 x j hj
  have h2 : ∀ y : BitVec 8, IntKind.u16.wrap (w8 y) = w8 y := fun y => by have := w8_in y; rw [u16w]; omega
  have h3 : rBin .and .u8 (rBin .shr .u8 (w8 x) (j : Int)) 1 = w8 ((x >>> j) &&& 1#8) := by
    show rBin .and .u8 (rBin .shr .u8 (w8 x) (j : Int)) (w8 1#8) = _
    rw [shr8 _ j (by omega), and8]
  rw [h3, h2] at h
  rw [h3, h]
  cases x.getLsbD j <;> rfl
theorem bitm (x : BitVec 16) (j : Nat) (hj : j ≤ 15) : (rBin .and .u16 (rBin .shr .u16 (w16 x) (j : Int)) 1 == 1) = x.getLsbD j := by
  show (rBin .and .u16 (rBin .shr .u16 (w16 x) (j : Int)) (w16 1#16) == w16 1#16) = _
  rw [shr16 _ j (by omega), and16]
  have h : (x >>> j) &&& 1#16 = if x.getLsbD j then 1#16 else 0#16 := by
    apply BitVec.eq_of_getLsbD_eq
    intro i hi
    simp only [BitVec.getLsbD_and, BitVec.getLsbD_ushiftRight]
    by_cases h0 : i = 0
    · subst h0
      cases x.getLsbD j <;> simp_all
    · have h1 : (1#16).getLsbD i = false := by
        rw [BitVec.getLsbD_one]
        simp [h0]
      have h2 : (if x.getLsbD j then 1#16 else 0#16).getLsbD i = false := by
        split
        · exact h1
        · simp
      rw [h1, h2]
      simp
  rw [h]
  cases x.getLsbD j <;> rfl
/-- The numbers of the loop's round. -/
theorem spoil_nums {z bit : Int} {k n : Nat} (hz : isN z k) (hk : k < 8 * n) (hn : n ≤ 40) (hb : -20 ≤ bit ∧ bit ≤ 400) :
    ints.bin .quo .i64 z 8 = ((k / 8 : Nat) : Int) ∧ k / 8 < n ∧ ints.conv .u64 (ints.bin .sub .i64 7 (ints.bin .rem .i64 z 8)) = ((7 - k % 8 : Nat) : Int) ∧ ints.bin .sub .i64 z bit = (k : Int) - bit ∧
    ints.conv .u64 (ints.bin .sub .i64 15 (ints.mx (ints.mn (ints.bin .sub .i64 z bit) 15) 0)) = ((15 - (max (min ((k : Int) - bit) 15) 0).toNat : Nat) : Int) := by
  unfold isN at hz
  subst hz
  have h1 : ((k : Int)).tdiv 8 = ((k / 8 : Nat) : Int) := by
    rw [Int.tdiv_eq_ediv_of_nonneg (by omega)]
    omega
  have h2 : ((k : Int)).tmod 8 = ((k % 8 : Nat) : Int) := by
    rw [Int.tmod_eq_emod_of_nonneg (by omega)]
    omega
  have e : ints.bin .sub .i64 (k : Int) bit = (k : Int) - bit := by
    show IntKind.i64.wrap ((k : Int) - bit) = _
    rw [wrap_in] <;> omega
  refine ⟨?_, by omega, ?_, e, ?_⟩
  · show IntKind.i64.wrap (((k : Int)).tdiv 8) = _
    rw [h1, wrap_in] <;> omega
  · show IntKind.u64.wrap (IntKind.i64.wrap (7 - ((k : Int)).tmod 8)) = _
    rw [h2, wrap_in _ (by omega) (by omega), IntKind.wrap_u64]
    omega
  · rw [e]
    have h3 : ints.mx (ints.mn ((k : Int) - bit) 15) 0 = max (min ((k : Int) - bit) 15) 0 := by
      show (if (0 : Int) > (if (15 : Int) < (k : Int) - bit then 15 else (k : Int) - bit) then 0 else (if (15 : Int) < (k : Int) - bit then 15 else (k : Int) - bit)) = _
      split <;> split <;> omega
    rw [h3]
    show IntKind.u64.wrap (IntKind.i64.wrap (15 - max (min ((k : Int) - bit) 15) 0)) = _
    rw [wrap_in _ (by omega) (by omega), IntKind.wrap_u64]
    omega
section
variable {P : Program} (hp : P = Try.prog)
include hp
set_option maxHeartbeats 4000000 in
theorem spoils (B0 : List (List G)) (h0 : ∃ us, isB B0 us) (bit : Int) (q : Int) (hq : ∃ mask, q = w16 mask) : LValid P 6 [.c (.g (.rows 1 B0)), gi .i64 bit, gi .u16 q] [] (fun v _ => ∃ b : BB, b.val = true ∧ v = .one (.c (.g (.bool b)))) := by
  obtain ⟨us0, h0⟩ := h0
  obtain ⟨mask, hq⟩ := hq
  obtain ⟨I, hI⟩ := ref
  refine fn_sim hI (mo hp) (cc hp c6) fun Post hP => ?_
  cbv
  refine .go [] [] [.bor 1] (cut2 hp B0 us0 h0 (.lit 40) 40 rfl (by omega)) rfl rfl rfl rfl rfl rfl ?_
  rintro v m1 ⟨l, us, hul, hB, rfl, rfl⟩
  have hl : I.len l = us.length := by rw [hI]; exact hB.len
  have hmul : isN (I.bin .mul .i64 8 (I.ofNat (I.len l))) (8 * us.length) := by
    unfold isN
    rw [hl, hI]
    show IntKind.i64.wrap (8 * (us.length : Int)) = _
    rw [wrap_in] <;> omega
  have hadd : isN (I.bin .add .i64 (I.bin .mul .i64 8 (I.ofNat (I.len l))) 24) (8 * us.length + 24) := by
    unfold isN at hmul ⊢
    rw [hmul, hI]
    show IntKind.i64.wrap (((8 * us.length : Nat) : Int) + 24) = _
    rw [wrap_in] <;> omega
  cbv
  refine .go [] [] [] (within hp _ _) rfl rfl rfl rfl rfl rfl ?_
  rintro r m1 ⟨y, hy, rfl, rfl⟩
  have hy : y = win bit (I.bin .add .i64 (I.bin .mul .i64 8 (I.ofNat (I.len l))) 24) := hy
  have hadd2 : I.bin .add .i64 (I.bin .mul .i64 8 (I.ofNat (I.len l))) 24 = ((8 * us.length + 24 : Nat) : Int) := hadd
  have hyr : 0 ≤ y ∧ y < ((8 * us.length + 24 : Nat) : Int) := by rw [hy, hadd2]; exact win_in _ _ (by omega) (by omega)
  have hsub : I.bin .sub .i64 y 20 = y - 20 := by
    rw [hI]
    show IntKind.i64.wrap (y - 20) = _
    rw [wrap_in] <;> omega
  have hbr : -20 ≤ I.bin .sub .i64 y 20 ∧ I.bin .sub .i64 y 20 ≤ 400 := by rw [hsub]; omega
  clear hyr hsub hy
  generalize hbt : I.bin .sub .i64 y 20 = bt at hbr
  have hbw : -9223372036854775808 ≤ bt ∧ bt ≤ 9223372036854775807 := by omega
  cbv
  refine .go [] [] [.bor 1] (spoil hp l us hB (by omega) (.sym bt) hbw (.sym q) mask hq) rfl rfl rfl rfl (by rw [← hbt]; rfl) rfl ?_
  rintro v m1 ⟨l1, hB1, rfl, rfl⟩
  have hB1 : isB l1 (spoilt mask bt 0 us) := hB1
  have hl1 : I.len l1 = us.length := by rw [hI]; exact hB1.len.trans (spoilt_len _ _ _ _)
  cbv
  refine br_f (show I.cmp .neq (I.ofNat (I.len l1)) (I.ofNat (I.len l)) = false from by rw [hl, hl1, hI]; simp [ints, rCmp]) ?_
  cbv
  refine .loop_next (fun nn ts m => ∃ (k : Nat) (z : Int), nn = 8 * us.length - k ∧ isN z k ∧ k ≤ 8 * us.length ∧
      ts = fr 77 [(0, .one (.c (.row 0 1 none))), (1, i64 bt), (2, u16 q), (7, .one (.c (.row 1 1 none))), (8, i64 z)] ∧ m = [.sym 1 l, .sym 1 l1])
    (8 * us.length) _ _ [0, 1] [] [0, 1, 2, 7, 8] (by decide) rfl (by rw [← hbt]; rfl) rfl ⟨0, 0, rfl, rfl, Nat.zero_le _, rfl, rfl⟩ ?_
  rintro next nn hnext ts m ⟨k, z, hnn, hz, hk, rfl, rfl⟩
  have dlt : ∀ q : Bool, I.cmp .lss z (I.bin .mul .i64 8 (I.ofNat (I.len l))) = q → decide (k < 8 * us.length) = q := fun q h => by
    have hmul2 : I.bin .mul .i64 8 (I.ofNat (I.len l)) = ((8 * us.length : Nat) : Int) := hmul
    rw [hmul2, hI] at h
    unfold isN at hz
    rw [hz] at h
    rw [← h]
    show _ = decide (((k : Nat) : Int) < _)
    by_cases hk2 : k < 8 * us.length
    · rw [decide_eq_true hk2, decide_eq_true (by omega)]
    · rw [decide_eq_false hk2, decide_eq_false (by omega)]
  have hz1 : isN (I.bin .add .i64 z 1) (k + 1) := by unfold isN at hz ⊢; rw [hI]; simp only [ints, rBin]; rw [wrap_in] <;> omega
  cbv
  refine .br (fun g1 => ?_) (fun g1 => ?_)
  · have hk1 : k < 8 * us.length := of_decide_eq_true (dlt _ g1)
    obtain ⟨n1, n2, n3, n4, n5⟩ := spoil_nums hz hk1 hul hbr
    rw [← hI] at n1 n3 n4 n5
    obtain ⟨b, hb⟩ : ∃ b, us[k / 8]? = some b := ⟨_, List.getElem?_eq_getElem n2⟩
    have hs := spoilt_get mask bt us 0 (k / 8)
    rw [hb, Nat.zero_add, Option.map_some] at hs
    have hr0 := hB.get hb
    have hr1 := hB1.get hs
    have hT : I.cmp .eql (I.bin .and .u8 (I.bin .shr .u8 (I.bin .xor .u8 (w8 b) (w8 (b ^^^ pat mask bt (k / 8)))) (I.conv .u64 (I.bin .sub .i64 7 (I.bin .rem .i64 z 8)))) 1) 1 = turned mask bt k := by
      rw [n3, hI]
      show (rBin .and .u8 (rBin .shr .u8 (rBin .xor .u8 (w8 b) (w8 (b ^^^ pat mask bt (k / 8)))) ((7 - k % 8 : Nat) : Int)) 1 == 1) = _
      rw [xor8, xself, bit8 _ _ (by omega), pat_get mask bt (k / 8) (k % 8) (by omega)]
      congr 1
      omega
    have hd0 : ∀ x : Bool, I.cmp .geq (I.bin .sub .i64 z bt) 0 = x → decide (0 ≤ (k : Int) - bt) = x := fun x h => by rw [n4, hI] at h; exact h
    have hd16 : ∀ x : Bool, I.cmp .lss (I.bin .sub .i64 z bt) 16 = x → decide ((k : Int) - bt < 16) = x := fun x h => by rw [n4, hI] at h; exact h
    have hM : decide (0 ≤ (k : Int) - bt) = true → decide ((k : Int) - bt < 16) = true → I.cmp .eql (I.bin .and .u16 (I.bin .shr .u16 q (I.conv .u64 (I.bin .sub .i64 15 (I.mx (I.mn (I.bin .sub .i64 z bt) 15) 0)))) 1) 1 = turned mask bt k := fun e1 e2 => by
      have e1' := of_decide_eq_true e1
      have e2' := of_decide_eq_true e2
      rw [n5, hI, hq]
      show (rBin .and .u16 (rBin .shr .u16 (w16 mask) ((15 - (max (min ((k : Int) - bt) 15) 0).toNat : Nat) : Int)) 1 == 1) = _
      rw [bitm _ _ (by omega)]
      unfold turned
      rw [e1, e2, Bool.true_and, Bool.true_and]
      congr 1
      omega
    have hn0 : decide (0 ≤ (k : Int) - bt) = false → turned mask bt k = false := fun e => by unfold turned; rw [e]; rfl
    have hn16 : decide ((k : Int) - bt < 16) = false → turned mask bt k = false := fun e => by unfold turned; rw [e]; simp
    have hsh1 : 0 ≤ I.conv .u64 (I.bin .sub .i64 7 (I.bin .rem .i64 z 8)) := by rw [n3]; omega
    have hsh2 : 0 ≤ I.conv .u64 (I.bin .sub .i64 15 (I.mx (I.mn (I.bin .sub .i64 z bt) 15) 0)) := by rw [n5]; omega
    have hi0 : k / 8 < I.len l := by rw [hl]; exact n2
    have hi1 : k / 8 < I.len l1 := by rw [hl1]; exact n2
    have hbq : ∀ x y : Bool, x = y → I.not (I.beq x y) = false := fun x y e => by rw [e, hI]; simp [ints]
    generalize turned mask bt k = tk at hT hM hn0 hn16
    generalize w8 b = wa at hr0 hT
    generalize w8 (b ^^^ pat mask bt (k / 8)) = wb at hr1 hT
    generalize k / 8 = k8 at n1 hr0 hr1 hi0 hi1
    generalize hd0' : decide (0 ≤ (k : Int) - bt) = p0 at hd0 hM hn0
    generalize hd16' : decide ((k : Int) - bt < 16) = p16 at hd16 hM hn16
    clear dlt n3 n4 n5 hd0' hd16'
    cbv
    refine .drawn [] ?_
    cbv
    refine .idx k8 n1 hi0 (.nth _ hr0 ?_)
    cbv
    refine .idx k8 n1 hi1 (.nth _ hr1 ?_)
    cbv
    refine .nonneg hsh1 ?_
    cbv
    refine .br (fun g2 => ?_) (fun g2 => ?_)
    · have e1 := hd0 _ g2
      cbv
      refine .br (fun g3 => ?_) (fun g3 => ?_)
      · have e2 := hd16 _ g3
        have hfin := hbq _ _ (hT.trans (hM e1 e2).symm)
        cbv
        refine .nonneg hsh2 ?_
        cbv
        refine br_f hfin ?_
        cbv
        exact hnext _ _ (8 * us.length - (k + 1)) [0, 1] [] [0, 1, 2, 7, 8] _ _ (by omega) (by decide) rfl rfl rfl ⟨k + 1, _, rfl, hz1, hk1, rfl, rfl⟩
      · have hfin := hbq _ _ (hT.trans (hn16 (hd16 _ g3)))
        cbv
        refine br_f hfin ?_
        cbv
        exact hnext _ _ (8 * us.length - (k + 1)) [0, 1] [] [0, 1, 2, 7, 8] _ _ (by omega) (by decide) rfl rfl rfl ⟨k + 1, _, rfl, hz1, hk1, rfl, rfl⟩
    · have hfin := hbq _ _ (hT.trans (hn0 (hd0 _ g2)))
      cbv
      refine br_f hfin ?_
      cbv
      exact hnext _ _ (8 * us.length - (k + 1)) [0, 1] [] [0, 1, 2, 7, 8] _ _ (by omega) (by decide) rfl rfl rfl ⟨k + 1, _, rfl, hz1, hk1, rfl, rfl⟩
  · cbv
    refine .go [] [] [] (wakes P hp) rfl rfl rfl rfl rfl rfl ?_
    rintro v m1 ⟨rfl, rfl⟩
    cbv
    exact hP _ _ [] [] _ _ .nil rfl rfl rfl rfl rfl ⟨_, rfl, rfl⟩
end
end Go.Proofs.Ytdkbcjefbbkbcaa.E
