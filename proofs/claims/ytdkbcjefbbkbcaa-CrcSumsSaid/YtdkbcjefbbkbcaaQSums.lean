/- CrcSums. -/
import Derived.Test.YtdkbcjefbbkbcaaCL
import Derived.Test.YtdkbcjefbbkbcaaQFinds
namespace Go.Proofs.Ytdkbcjefbbkbcaa.E
open Go
set_option linter.unusedVariables false
set_option maxRecDepth 100000

section
variable {P : Program} (hp : P = Try.prog)
include hp
set_option maxHeartbeats 20000000 in
theorem sums (B0 : List (List G)) (h0 : ∃ us, isB B0 us) (bit : Int) (hbit : -9223372036854775808 ≤ bit ∧ bit ≤ 9223372036854775807) (q : Int) (hq : ∃ mask, q = w16 mask) (cut : Int) : LValid P 8 [.c (.g (.rows 1 B0)), gi .i64 bit, gi .u16 q, gi .i64 cut] [] (fun v _ => ∃ b : BB, b.val = true ∧ v = .one (.c (.g (.bool b)))) := by
  obtain ⟨us0, h0⟩ := h0
  obtain ⟨mask, hq⟩ := hq
  obtain ⟨I, hI⟩ := ref
  refine fn_sim hI (mo hp) (ccj hp c8) fun Post hP => ?_
  cbv
  refine .go [] [] [.bor 1] (cut2 hp B0 us0 h0 (.lit 80) 80 rfl (by omega)) rfl rfl rfl rfl rfl rfl ?_
  rintro v m1 ⟨l, us, hul, hB, rfl, rfl⟩
  cbv
  refine .go [] [] [.bor 1] (lend hp l us hB (by omega)) rfl rfl rfl rfl rfl rfl ?_
  rintro v m1 ⟨L, n, c, hn, hc, hLL, rfl, rfl⟩
  have hX : isB (I.ext L 0 n) us := by
    rw [hI]
    have := hLL.take n
    rw [hn, List.take_append_of_le_length (Nat.le_refl _), List.take_length] at this
    rw [hn]
    exact this
  cbv
  refine .go [] [] [.bor 1] (sum hp (I.ext L 0 n) us hX (by omega)) rfl rfl rfl rfl rfl rfl ?_
  rintro v m1 ⟨t, ht1, rfl, rfl⟩
  cbv
  refine .go [] [] [.bor 1] (rsum hp l us hB (by omega)) rfl rfl rfl rfl rfl rfl ?_
  rintro v m1 ⟨t2, ht2, rfl, rfl⟩
  cbv
  refine br_f (show I.cmp .neq t t2 = false from by rw [ht1, ht2, hI]; show (_ != _) = false; simp) ?_
  cbv
  refine .go [] [] [.bor 1] (seal_ hp (I.ext L 0 n) us hX (by omega)) rfl rfl rfl rfl rfl rfl ?_
  rintro v m1 ⟨l1, hB1, rfl, rfl⟩
  cbv
  refine .go [] [] [.bor 1] (rseal hp l us hB (by omega)) rfl rfl rfl rfl rfl rfl ?_
  rintro v m1 ⟨l2, hB2, rfl, rfl⟩
  cbv
  refine .go [] [] [.bor 1, .bor 1] (same2 hp l1 l2 _ _ hB1 hB2 (by rw [sealB_len]; omega)) rfl rfl rfl rfl rfl rfl ?_
  rintro v m1 ⟨t, ht, rfl, rfl⟩
  have ht : t = true := by rw [ht]; simp
  cbv
  refine br_f (by rw [ht, hI]; rfl) ?_
  cbv
  refine .go [1] [] [.keep, .bor 1] (intact hp L l us hLL hB (by omega) n c hn hc) rfl rfl rfl rfl rfl rfl ?_
  rintro v m1 ⟨rfl, rfl⟩
  cbv
  refine br_f (by rw [hI]; rfl) ?_
  cbv
  refine .join_next (fun ts m => ∃ bt : Int, (-9223372036854775808 ≤ bt ∧ bt ≤ 9223372036854775807) ∧ ts = fr 108 [(0, .one (.c (.row 0 1 none))), (1, i64 bt), (2, u16 q), (3, i64 cut), (9, .one (.c (.sl 1 (.lit 0) 1 (.sym n) (some (.sym c)))))] ∧ m = [.sym 1 l, .sym 1 L]) ?_ ?_
  · intro next hnx
    cbv
    refine .br (fun g0 => ?_) (fun g0 => ?_)
    · cbv
      refine .go [] [] [] (within hp _ _) rfl rfl rfl rfl rfl rfl ?_
      rintro r m1 ⟨y, hy, rfl, rfl⟩
      have hbb : -9223372036854775808 ≤ I.bin .sub .i64 y 20 ∧ I.bin .sub .i64 y 20 ≤ 9223372036854775807 := by rw [hI]; exact wrap_b _
      cbv
      exact hnx _ _ [0, 1] [] [0, 1, 2, 3, 9] _ _ (by decide) rfl rfl rfl ⟨_, hbb, rfl, rfl⟩
    · cbv
      exact hnx _ _ [0, 1] [] [0, 1, 2, 3, 9] _ _ (by decide) rfl rfl rfl ⟨_, hbit, rfl, rfl⟩
  clear hbit
  rintro ts m ⟨bt, hbt, rfl, rfl⟩
  cbv
  refine .go [] [] [.bor 1] (spoil hp (I.ext L 0 n) us hX (by omega) (.sym bt) hbt (.sym q) mask hq) rfl rfl rfl rfl rfl rfl ?_
  rintro v m1 ⟨ls, hBs, rfl, rfl⟩
  have hBs : isB ls (spoilt mask bt 0 us) := hBs
  cbv
  refine .go [] [] [.bor 1] (rspoil hp l us hB (by omega) (.sym bt) hbt (.sym q) mask hq) rfl rfl rfl rfl rfl rfl ?_
  rintro v m1 ⟨lr, hBr, rfl, rfl⟩
  have hBr : isB lr (spoilt mask bt 0 us) := hBr
  cbv
  refine .go [] [] [.bor 1, .bor 1] (same2 hp ls lr _ _ hBs hBr (by rw [spoilt_len]; omega)) rfl rfl rfl rfl rfl rfl ?_
  rintro v m1 ⟨t, ht, rfl, rfl⟩
  have ht : t = true := by rw [ht]; simp
  cbv
  refine br_f (by rw [ht, hI]; rfl) ?_
  cbv
  refine .go [1] [] [.keep, .bor 1] (intact hp L l us hLL hB (by omega) n c hn hc) rfl rfl rfl rfl rfl rfl ?_
  rintro v m1 ⟨rfl, rfl⟩
  cbv
  refine br_f (by rw [hI]; rfl) ?_
  cbv
  refine .go [] [] [.bor 1] (rseal hp l us hB (by omega)) rfl rfl rfl rfl rfl rfl ?_
  rintro v m1 ⟨lc, hBc0, rfl, rfl⟩
  have hcl : I.len lc = us.length + 2 := by rw [hI]; exact hBc0.len.trans (sealB_len us)
  cbv
  refine .go [] [] [] (within hp _ _) rfl rfl rfl rfl rfl rfl ?_
  rintro r m1 ⟨y, hy, rfl, rfl⟩
  have hy : y = win cut (I.bin .add .i64 (I.ofNat (I.len lc)) 1) := hy
  have hy2 : 0 ≤ y ∧ y < (us.length : Int) + 3 := by
    rw [hcl, hI] at hy
    have e : ints.bin .add .i64 (ints.ofNat (us.length + 2)) 1 = (us.length : Int) + 3 := by
      show IntKind.i64.wrap (((us.length + 2 : Nat) : Int) + 1) = _
      rw [wrap_in] <;> omega
    rw [e] at hy
    rw [hy]
    exact win_in _ _ (by omega) (by omega)
  have h9 : ∃ kk : Nat, y = (kk : Int) := ⟨y.toNat, by omega⟩
  obtain ⟨kk, hkk⟩ := h9
  have hkl : kk ≤ I.len lc := by rw [hcl]; omega
  have hBc : isB (I.ext lc 0 kk) ((sealB us).take kk) := by rw [hI]; exact hBc0.take kk
  have hkl2 : kk ≤ us.length + 2 := by omega
  clear hy hy2
  cbv
  refine .rng 0 kk rfl hkk (Nat.zero_le _) hkl ?_
  cbv
  refine .go [] [] [.bor 1] (rseal hp l us hB (by omega)) rfl rfl rfl rfl rfl rfl ?_
  rintro v m1 ⟨l5, hB5, rfl, rfl⟩
  cbv
  refine .go [] [] [.bor 1] (rspoil hp l5 _ hB5 (by rw [sealB_len]; omega) (.sym bt) hbt (.sym q) mask hq) rfl rfl rfl rfl rfl rfl ?_
  rintro v m1 ⟨lx, hBx, rfl, rfl⟩
  have hBx : isB lx (spoilt mask bt 0 (sealB us)) := hBx
  have hsl := sealB_len us
  cbv
  refine .loop_next (fun w ts m => ∃ (k : Nat) (z c2 : Int), w = 4 - k ∧ isN z k ∧ k ≤ 4 ∧ isN c2 4 ∧ ts = fr 108 [(81, .one (.c (.row 4 1 (some (.lit 4))))), (82, i64 c2), (83, i64 z)] ∧
      m = [.sym 1 l, .sym 1 ls, .sym 1 lc, .sym 1 lx, .lit 1 [[.row 0 1 none], [.row 1 1 none], [.sl 2 (.lit 0) 1 (.sym kk) none], [.row 3 1 none]]])
    4 _ _ [0, 2, 4, 6, 7] [] [81, 82, 83] (by decide) rfl rfl rfl ⟨0, 0, 4, rfl, rfl, by omega, rfl, rfl, rfl⟩ ?_
  rintro next w hnext ts m ⟨k, z, c2, hw, hz, hk, hc2, rfl, rfl⟩
  have hz1 : isN (I.bin .add .i64 z 1) (k + 1) := by unfold isN at hz ⊢; rw [hI]; simp only [ints, rBin]; rw [wrap_in] <;> omega
  cbv
  refine .br (fun g1 => ?_) (fun g1 => ?_)
  · have hk1 : k < 4 := by
      have : z < c2 := by simpa [hI, ints, rCmp] using g1
      unfold isN at hz hc2
      omega
    clear hk g1
    match k, hk1 with
    | 0, _ =>
      cbv
      refine .idx 0 hz (by decide) ?_
      cbv
      refine .go [] [] [.bor 1] (open_ hp l _ hB (by omega)) rfl rfl rfl rfl rfl rfl ?_
      rintro v m1 (⟨h2, hs, l3, hB3, rfl, rfl⟩ | ⟨hs, rfl, rfl⟩)
      · cbv
        refine .go [] [] [.bor 1] (ropen hp l _ hB (by omega)) rfl rfl rfl rfl rfl rfl ?_
        rintro v m1 (⟨_, _, l4, hB4, rfl, rfl⟩ | ⟨hno, rfl, rfl⟩)
        · cbv
          refine br_f (show I.not (I.beq true true) = false from by rw [hI]; rfl) ?_
          cbv
          refine .go [] [] [.bor 1, .bor 1] (same2 hp l3 l4 _ _ hB3 hB4 (by first | (simp only [List.length_take, spoilt_len]; omega) | (simp only [List.length_take]; omega))) rfl rfl rfl rfl rfl rfl ?_
          rintro v m1 ⟨t, ht, rfl, rfl⟩
          have ht : t = true := by rw [ht]; simp
          cbv
          refine br_f (by rw [ht, hI]; rfl) ?_
          cbv
          exact hnext _ _ (4 - (0 + 1)) [0, 1, 2, 3, 4] [] [81, 82, 83] _ _ (by omega) (by decide) rfl rfl rfl ⟨0 + 1, _, c2, rfl, hz1, by omega, hc2, rfl, rfl⟩
        · exact absurd ⟨h2, hs⟩ hno
      · cbv
        refine .go [] [] [.bor 1] (ropen hp l _ hB (by omega)) rfl rfl rfl rfl rfl rfl ?_
        rintro v m1 (⟨h2, hs2, l4, hB4, rfl, rfl⟩ | ⟨_, rfl, rfl⟩)
        · exact absurd ⟨h2, hs2⟩ hs
        · cbv
          refine br_f (show I.not (I.beq false false) = false from by rw [hI]; rfl) ?_
          cbv
          refine .go [] [] [.bor 1, .bor 1] (same2 hp [] [] [] [] rfl rfl (by simp)) rfl rfl rfl rfl rfl rfl ?_
          rintro v m1 ⟨t, ht, rfl, rfl⟩
          have ht : t = true := by rw [ht]; simp
          cbv
          refine br_f (by rw [ht, hI]; rfl) ?_
          cbv
          exact hnext _ _ (4 - (0 + 1)) [0, 1, 2, 3, 4] [] [81, 82, 83] _ _ (by omega) (by decide) rfl rfl rfl ⟨0 + 1, _, c2, rfl, hz1, by omega, hc2, rfl, rfl⟩
    | 1, _ =>
      cbv
      refine .idx 1 hz (by decide) ?_
      cbv
      refine .go [] [] [.bor 1] (open_ hp ls _ hBs (by rw [spoilt_len]; omega)) rfl rfl rfl rfl rfl rfl ?_
      rintro v m1 (⟨h2, hs, l3, hB3, rfl, rfl⟩ | ⟨hs, rfl, rfl⟩)
      · cbv
        refine .go [] [] [.bor 1] (ropen hp ls _ hBs (by rw [spoilt_len]; omega)) rfl rfl rfl rfl rfl rfl ?_
        rintro v m1 (⟨_, _, l4, hB4, rfl, rfl⟩ | ⟨hno, rfl, rfl⟩)
        · cbv
          refine br_f (show I.not (I.beq true true) = false from by rw [hI]; rfl) ?_
          cbv
          refine .go [] [] [.bor 1, .bor 1] (same2 hp l3 l4 _ _ hB3 hB4 (by first | (simp only [List.length_take, spoilt_len]; omega) | (simp only [List.length_take]; omega))) rfl rfl rfl rfl rfl rfl ?_
          rintro v m1 ⟨t, ht, rfl, rfl⟩
          have ht : t = true := by rw [ht]; simp
          cbv
          refine br_f (by rw [ht, hI]; rfl) ?_
          cbv
          exact hnext _ _ (4 - (1 + 1)) [0, 1, 2, 3, 4] [] [81, 82, 83] _ _ (by omega) (by decide) rfl rfl rfl ⟨1 + 1, _, c2, rfl, hz1, by omega, hc2, rfl, rfl⟩
        · exact absurd ⟨h2, hs⟩ hno
      · cbv
        refine .go [] [] [.bor 1] (ropen hp ls _ hBs (by rw [spoilt_len]; omega)) rfl rfl rfl rfl rfl rfl ?_
        rintro v m1 (⟨h2, hs2, l4, hB4, rfl, rfl⟩ | ⟨_, rfl, rfl⟩)
        · exact absurd ⟨h2, hs2⟩ hs
        · cbv
          refine br_f (show I.not (I.beq false false) = false from by rw [hI]; rfl) ?_
          cbv
          refine .go [] [] [.bor 1, .bor 1] (same2 hp [] [] [] [] rfl rfl (by simp)) rfl rfl rfl rfl rfl rfl ?_
          rintro v m1 ⟨t, ht, rfl, rfl⟩
          have ht : t = true := by rw [ht]; simp
          cbv
          refine br_f (by rw [ht, hI]; rfl) ?_
          cbv
          exact hnext _ _ (4 - (1 + 1)) [0, 1, 2, 3, 4] [] [81, 82, 83] _ _ (by omega) (by decide) rfl rfl rfl ⟨1 + 1, _, c2, rfl, hz1, by omega, hc2, rfl, rfl⟩
    | 2, _ =>
      cbv
      refine .idx 2 hz (by decide) ?_
      cbv
      refine .go [] [] [.bor 1] (open_ hp (I.ext lc 0 kk) _ hBc (by rw [List.length_take]; omega)) rfl rfl rfl rfl rfl rfl ?_
      rintro v m1 (⟨h2, hs, l3, hB3, rfl, rfl⟩ | ⟨hs, rfl, rfl⟩)
      · cbv
        refine .go [] [] [.bor 1] (ropen hp (I.ext lc 0 kk) _ hBc (by rw [List.length_take]; omega)) rfl rfl rfl rfl rfl rfl ?_
        rintro v m1 (⟨_, _, l4, hB4, rfl, rfl⟩ | ⟨hno, rfl, rfl⟩)
        · cbv
          refine br_f (show I.not (I.beq true true) = false from by rw [hI]; rfl) ?_
          cbv
          refine .go [] [] [.bor 1, .bor 1] (same2 hp l3 l4 _ _ hB3 hB4 (by first | (simp only [List.length_take, spoilt_len]; omega) | (simp only [List.length_take]; omega))) rfl rfl rfl rfl rfl rfl ?_
          rintro v m1 ⟨t, ht, rfl, rfl⟩
          have ht : t = true := by rw [ht]; simp
          cbv
          refine br_f (by rw [ht, hI]; rfl) ?_
          cbv
          exact hnext _ _ (4 - (2 + 1)) [0, 1, 2, 3, 4] [] [81, 82, 83] _ _ (by omega) (by decide) rfl rfl rfl ⟨2 + 1, _, c2, rfl, hz1, by omega, hc2, rfl, rfl⟩
        · exact absurd ⟨h2, hs⟩ hno
      · cbv
        refine .go [] [] [.bor 1] (ropen hp (I.ext lc 0 kk) _ hBc (by rw [List.length_take]; omega)) rfl rfl rfl rfl rfl rfl ?_
        rintro v m1 (⟨h2, hs2, l4, hB4, rfl, rfl⟩ | ⟨_, rfl, rfl⟩)
        · exact absurd ⟨h2, hs2⟩ hs
        · cbv
          refine br_f (show I.not (I.beq false false) = false from by rw [hI]; rfl) ?_
          cbv
          refine .go [] [] [.bor 1, .bor 1] (same2 hp [] [] [] [] rfl rfl (by simp)) rfl rfl rfl rfl rfl rfl ?_
          rintro v m1 ⟨t, ht, rfl, rfl⟩
          have ht : t = true := by rw [ht]; simp
          cbv
          refine br_f (by rw [ht, hI]; rfl) ?_
          cbv
          exact hnext _ _ (4 - (2 + 1)) [0, 1, 2, 3, 4] [] [81, 82, 83] _ _ (by omega) (by decide) rfl rfl rfl ⟨2 + 1, _, c2, rfl, hz1, by omega, hc2, rfl, rfl⟩
    | 3, _ =>
      cbv
      refine .idx 3 hz (by decide) ?_
      cbv
      refine .go [] [] [.bor 1] (open_ hp lx _ hBx (by rw [spoilt_len]; omega)) rfl rfl rfl rfl rfl rfl ?_
      rintro v m1 (⟨h2, hs, l3, hB3, rfl, rfl⟩ | ⟨hs, rfl, rfl⟩)
      · cbv
        refine .go [] [] [.bor 1] (ropen hp lx _ hBx (by rw [spoilt_len]; omega)) rfl rfl rfl rfl rfl rfl ?_
        rintro v m1 (⟨_, _, l4, hB4, rfl, rfl⟩ | ⟨hno, rfl, rfl⟩)
        · cbv
          refine br_f (show I.not (I.beq true true) = false from by rw [hI]; rfl) ?_
          cbv
          refine .go [] [] [.bor 1, .bor 1] (same2 hp l3 l4 _ _ hB3 hB4 (by first | (simp only [List.length_take, spoilt_len]; omega) | (simp only [List.length_take]; omega))) rfl rfl rfl rfl rfl rfl ?_
          rintro v m1 ⟨t, ht, rfl, rfl⟩
          have ht : t = true := by rw [ht]; simp
          cbv
          refine br_f (by rw [ht, hI]; rfl) ?_
          cbv
          exact hnext _ _ (4 - (3 + 1)) [0, 1, 2, 3, 4] [] [81, 82, 83] _ _ (by omega) (by decide) rfl rfl rfl ⟨3 + 1, _, c2, rfl, hz1, by omega, hc2, rfl, rfl⟩
        · exact absurd ⟨h2, hs⟩ hno
      · cbv
        refine .go [] [] [.bor 1] (ropen hp lx _ hBx (by rw [spoilt_len]; omega)) rfl rfl rfl rfl rfl rfl ?_
        rintro v m1 (⟨h2, hs2, l4, hB4, rfl, rfl⟩ | ⟨_, rfl, rfl⟩)
        · exact absurd ⟨h2, hs2⟩ hs
        · cbv
          refine br_f (show I.not (I.beq false false) = false from by rw [hI]; rfl) ?_
          cbv
          refine .go [] [] [.bor 1, .bor 1] (same2 hp [] [] [] [] rfl rfl (by simp)) rfl rfl rfl rfl rfl rfl ?_
          rintro v m1 ⟨t, ht, rfl, rfl⟩
          have ht : t = true := by rw [ht]; simp
          cbv
          refine br_f (by rw [ht, hI]; rfl) ?_
          cbv
          exact hnext _ _ (4 - (3 + 1)) [0, 1, 2, 3, 4] [] [81, 82, 83] _ _ (by omega) (by decide) rfl rfl rfl ⟨3 + 1, _, c2, rfl, hz1, by omega, hc2, rfl, rfl⟩
  · cbv
    refine .go [] [] [] (wakes P hp) rfl rfl rfl rfl rfl rfl ?_
    rintro v m1 ⟨rfl, rfl⟩
    cbv
    exact hP _ _ [] [] _ _ .nil rfl rfl rfl rfl rfl ⟨_, rfl, rfl⟩
end
end Go.Proofs.Ytdkbcjefbbkbcaa.E
