/- The reference: bytes opened, spoilt. -/
import Derived.Test.YtccfcenhpmdemaaPR
namespace Go.Proofs.Ytccfcenhpmdemaa.E
open Go
set_option linter.unusedVariables false
set_option maxRecDepth 100000
section
variable {P : Program} (hp : P = Try.prog)
include hp
set_option maxHeartbeats 4000000 in
theorem ropen (l : List (List G)) (bs : List (BitVec 8)) (hl : isB l bs) (hn : bs.length ≤ 140737488351250) : LValid P 44 [.c (.bor 1 l)] []
    (fun v m1 => (2 ≤ bs.length ∧ isSeal bs = true ∧ ∃ l', isB l' (bs.take (bs.length - 2)) ∧ v = .tup [.c (.row 0 1 none), gb true] ∧ m1 = [.sym 1 l']) ∨ (¬ (2 ≤ bs.length ∧ isSeal bs = true) ∧ v = .tup [.c (.g .nil), gb false] ∧ m1 = [])) := by
  refine LValid.syv (R := fun v m1 => (2 ≤ bs.length ∧ isSeal bs = true ∧ ∃ l', isB l' (bs.take (bs.length - 2)) ∧ v = .tup [.c (.row 0 1 none), .c (.g (.bool (.lit true)))] ∧ m1 = [.sym 1 l']) ∨ (¬ (2 ≤ bs.length ∧ isSeal bs = true) ∧ v = .tup [.c (.g .nil), .c (.g (.bool (.lit false)))] ∧ m1 = [])) ?_
    (fun v m1 h => h.imp (fun ⟨h1, h2, l', h3, h4, h5⟩ => ⟨h1, h2, l', h3, by rw [h4]; rfl, h5⟩) (fun ⟨h1, h2, h3⟩ => ⟨h1, by rw [h2]; rfl, h3⟩))
  obtain ⟨I, hI⟩ := ref
  have hle : I.len l = bs.length := by rw [hI]; exact hl.len
  have hcm : ∀ t : Bool, I.cmp .lss (I.ofNat (I.len l)) 2 = t → decide (bs.length < 2) = t := fun t h => by
    rw [hle, hI] at h
    have h : decide ((bs.length : Int) < 2) = t := h
    rw [← h]
    by_cases hh : bs.length < 2
    · rw [decide_eq_true hh, decide_eq_true (by omega)]
    · rw [decide_eq_false hh, decide_eq_false (by omega)]
  refine fn_sim hI (mo hp) (cc hp c44) fun Post hP => ?_
  cbv
  refine .drawn [] ?_
  cbv
  refine .br (fun g1 => ?_) (fun g1 => ?_)
  · have h1 : ¬ (2 ≤ bs.length) := by have := of_decide_eq_true (hcm _ g1); omega
    cbv
    repeat' (refine .both ?_ ?_ <;> cbv)
    all_goals exact hP _ _ [] [] _ _ .nil rfl rfl rfl rfl rfl (.inr ⟨fun h => h1 h.1, rfl, rfl⟩)
  · have h1 : 2 ≤ bs.length := by have := of_decide_eq_false (hcm _ g1); omega
    have hk : I.bin .sub .i64 (I.ofNat (I.len l)) 2 = ((bs.length - 2 : Nat) : Int) := by
      rw [hle, hI]
      show IntKind.i64.wrap ((bs.length : Int) - 2) = _
      rw [wrap_in _ (by omega) (by omega)]
      exact (Int.ofNat_sub h1).symm
    have hkl : bs.length - 2 ≤ I.len l := by rw [hle]; omega
    have hE : isB (I.ext l 0 (bs.length - 2)) (bs.take (bs.length - 2)) := by rw [hI]; exact hl.take _
    have hEl : (bs.take (bs.length - 2)).length ≤ 140737488351250 := by rw [List.length_take]; omega
    have hm : I.len (I.ext l 0 (bs.length - 2)) ≤ 140737488355328 := by rw [hI]; show (List.length _) ≤ _; rw [← hI, hE.len]; omega
    generalize hkk : bs.length - 2 = k at hk hkl hE hEl hm
    generalize hx : I.ext l 0 k = lx at hE hm
    clear g1 hcm
    cbv
    refine .rng 0 k rfl hk (Nat.zero_le _) hkl ?_
    cbv
    have fin : ∀ (l' : List (List G)) (t : Bool), isB l' (sealB (bs.take k)) → I.not (I.seq (I.b2s l') (I.b2s l)) = t → isSeal bs = !t := fun l' t h2 h3 => by
      have h4 : I.seq (I.b2s l') (I.b2s l) = isSeal bs := by rw [hI]; unfold isSeal; rw [hkk]; exact seqB h2 hl
      rw [h4, hI] at h3
      have h3 : (!isSeal bs) = t := h3
      rw [← h3]
      simp
    repeat' (first
      | (refine .both ?_ ?_ <;> cbv)
      | (refine .go [] [] [] (rseal hp lx _ hE hEl) rfl rfl rfl rfl (by rw [← hx]; rfl) rfl ?_
         rintro v m1 ⟨l', hl', rfl, rfl⟩
         cbv)
      | (refine .bytes hl.bytes ?_; cbv)
      | (refine .bytes (isB.bytes ‹isB _ (sealB (bs.take k))›) ?_; cbv))
    all_goals
      refine .br (fun g2 => ?_) (fun g2 => ?_)
      · have h2 := fin _ _ ‹isB _ (sealB (bs.take k))› g2
        cbv
        exact hP _ _ [] [] _ _ .nil rfl rfl rfl rfl rfl (.inr ⟨fun h => by rw [h2] at h; exact absurd h.2 (by decide), rfl, rfl⟩)
      · have h2 := fin _ _ ‹isB _ (sealB (bs.take k))› g2
        cbv
        refine .rng 0 k rfl hk (Nat.zero_le _) hkl ?_
        cbv
        refine .most (show I.len (I.ext l 0 k) * 1 ≤ 140737488355328 from by rw [hx]; omega) (show I.len (I.ext l 0 k) ≤ 140737488355328 from by rw [hx]; omega) ?_
        cbv
        exact hP _ _ [1] [] _ _ (by decide) rfl rfl rfl rfl rfl (.inl ⟨h1, h2, I.ext l 0 k, by rw [hx, hkk]; exact hE, rfl, rfl⟩)
set_option maxHeartbeats 4000000 in
theorem rspoil (l : List (List G)) (bs : List (BitVec 8)) (hl : isB l bs) (hn : bs.length ≤ 1000000000) (zb : Z) (hb : -9223372036854775808 ≤ zb.val ∧ zb.val ≤ 9223372036854775807) (zm : Z) (mask : BitVec 16) (hmask : zm.val = w16 mask) : LValid P 31 [.c (.bor 1 l), .c (.g (.int .i64 zb)), .c (.g (.int .u16 zm))] []
    (fun v m1 => ∃ l', isB l' (spoilt mask zb.val 0 bs) ∧ v = .one (.c (.row 0 1 none)) ∧ m1 = [.sym 1 l']) := by
  refine LValid.sy ?_
  show LValid P 31 [.c (.bor 1 l), .c (.g (.int .i64 (.sym zb.val))), .c (.g (.int .u16 (.sym zm.val)))] [] _
  generalize zb.val = bit at hb
  generalize zm.val = q at hmask
  obtain ⟨I, hI⟩ := ref
  have hle : I.len l = bs.length := by rw [hI]; exact hl.len
  refine fn_sim hI (mo hp) (cc hp c31) fun Post hP => ?_
  cbv
  refine .most (show I.len l * 1 ≤ 140737488355328 from by rw [hle]; omega) (show I.len l ≤ 140737488355328 from by rw [hle]; omega) ?_
  cbv
  refine .loop_next (fun n ts m => ∃ (i : Nat) (z : Int) (L : List (List G)), n = 16 - i ∧ isN z i ∧ i ≤ 16 ∧ isB L (spoilt (mtop mask i) bit 0 bs) ∧
      ts = fr 58 [(1, i64 bit), (2, u16 q), (7, .one (.c (.row 0 1 none))), (8, i64 z)] ∧ m = [.sym 1 L])
    16 _ _ [0] [] [1, 2, 7, 8] (by decide) rfl rfl rfl ⟨0, 0, l, rfl, rfl, by omega, by rw [mtop_zero, spoilt_none _ _ _ _ (fun i hi => pat_zero _ _)]; exact hl, rfl, rfl⟩ ?_
  rintro next n hnext ts m ⟨i, z, L, hn2, hz, hi, hL, rfl, rfl⟩
  cbv
  refine .br (fun g1 => ?_) (fun g1 => ?_)
  · have hi1 : i < 16 := by
      have : z < 16 := by simpa [hI, ints, rCmp] using g1
      unfold isN at hz
      omega
    obtain ⟨hz1, hu, t, hc1, k1, k2, k3, k4⟩ := rspoil_facts hI mask q bit z hmask hb bs hn i hz hi1 L hL
    clear g1
    cbv
    refine .nonneg hu ?_
    cbv
    refine .br (fun g2 => ?_) (fun g2 => ?_)
    · have h2 := k1 (by have := hc1.symm.trans g2; cases t <;> simp_all)
      cbv
      exact hnext _ _ (16 - (i + 1)) [0] [] [1, 2, 7, 8] _ _ (by omega) (by decide) rfl rfl rfl ⟨i + 1, _, L, rfl, hz1, hi1, h2, rfl, rfl⟩
    have htt : t = true := by have := hc1.symm.trans g2; cases t <;> simp_all
    clear g2 hc1 k1
    cbv
    refine .br (fun g3 => ?_) (fun g3 => ?_)
    · have h2 := k2 g3
      cbv
      exact hnext _ _ (16 - (i + 1)) [0] [] [1, 2, 7, 8] _ _ (by omega) (by decide) rfl rfl rfl ⟨i + 1, _, L, rfl, hz1, hi1, h2, rfl, rfl⟩
    cbv
    refine .br (fun g4 => ?_) (fun g4 => ?_)
    · have h2 := k3 g4
      cbv
      exact hnext _ _ (16 - (i + 1)) [0] [] [1, 2, 7, 8] _ _ (by omega) (by decide) rfl rfl rfl ⟨i + 1, _, L, rfl, hz1, hi1, h2, rfl, rfl⟩
    obtain ⟨k5, k6⟩ := k4 htt g3 g4
    clear k2 k3 k4 g3 g4
    cbv
    refine .br (fun g5 => ?_) (fun g5 => ?_)
    · obtain ⟨k7, k8⟩ := k6 g5
      clear k5 k6 g5
      cbv
      refine .br (fun g6 => ?_) (fun g6 => ?_)
      · obtain ⟨p, wc, r3, r2, r1, r4, r6⟩ := k8 g6
        clear k7 k8 g6
        cbv
        refine .idx p r3 r2 (.nth _ r1 ?_)
        cbv
        refine .nonneg r4 ?_
        cbv
        refine .idx p r3 r2 ?_
        cbv
        refine .nth _ r1 ?_
        cbv
        exact hnext _ _ (16 - (i + 1)) [0] [] [1, 2, 7, 8] _ _ (by omega) (by decide) rfl rfl rfl ⟨i + 1, _, _, rfl, hz1, hi1, r6, rfl, rfl⟩
      · have h2 := k7 g6
        cbv
        exact hnext _ _ (16 - (i + 1)) [0] [] [1, 2, 7, 8] _ _ (by omega) (by decide) rfl rfl rfl ⟨i + 1, _, L, rfl, hz1, hi1, h2, rfl, rfl⟩
    · have h2 := k5 g5
      cbv
      exact hnext _ _ (16 - (i + 1)) [0] [] [1, 2, 7, 8] _ _ (by omega) (by decide) rfl rfl rfl ⟨i + 1, _, L, rfl, hz1, hi1, h2, rfl, rfl⟩
  · have hi1 : i = 16 := by
      have : ¬ z < 16 := by simpa [hI, ints, rCmp] using g1
      unfold isN at hz
      omega
    have hL2 : isB L (spoilt mask bit 0 bs) := by rw [hi1, mtop_all] at hL; exact hL
    cbv
    exact hP _ _ [0] [] _ _ (by decide) rfl rfl rfl rfl rfl ⟨_, hL2, rfl, rfl⟩
end
end Go.Proofs.Ytccfcenhpmdemaa.E
