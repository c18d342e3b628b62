/- Contracts: bytes that are lent with room behind them, and whether they are intact. -/
import Derived.Test.YtccfcenhpmdemaaRO
namespace Go.Proofs.Ytccfcenhpmdemaa.E
open Go
set_option linter.unusedVariables false
set_option maxRecDepth 100000

theorem repB (c : Nat) : isB (ints.rep c [.int .u8 (.sym 0)]) (List.replicate c 0#8) := by
  unfold isB nrow
  show List.replicate c _ = _
  simp [w8]
theorem cpyB {l s : List (List G)} {us bs : List (BitVec 8)} (hl : isB l us) (hs : isB s bs) (n : Nat) (h : bs.length = n) : isB (ints.cpy l 0 n s) (bs ++ us.drop n) := by
  unfold isB at hl hs ⊢
  show l.take 0 ++ s.take n ++ l.drop (0 + min n s.length) = _
  have hsl : s.length = n := by rw [hs]; simp [nrow, h]
  rw [hsl, Nat.min_self, Nat.zero_add, List.take_zero, List.nil_append, List.take_of_length_le (by omega), hl, hs]
  simp [nrow, List.map_drop]
section
variable {P : Program} (hp : P = Try.prog)
include hp
theorem lend (l : List (List G)) (bs : List (BitVec 8)) (hl : isB l bs) (hn : bs.length ≤ 140737488351250) : LValid P 27 [.c (.bor 1 l)] [] (fun v m1 => ∃ (L : List (List G)) (n c : Nat), n = bs.length ∧ c = bs.length + 3 ∧ isB L (bs ++ [0x55#8, 0x55#8, 0x55#8]) ∧ v = .one (.c (.sl 0 (.lit 0) 1 (.sym n) (some (.sym c)))) ∧ m1 = [.sym 1 L]) := by
  obtain ⟨I, hI⟩ := ref
  have hle : I.len l = bs.length := by rw [hI]; exact hl.len
  have hN : I.ofNat (I.len l) = ((bs.length : Nat) : Int) := by rw [hle, hI]; rfl
  have hC : I.bin .add .i64 (I.ofNat (I.len l)) 3 = ((bs.length + 3 : Nat) : Int) := by
    rw [hN, hI]
    show IntKind.i64.wrap ((bs.length : Int) + 3) = _
    rw [wrap_in] <;> omega
  obtain ⟨c, hc⟩ : ∃ c, c = bs.length + 3 := ⟨_, rfl⟩
  obtain ⟨n, hnn⟩ : ∃ n, n = bs.length := ⟨_, rfl⟩
  rw [← hc] at hC
  rw [← hnn] at hN
  have hlt : n < I.add c 1 := by rw [hI]; show n < c + 1; omega
  have hL0 : isB (I.cpy (I.rep c [.int .u8 (.sym 0)]) 0 n l) (bs ++ [0#8, 0#8, 0#8]) := by
    rw [hI]
    have := cpyB (repB c) hl n hnn.symm
    rw [List.drop_replicate, show c - n = 3 from by omega] at this
    exact this
  obtain ⟨L0, hL0e⟩ : ∃ L0, L0 = I.cpy (I.rep c [.int .u8 (.sym 0)]) 0 n l := ⟨_, rfl⟩
  rw [← hL0e] at hL0
  refine fn_sim hI (mo hp) (cc hp c27) fun Post hP => ?_
  cbv
  refine .size c hC (show c * 1 ≤ 140737488355328 from by omega) (.idx n hN hlt ?_)
  cbv
  refine .rng 0 c rfl hC (Nat.zero_le _) (Nat.le_refl _) ?_
  cbv
  refine .loop_next (fun k ts m => ∃ (j : Nat) (z : Int) (L : List (List G)), k = 3 - j ∧ j ≤ 3 ∧ isN z (n + j) ∧ isB L (bs ++ (List.replicate j 0x55#8 ++ List.replicate (3 - j) 0#8)) ∧
      ts = fr 32 [(3, .one (.c (.sl 0 (.lit 0) 1 (.sym n) (some (.sym c))))), (4, .one (.c (.sl 0 (.lit 0) 1 (.sym c) (some (.sym c))))), (5, i64 z)] ∧ m = [.sym 1 L])
    3 _ _ [0] [] [3, 4, 5] (by decide) rfl rfl rfl ⟨0, _, L0, rfl, by omega, hN, hL0, rfl, by rw [hL0e]; rfl⟩ ?_
  rintro next k hnext ts m ⟨j, z, L, hk, hj, hz, hL, rfl, rfl⟩
  have hLl : I.len L = c := by rw [hI]; refine hL.len.trans ?_; rw [List.length_append, List.length_append, List.length_replicate, List.length_replicate]; omega
  cbv
  refine .br (fun g1 => ?_) (fun g1 => ?_)
  · have hj1 : j < 3 := by
      have h' : rCmp .lss z ((c : Nat) : Int) = true := by rw [hI] at g1; exact g1
      have : z < (c : Int) := by simpa [rCmp] using h'
      unfold isN at hz
      omega
    have hz1 : isN (I.bin .add .i64 z 1) (n + (j + 1)) := by unfold isN at hz ⊢; rw [hI, hz]; show IntKind.i64.wrap (((n + j : Nat) : Int) + 1) = _; rw [wrap_in] <;> omega
    have hnj : n + j < c := by omega
    have hget : (bs ++ (List.replicate j 0x55#8 ++ List.replicate (3 - j) 0#8))[n + j]? = some 0#8 := by
      rw [List.getElem?_append_right (by omega), List.getElem?_append_right (by rw [List.length_replicate]; omega), List.length_replicate, List.getElem?_replicate, if_pos (by omega)]
    have hr := hL.get hget
    have hset : isB (I.set L (n + j) [.int .u8 (.sym 85)]) (bs ++ (List.replicate (j + 1) 0x55#8 ++ List.replicate (3 - (j + 1)) 0#8)) := by
      have e : (bs ++ (List.replicate j 0x55#8 ++ List.replicate (3 - j) 0#8)).set (n + j) 0x55#8 = bs ++ (List.replicate (j + 1) 0x55#8 ++ List.replicate (3 - (j + 1)) 0#8) := by
        rw [List.set_append_right _ _ (by omega), hnn, Nat.add_sub_cancel_left, List.set_append_right _ _ (by rw [List.length_replicate]; omega), List.length_replicate, Nat.sub_self]
        congr 1
        match j, hj1 with
        | 0, _ => rfl
        | 1, _ => rfl
        | 2, _ => rfl
      rw [← e, hI]
      unfold isB at hL ⊢
      rw [hL]
      simp [nrow, ints, List.map_set, w8]
    generalize hw0 : w8 0#8 = w0 at hr
    generalize hnj2 : n + j = q at hz hnj hr hset
    cbv
    refine .idx q hz hnj ?_
    cbv
    refine .nth _ hr ?_
    cbv
    exact hnext _ _ (3 - (j + 1)) [0] [] [3, 4, 5] _ _ (by omega) (by decide) rfl rfl rfl ⟨j + 1, _, _, rfl, hj1, hz1, hset, rfl, rfl⟩
  · have hj1 : j = 3 := by
      have h' : rCmp .lss z ((c : Nat) : Int) = false := by rw [hI] at g1; exact g1
      have : ¬ z < (c : Int) := by simpa [rCmp] using h'
      unfold isN at hz
      omega
    have hL2 : isB L (bs ++ [0x55#8, 0x55#8, 0x55#8]) := by rw [hj1] at hL; exact hL
    cbv
    exact hP _ _ [0] [] _ _ (by decide) rfl rfl rfl rfl rfl ⟨L, n, c, hnn, hc, hL2, rfl, rfl⟩
set_option maxHeartbeats 4000000 in
theorem intact (L l : List (List G)) (bs : List (BitVec 8)) (hL : isB L (bs ++ [0x55#8, 0x55#8, 0x55#8])) (hl : isB l bs) (hb : bs.length ≤ 140737488351250) (n c : Nat) (hn : n = bs.length) (hc : c = bs.length + 3) :
    LValid P 30 [.c (.sl 0 (.lit 0) 1 (.sym n) (some (.sym c))), .c (.bor 1 l)] [.sym 1 L] (fun v m1 => v = boo true ∧ m1 = [.sym 1 L]) := by
  refine LValid.boo ?_
  obtain ⟨I, hI⟩ := ref
  have hle : I.len l = n := by rw [hI, hn]; exact hl.len
  have hC : I.bin .add .i64 (I.ofNat (I.len l)) 3 = ((c : Nat) : Int) := by
    rw [hle, hI]
    show IntKind.i64.wrap ((n : Int) + 3) = _
    rw [wrap_in] <;> omega
  have hCc : I.cmp .neq (I.ofNat c) (I.bin .add .i64 (I.ofNat (I.len l)) 3) = false := by
    rw [hC, hI]
    show (((c : Nat) : Int) != ((c : Nat) : Int)) = false
    simp
  have hNn : I.cmp .neq (I.ofNat n) (I.ofNat (I.len l)) = false := by
    rw [hle, hI]
    show (((n : Nat) : Int) != ((n : Nat) : Int)) = false
    simp
  have hLl : I.len L = c := by rw [hI]; refine hL.len.trans ?_; rw [List.length_append]; simp; omega
  refine fn_sim hI (mo hp) (cc hp c30) fun Post hP => ?_
  cbv
  refine br_f hNn ?_
  cbv
  refine br_f hCc ?_
  cbv
  refine .rng 0 c rfl hC (Nat.zero_le _) (Nat.le_refl _) ?_
  cbv
  refine .loop_next (fun k ts m => ∃ (i : Nat) (z d : Int), k = c - i ∧ i ≤ c ∧ isN z i ∧ isN d c ∧
      ts = fr 59 [(1, .one (.c (.bor 1 l))), (5, .one (.c (.sl 0 (.lit 0) 1 (.sym c) (some (.sym c))))), (26, i64 d), (27, i64 z)] ∧ m = [.sym 1 L])
    c _ _ [0] [] [1, 5, 26, 27] (by decide) rfl rfl rfl ⟨0, 0, I.ofNat c, rfl, by omega, rfl, by rw [hI]; rfl, rfl, rfl⟩ ?_
  rintro next k hnext ts m ⟨i, z, d, hk, hi, hz, hd, rfl, rfl⟩
  cbv
  refine .br (fun g1 => ?_) (fun g1 => ?_)
  · have hi1 : i < c := by
      have : z < d := by simpa [hI, ints, rCmp] using g1
      unfold isN at hz hd
      omega
    have hz1 : isN (I.bin .add .i64 z 1) (i + 1) := by unfold isN at hz ⊢; rw [hI]; simp only [ints, rBin]; rw [wrap_in] <;> omega
    have hlss : ∀ x : Bool, I.cmp .lss z (I.ofNat (I.len l)) = x → decide (i < n) = x := fun x h => by
      rw [hle, hI] at h
      have h : decide (z < (n : Int)) = x := h
      unfold isN at hz
      rw [← h]
      by_cases hh : i < n
      · rw [decide_eq_true hh, decide_eq_true (by omega)]
      · rw [decide_eq_false hh, decide_eq_false (by omega)]
    have hgeq : I.cmp .geq z (I.ofNat (I.len l)) = decide (n ≤ i) := by
      rw [hle, hI]
      show decide (z ≥ (n : Int)) = _
      unfold isN at hz
      by_cases hh : n ≤ i
      · rw [decide_eq_true hh, decide_eq_true (by omega)]
      · rw [decide_eq_false hh, decide_eq_false (by omega)]
    clear g1
    cbv
    refine .drawn [] ?_
    cbv
    refine .br (fun g2 => ?_) (fun g2 => ?_)
    · have h2 : i < n := of_decide_eq_true (hlss _ g2)
      obtain ⟨b, hb2⟩ : ∃ b, bs[i]? = some b := ⟨_, List.getElem?_eq_getElem (by omega)⟩
      have hr1 := hL.get (show (bs ++ [0x55#8, 0x55#8, 0x55#8])[i]? = some b from by rw [List.getElem?_append_left (by omega)]; exact hb2)
      have hr2 := hl.get hb2
      have hil : i < I.len l := by rw [hle]; exact h2
      have hgf : I.cmp .geq z (I.ofNat (I.len l)) = false := by rw [hgeq]; exact decide_eq_false (by omega)
      generalize hwb : w8 b = wb at hr1 hr2
      clear g2 hlss hgeq
      cbv
      refine .idx i hz hi1 ?_
      cbv
      refine .nth _ hr1 ?_
      cbv
      refine .idx i hz hil (.nth _ hr2 ?_)
      cbv
      refine br_f (show I.cmp .neq wb wb = false from by rw [hI]; show (wb != wb) = false; simp) ?_
      cbv
      refine br_f hgf ?_
      cbv
      exact hnext _ _ (c - (i + 1)) [0] [] [1, 5, 26, 27] _ _ (by omega) (by decide) rfl rfl rfl ⟨i + 1, _, d, rfl, hi1, hz1, hd, rfl, rfl⟩
    · have h2 : ¬ i < n := of_decide_eq_false (hlss _ g2)
      have hr1 := hL.get (show (bs ++ [0x55#8, 0x55#8, 0x55#8])[i]? = some 0x55#8 from by
        rw [List.getElem?_append_right (by omega)]
        have : i - bs.length = 0 ∨ i - bs.length = 1 ∨ i - bs.length = 2 := by omega
        rcases this with h | h | h <;> rw [h] <;> rfl)
      have hgt : I.cmp .geq z (I.ofNat (I.len l)) = true := by rw [hgeq]; exact decide_eq_true (by omega)
      clear g2 hlss hgeq
      cbv
      refine br_t hgt ?_
      cbv
      refine .idx i hz hi1 ?_
      cbv
      refine .nth _ hr1 ?_
      cbv
      refine br_f (by rw [hI]; rfl) ?_
      cbv
      exact hnext _ _ (c - (i + 1)) [0] [] [1, 5, 26, 27] _ _ (by omega) (by decide) rfl rfl rfl ⟨i + 1, _, d, rfl, hi1, hz1, hd, rfl, rfl⟩
  · cbv
    exact hP _ _ [0] [] _ _ (by decide) rfl rfl rfl rfl rfl ⟨_, rfl, rfl, rfl⟩
end
end Go.Proofs.Ytccfcenhpmdemaa.E
