/- Sums of bytes: a seal's sum is nought; a burst's is not; spoilt bytes. -/
import Derived.Test.YtccfcenhpmdemaaCM
namespace Go.Proofs.Ytccfcenhpmdemaa.E
open Go
set_option linter.unusedVariables false

theorem bstep_zero (s : BitVec 16) (h : bstep s = 0#16) : s = 0#16 := by
  rw [bstep_eq] at h
  unfold gstep at h
  cases hm : s.msb with
  | true =>
    rw [hm] at h
    have := congrArg (fun x => x.getLsbD 0) h
    simp at this
  | false =>
    rw [hm] at h
    have h1 : s <<< 1 = 0#16 := by simpa using h
    apply BitVec.eq_of_toNat_eq
    have h2 := congrArg BitVec.toNat h1
    rw [BitVec.toNat_shiftLeft, Nat.shiftLeft_eq] at h2
    rw [BitVec.msb_eq_decide] at hm
    have h3 : ¬ 32768 ≤ s.toNat := by simpa using hm
    have h4 : s.toNat * 2 ^ 1 % 65536 = 0 := h2
    show s.toNat = 0
    omega
theorem bsteps_nought : ∀ (n : Nat), bsteps n 0#16 = 0#16
  | 0 => rfl
  | n + 1 => by
    simp only [bsteps]
    rw [show bstep 0#16 = 0#16 from by decide]
    exact bsteps_nought n
theorem bsteps_zero : ∀ (n : Nat) (s : BitVec 16), bsteps n s = 0#16 → s = 0#16
  | 0, s, h => h
  | n + 1, s, h => bstep_zero s (bsteps_zero n _ h)
theorem bsteps_add : ∀ (a b : Nat) (s : BitVec 16), bsteps (a + b) s = bsteps b (bsteps a s)
  | 0, b, s => by rw [Nat.zero_add]; rfl
  | a + 1, b, s => by rw [Nat.add_right_comm]; simp only [bsteps]; exact bsteps_add a b _
theorem low_shift (l : BitVec 8) : bsteps 8 (l.setWidth 16) = l.setWidth 16 <<< 8 := by
  have key : ∀ (k i : Nat), i + k = 8 → bsteps k (l.setWidth 16 <<< i) = l.setWidth 16 <<< 8 := by
    intro k
    induction k with
    | zero =>
      intro i h
      have : i = 8 := by omega
      subst this
      rfl
    | succ k ih =>
      intro i h
      simp only [bsteps]
      have hm : (l.setWidth 16 <<< i).msb = false := by
        rw [BitVec.msb_eq_getLsbD_last, BitVec.getLsbD_shiftLeft, BitVec.getLsbD_setWidth]
        have : l.getLsbD (15 - i) = false := BitVec.getLsbD_of_ge _ _ (by omega)
        simp [this]
      rw [bstep_eq, gstep, hm, show (if (false != false) = true then 0x1021#16 else 0#16) = 0#16 from rfl, BitVec.xor_zero, ← BitVec.shiftLeft_add]
      exact ih (i + 1) (by omega)
  have := key 8 0 rfl
  rwa [BitVec.shiftLeft_zero] at this
/-- Two bytes as one word. -/
def two (h l : BitVec 8) : BitVec 16 := (h.setWidth 16 <<< 8) ^^^ l.setWidth 16
theorem sum_two (s : BitVec 16) (h l : BitVec 8) : sumFrom s [h, l] = bsteps 16 (s ^^^ two h l) := by
  show byteStep (byteStep s h) l = _
  unfold byteStep two
  rw [bsteps_add 8 8 _, ← BitVec.xor_assoc, bsteps_xor 8 _ (l.setWidth 16), low_shift]
def hi8 (s : BitVec 16) : BitVec 8 := (s >>> 8).setWidth 8
def lo8 (s : BitVec 16) : BitVec 8 := s.setWidth 8
theorem two_parts (s : BitVec 16) : two (hi8 s) (lo8 s) = s := by
  unfold two hi8 lo8
  apply BitVec.eq_of_getLsbD_eq
  intro i hi
  simp only [BitVec.getLsbD_xor, BitVec.getLsbD_shiftLeft, BitVec.getLsbD_setWidth, BitVec.getLsbD_ushiftRight]
  by_cases h : i < 8
  · simp [h, hi]
  · have : 8 + (i - 8) = i := by omega
    have h3 : i - 8 < 8 := by omega
    have h4 : i - 8 < 16 := by omega
    simp [h, hi, h3, h4, this]
theorem two_inj {a b c d : BitVec 8} (h : two a b = two c d) : a = c ∧ b = d := by
  unfold two at h
  constructor
  · apply BitVec.eq_of_getLsbD_eq
    intro i hi
    have := congrArg (fun x => x.getLsbD (i + 8)) h
    simp only [BitVec.getLsbD_xor, BitVec.getLsbD_shiftLeft, BitVec.getLsbD_setWidth] at this
    have h1 : i + 8 < 16 := by omega
    have h2 : ¬ i + 8 < 8 := by omega
    have h5 : i < 16 := by omega
    have h3 : b.getLsbD (i + 8) = false := BitVec.getLsbD_of_ge _ _ (by omega)
    have h4 : d.getLsbD (i + 8) = false := BitVec.getLsbD_of_ge _ _ (by omega)
    simpa [h1, h2, h3, h4, h5] using this
  · apply BitVec.eq_of_getLsbD_eq
    intro i hi
    have := congrArg (fun x => x.getLsbD i) h
    simp only [BitVec.getLsbD_xor, BitVec.getLsbD_shiftLeft, BitVec.getLsbD_setWidth] at this
    have h1 : i < 16 := by omega
    simpa [h1, hi] using this
theorem sumFrom_app (s : BitVec 16) (l r : List (BitVec 8)) : sumFrom s (l ++ r) = sumFrom (sumFrom s l) r := by simp [sumFrom]
/-- What has the sum nought, and two bytes, is a seal. -/
theorem seal_zero (y : List (BitVec 8)) (h l : BitVec 8) : crcSum (y ++ [h, l]) = 0#16 ↔ h = hi8 (crcSum y) ∧ l = lo8 (crcSum y) := by
  unfold crcSum
  rw [sumFrom_app, sum_two]
  constructor
  · intro e
    have h1 := bsteps_zero 16 _ e
    have h2 : sumFrom 0xffff#16 y = two h l := by
      have := congrArg (fun x => x ^^^ two h l) h1
      simpa [BitVec.xor_assoc] using this
    have h3 := (two_parts (sumFrom 0xffff#16 y)).trans h2
    obtain ⟨h4, h5⟩ := two_inj h3
    exact ⟨h4.symm, h5.symm⟩
  · rintro ⟨rfl, rfl⟩
    rw [two_parts, BitVec.xor_self]
    exact bsteps_nought 16

/-! ### Bursts -/
def topw : List Bool → BitVec 16
  | [] => 0#16
  | b :: l => (if b then 0x8000#16 else 0#16) ^^^ (topw l >>> 1)
theorem topw_lsb : ∀ (l : List Bool) (i : Nat), i < 16 → (topw l).getLsbD (15 - i) = (l[i]?).getD false
  | [], i, h => by simp [topw]
  | b :: l, i, h => by
    simp only [topw, BitVec.getLsbD_xor, BitVec.getLsbD_ushiftRight]
    cases i with
    | zero =>
      have : (topw l).getLsbD (1 + (15 - 0)) = false := BitVec.getLsbD_of_ge _ _ (by omega)
      rw [this]
      cases b <;> simp <;> decide
    | succ i =>
      have e : 1 + (15 - (i + 1)) = 15 - i := by omega
      rw [e, topw_lsb l i (by omega)]
      have : (if b then 0x8000#16 else 0#16).getLsbD (15 - (i + 1)) = false := by
        cases b with
        | false => simp
        | true =>
          have h2 : i < 15 := by omega
          have h3 : 15 - (i + 1) < 15 := by omega
          generalize 15 - (i + 1) = n at h3
          match n, h3 with
          | 0, _ => decide
          | 1, _ => decide
          | 2, _ => decide
          | 3, _ => decide
          | 4, _ => decide
          | 5, _ => decide
          | 6, _ => decide
          | 7, _ => decide
          | 8, _ => decide
          | 9, _ => decide
          | 10, _ => decide
          | 11, _ => decide
          | 12, _ => decide
          | 13, _ => decide
          | 14, _ => decide
      rw [this]
      simp
theorem topw_msb (b : Bool) (l : List Bool) : (topw (b :: l)).msb = b := by
  rw [BitVec.msb_eq_getLsbD_last]
  exact topw_lsb (b :: l) 0 (by omega)
theorem topw_shift (b : Bool) (l : List Bool) (h : (l[15]?).getD false = false) : topw (b :: l) <<< 1 = topw l := by
  apply BitVec.eq_of_getLsbD_eq
  intro i hi
  rw [BitVec.getLsbD_shiftLeft]
  by_cases h0 : i < 1
  · have : i = 0 := by omega
    subst this
    have := topw_lsb l 15 (by omega)
    rw [h] at this
    simpa using this.symm
  · have e1 : i - 1 = 15 - (16 - i) := by omega
    have e2 : i = 15 - (15 - i) := by omega
    rw [e1, topw_lsb _ _ (by omega)]
    rw [show (topw l).getLsbD i = (topw l).getLsbD (15 - (15 - i)) from by rw [← e2], topw_lsb _ _ (by omega)]
    rw [show 16 - i = (15 - i) + 1 from by omega]
    simp [hi, h0]
theorem gsteps_top : ∀ (l : List Bool) (g : BitVec 16), (∀ k, 16 ≤ k → l[k]? ≠ some true) → gsteps g l = bsteps l.length (g ^^^ topw l)
  | [], g, h => by simp [gsteps, topw, bsteps]
  | b :: l, g, h => by
    have h15 : (l[15]?).getD false = false := by
      have := h 16 (by omega)
      cases hq : l[15]? with
      | none => rfl
      | some x =>
        cases x with
        | false => rfl
        | true => exact absurd (by simpa using hq) this
    simp only [gsteps, List.length_cons, bsteps]
    rw [gsteps_top l _ (fun k hk => by have := h (k + 1) (by omega); simpa using this), bstep_mix, topw_msb, topw_shift b l h15]
/-- Digits that are not nought stand in sixteen places: then the sum is not nought. -/
theorem burst : ∀ (l : List Bool) (lo : Int), (∀ (k : Nat), l[k]? = some true → lo ≤ (k : Int) ∧ (k : Int) < lo + 16) → gsteps 0#16 l = 0#16 → ∀ (k : Nat), l[k]? ≠ some true
  | [], lo, h, h0, k => by simp
  | false :: l, lo, h, h0, k => by
    have hs : gstep 0#16 false = 0#16 := by decide
    simp only [gsteps] at h0
    rw [hs] at h0
    have := burst l (lo - 1) (fun k hk => by have := h (k + 1) (by simpa using hk); omega) h0
    cases k with
    | zero => simp
    | succ k => simpa using this k
  | true :: l, lo, h, h0, k => by
    exfalso
    have h1 := h 0 rfl
    have h2 : ∀ k, 16 ≤ k → (true :: l)[k]? ≠ some true := fun k hk e => by have := h k e; omega
    rw [gsteps_top _ _ h2, BitVec.zero_xor] at h0
    have h3 := bsteps_zero _ _ h0
    have h4 := topw_msb true l
    rw [h3] at h4
    simp at h4
def digits (l : List (BitVec 8)) : List Bool := l.flatMap bitsOf
theorem sum_digits : ∀ (l : List (BitVec 8)) (s : BitVec 16), sumFrom s l = gsteps s (digits l)
  | [], s => rfl
  | c :: l, s => by
    show sumFrom (byteStep s c) l = _
    rw [sum_digits l, byteStep_bits]
    have : ∀ (a b : List Bool) (s : BitVec 16), gsteps s (a ++ b) = gsteps (gsteps s a) b := by
      intro a
      induction a with
      | nil => intro b s; rfl
      | cons x a ih => intro b s; exact ih b _
    simp only [digits, List.flatMap_cons]
    rw [this]
theorem bitsOf_get (c : BitVec 8) (j : Nat) (h : j < 8) : (bitsOf c)[j]? = some (c.getLsbD (7 - j)) := by
  match j, h with
  | 0, _ => rfl
  | 1, _ => rfl
  | 2, _ => rfl
  | 3, _ => rfl
  | 4, _ => rfl
  | 5, _ => rfl
  | 6, _ => rfl
  | 7, _ => rfl
theorem digits_get : ∀ (l : List (BitVec 8)) (k : Nat), (digits l)[k]? = (l[k / 8]?).map fun c => c.getLsbD (7 - k % 8)
  | [], k => by simp [digits]
  | c :: l, k => by
    simp only [digits, List.flatMap_cons]
    by_cases h : k < 8
    · rw [List.getElem?_append_left (by simpa [bitsOf] using h), bitsOf_get c k h]
      rw [Nat.div_eq_of_lt h, Nat.mod_eq_of_lt h]
      rfl
    · rw [List.getElem?_append_right (by simp [bitsOf]; omega)]
      have := digits_get l (k - 8)
      simp only [digits] at this
      rw [show k - (bitsOf c).length = k - 8 from rfl, this]
      have e1 : k / 8 = (k - 8) / 8 + 1 := by omega
      have e2 : (k - 8) % 8 = k % 8 := by omega
      rw [e1, e2]
      simp

/-! ### Spoilt bytes -/
/-- Is digit k turned? -/
def turned (mask : BitVec 16) (bit : Int) (k : Int) : Bool := decide (0 ≤ k - bit) && decide (k - bit < 16) && mask.getLsbD (15 - (k - bit).toNat)
/-- What the byte at a place is turned by. -/
def pat (mask : BitVec 16) (bit : Int) (a : Nat) : BitVec 8 := if 8 * (a : Int) - bit ≤ -8 ∨ 16 ≤ 8 * (a : Int) - bit then 0#8 else (((mask.setWidth 32 <<< 8) <<< (8 * (a : Int) - bit + 8).toNat) >>> 24).setWidth 8
theorem pat_get (mask : BitVec 16) (bit : Int) (a j : Nat) (h : j < 8) : (pat mask bit a).getLsbD (7 - j) = turned mask bit (8 * (a : Int) + j) := by
  unfold pat turned
  split
  · rename_i h1
    have : ¬ (0 ≤ 8 * (a : Int) + j - bit ∧ 8 * (a : Int) + j - bit < 16) := by omega
    rcases Classical.not_and_iff_not_or_not.1 this with h2 | h2 <;> rw [decide_eq_false h2] <;> simp
  · rename_i h1
    obtain ⟨n, hn⟩ : ∃ n : Nat, 8 * (a : Int) - bit + 8 = n := ⟨(8 * (a : Int) - bit + 8).toNat, by omega⟩
    have hn1 : 1 ≤ n ∧ n < 24 := by omega
    have e : 8 * (a : Int) + j - bit = (n : Int) + j - 8 := by omega
    rw [hn, e, Int.toNat_natCast]
    simp only [BitVec.getLsbD_setWidth, BitVec.getLsbD_ushiftRight, BitVec.getLsbD_shiftLeft]
    have g1 : 7 - j < 8 := by omega
    have g2 : 24 + (7 - j) < 32 := by omega
    by_cases h2 : 8 ≤ n + j
    · by_cases h3 : n + j < 24
      · have g3 : ¬ 24 + (7 - j) < n := by omega
        have g4 : 24 + (7 - j) - n < 32 := by omega
        have g5 : ¬ 24 + (7 - j) - n < 8 := by omega
        have g6 : 24 + (7 - j) - n - 8 < 32 := by omega
        have e1 : 15 - ((n : Int) + j - 8).toNat = 24 + (7 - j) - n - 8 := by omega
        have e2 : (0 : Int) ≤ (n : Int) + j - 8 := by omega
        have e3 : (n : Int) + j - 8 < 16 := by omega
        rw [e1, decide_eq_true e2, decide_eq_true e3]
        simp [g1, g2, g3, g4, g5, g6]
      · have e3 : ¬ ((n : Int) + j - 8 < 16) := by omega
        rw [decide_eq_false e3]
        by_cases g3 : 24 + (7 - j) < n
        · simp [g1, g2, g3]
        · have g5 : 24 + (7 - j) - n < 8 := by omega
          simp [g1, g2, g3, g5]
    · have e2 : ¬ ((0 : Int) ≤ (n : Int) + j - 8) := by omega
      have g7 : mask.getLsbD (24 + (7 - j) - n - 8) = false := BitVec.getLsbD_of_ge _ _ (by omega)
      rw [decide_eq_false e2]
      simp [g7]
def spoilt (mask : BitVec 16) (bit : Int) : Nat → List (BitVec 8) → List (BitVec 8)
  | _, [] => []
  | a, c :: l => (c ^^^ pat mask bit a) :: spoilt mask bit (a + 1) l
theorem spoilt_len (mask : BitVec 16) (bit : Int) : ∀ (l : List (BitVec 8)) (a : Nat), (spoilt mask bit a l).length = l.length
  | [], a => rfl
  | c :: l, a => by simp [spoilt, spoilt_len mask bit l]
theorem spoilt_get (mask : BitVec 16) (bit : Int) : ∀ (l : List (BitVec 8)) (a i : Nat), (spoilt mask bit a l)[i]? = (l[i]?).map fun c => c ^^^ pat mask bit (a + i)
  | [], a, i => by simp [spoilt]
  | c :: l, a, 0 => by simp [spoilt]
  | c :: l, a, i + 1 => by simp [spoilt, spoilt_get mask bit l (a + 1) i, Nat.add_comm 1 i, Nat.add_assoc]
theorem spoilt_twice (mask : BitVec 16) (bit : Int) : ∀ (l : List (BitVec 8)) (a : Nat), spoilt mask bit a (spoilt mask bit a l) = l
  | [], a => rfl
  | c :: l, a => by simp [spoilt, spoilt_twice mask bit l, BitVec.xor_assoc]
theorem spoilt_none (mask : BitVec 16) (bit : Int) : ∀ (l : List (BitVec 8)) (a : Nat), (∀ i, i < l.length → pat mask bit (a + i) = 0#8) → spoilt mask bit a l = l
  | [], a, h => rfl
  | c :: l, a, h => by
    have h0 := h 0 (by simp)
    simp only [spoilt]
    rw [spoilt_none mask bit l (a + 1) (fun i hi => by have := h (i + 1) (by simpa using hi); rwa [show a + 1 + i = a + (i + 1) from by omega])]
    rw [Nat.add_zero] at h0
    rw [h0, BitVec.xor_zero]
theorem pat_zero (bit : Int) (a : Nat) : pat 0#16 bit a = 0#8 := by
  unfold pat
  split
  · rfl
  · simp
/-- The errors alone. -/
def errs (mask : BitVec 16) (bit : Int) : Nat → Nat → List (BitVec 8)
  | _, 0 => []
  | a, n + 1 => pat mask bit a :: errs mask bit (a + 1) n
theorem errs_get (mask : BitVec 16) (bit : Int) : ∀ (n a i : Nat), (errs mask bit a n)[i]? = if i < n then some (pat mask bit (a + i)) else none
  | 0, a, i => by simp [errs]
  | n + 1, a, 0 => by simp [errs]
  | n + 1, a, i + 1 => by simp [errs, errs_get mask bit n (a + 1) i, Nat.add_comm 1 i, Nat.add_assoc]
theorem spoilt_xor (mask : BitVec 16) (bit : Int) : ∀ (l : List (BitVec 8)) (a : Nat) (s e : BitVec 16), sumFrom (s ^^^ e) (spoilt mask bit a l) = sumFrom s l ^^^ sumFrom e (errs mask bit a l.length)
  | [], a, s, e => rfl
  | c :: l, a, s, e => by
    show sumFrom (byteStep (s ^^^ e) (c ^^^ pat mask bit a)) _ = _
    rw [byteStep_xor]
    exact spoilt_xor mask bit l (a + 1) _ _
theorem crc_spoilt (mask : BitVec 16) (bit : Int) (l : List (BitVec 8)) : crcSum (spoilt mask bit 0 l) = crcSum l ^^^ sumFrom 0#16 (errs mask bit 0 l.length) := by
  have := spoilt_xor mask bit l 0 0xffff#16 0#16
  rwa [BitVec.xor_zero] at this
/-- What has the sum nought, and is spoilt, has it no more. -/
theorem spoilt_found (mask : BitVec 16) (bit : Int) (l : List (BitVec 8)) (h : crcSum l = 0#16) (h2 : crcSum (spoilt mask bit 0 l) = 0#16) : spoilt mask bit 0 l = l := by
  rw [crc_spoilt, h, BitVec.zero_xor, sum_digits] at h2
  have hd : ∀ k : Nat, (digits (errs mask bit 0 l.length))[k]? = some true → turned mask bit (k : Int) = true ∧ k / 8 < l.length := fun k hk => by
    rw [digits_get, errs_get] at hk
    split at hk
    · rename_i h3
      have h4 : k % 8 < 8 := Nat.mod_lt _ (by omega)
      simp only [Option.map_some, Nat.zero_add, pat_get mask bit (k / 8) (k % 8) h4, Option.some.injEq] at hk
      have e : 8 * ((k / 8 : Nat) : Int) + ((k % 8 : Nat) : Int) = (k : Int) := by omega
      rw [e] at hk
      exact ⟨hk, h3⟩
    · simp at hk
  have hw : ∀ k : Nat, (digits (errs mask bit 0 l.length))[k]? = some true → bit ≤ (k : Int) ∧ (k : Int) < bit + 16 := fun k hk => by
    obtain ⟨h3, -⟩ := hd k hk
    unfold turned at h3
    simp only [Bool.and_eq_true, decide_eq_true_eq] at h3
    omega
  have hb := burst _ bit hw h2
  refine spoilt_none mask bit l 0 fun i hi => ?_
  apply BitVec.eq_of_getLsbD_eq
  intro j hj
  rw [Nat.zero_add]
  have h5 := pat_get mask bit i (7 - j) (by omega)
  have h6 : 7 - (7 - j) = j := by omega
  rw [h6] at h5
  have h7 := hb (8 * i + (7 - j))
  rw [digits_get, errs_get] at h7
  have e1 : (8 * i + (7 - j)) / 8 = i := by omega
  have e2 : (8 * i + (7 - j)) % 8 = 7 - j := by omega
  rw [e1, e2, h6, if_pos hi, Nat.zero_add] at h7
  simp at h7
  rw [h7]
  simp
end Go.Proofs.Ytccfcenhpmdemaa.E
