/- Sums of bytes: words of sixteen digits, and what the evaluator's numbers say of them. -/
import Derived.Test.YtccfcenhpmdemaaE1
import Derived.Laws.BitsAllLaws
namespace Go.Proofs.Ytccfcenhpmdemaa.E
open Go
set_option linter.unusedVariables false

def w16 (b : BitVec 16) : Int := (b.toNat : Int)
def w8 (b : BitVec 8) : Int := (b.toNat : Int)
theorem u16w (n : Int) : IntKind.u16.wrap n = n % 65536 := by simp [IntKind.wrap, IntKind.bits, IntKind.signed]
theorem u8w (n : Int) : IntKind.u8.wrap n = n % 256 := by simp [IntKind.wrap, IntKind.bits, IntKind.signed]
theorem of16 (b : BitVec 16) : BitVec.ofInt 16 (w16 b) = b := by simp [w16]
theorem of8 (b : BitVec 8) : BitVec.ofInt 8 (w8 b) = b := by simp [w8]
theorem w16_in (b : BitVec 16) : 0 ≤ w16 b ∧ w16 b < 65536 := by have := b.isLt; unfold w16; omega
theorem w8_in (b : BitVec 8) : 0 ≤ w8 b ∧ w8 b < 256 := by have := b.isLt; unfold w8; omega
theorem wr16 (b : BitVec 16) : IntKind.u16.wrap (b.toNat : Int) = w16 b := by rw [u16w]; have := b.isLt; unfold w16; omega
theorem wr8 (b : BitVec 8) : IntKind.u8.wrap (b.toNat : Int) = w8 b := by rw [u8w]; have := b.isLt; unfold w8; omega
theorem w16_inj {a b : BitVec 16} (h : w16 a = w16 b) : a = b := by unfold w16 at h; exact BitVec.eq_of_toNat_eq (by omega)
theorem w8_inj {a b : BitVec 8} (h : w8 a = w8 b) : a = b := by unfold w8 at h; exact BitVec.eq_of_toNat_eq (by omega)
theorem xor16 (a b : BitVec 16) : rBin .xor .u16 (w16 a) (w16 b) = w16 (a ^^^ b) := by
  show IntKind.u16.wrap (BitVec.ofInt 16 (w16 a) ^^^ BitVec.ofInt 16 (w16 b)).toNat = _
  rw [of16, of16, wr16]
theorem xor8 (a b : BitVec 8) : rBin .xor .u8 (w8 a) (w8 b) = w8 (a ^^^ b) := by
  show IntKind.u8.wrap (BitVec.ofInt 8 (w8 a) ^^^ BitVec.ofInt 8 (w8 b)).toNat = _
  rw [of8, of8, wr8]
theorem mul16 (a b : BitVec 16) : rBin .mul .u16 (w16 a) (w16 b) = w16 (a * b) := by
  show IntKind.u16.wrap (w16 a * w16 b) = _
  rw [u16w]
  unfold w16
  rw [BitVec.toNat_mul, Int.natCast_emod, Int.natCast_mul]
  rfl
theorem shl16 (a : BitVec 16) (n : Nat) (h : n ≤ 16) : rBin .shl .u16 (w16 a) (n : Int) = w16 (a <<< n) := by
  show IntKind.u16.wrap (w16 a * 2 ^ (min ((n : Int)).toNat 16)) = _
  rw [u16w, Int.toNat_natCast, Nat.min_eq_left h]
  unfold w16
  rw [BitVec.toNat_shiftLeft, Nat.shiftLeft_eq, Int.natCast_emod, Int.natCast_mul, Int.natCast_pow]
  rfl
theorem shr16 (a : BitVec 16) (n : Nat) (h : n ≤ 16) : rBin .shr .u16 (w16 a) (n : Int) = w16 (a >>> n) := by
  show (w16 a).fdiv (2 ^ (min ((n : Int)).toNat 16)) = _
  rw [Int.toNat_natCast, Nat.min_eq_left h, Int.fdiv_eq_ediv_of_nonneg _ (Int.pow_nonneg (by decide))]
  unfold w16
  rw [BitVec.toNat_ushiftRight, Nat.shiftRight_eq_div_pow, Int.natCast_ediv, Int.natCast_pow]
  rfl
theorem shr8 (a : BitVec 8) (n : Nat) (h : n ≤ 8) : rBin .shr .u8 (w8 a) (n : Int) = w8 (a >>> n) := by
  show (w8 a).fdiv (2 ^ (min ((n : Int)).toNat 8)) = _
  rw [Int.toNat_natCast, Nat.min_eq_left h, Int.fdiv_eq_ediv_of_nonneg _ (Int.pow_nonneg (by decide))]
  unfold w8
  rw [BitVec.toNat_ushiftRight, Nat.shiftRight_eq_div_pow, Int.natCast_ediv, Int.natCast_pow]
  rfl
theorem and8 (a b : BitVec 8) : rBin .and .u8 (w8 a) (w8 b) = w8 (a &&& b) := by
  show IntKind.u8.wrap (BitVec.ofInt 8 (w8 a) &&& BitVec.ofInt 8 (w8 b)).toNat = _
  rw [of8, of8, wr8]
theorem and16 (a b : BitVec 16) : rBin .and .u16 (w16 a) (w16 b) = w16 (a &&& b) := by
  show IntKind.u16.wrap (BitVec.ofInt 16 (w16 a) &&& BitVec.ofInt 16 (w16 b)).toNat = _
  rw [of16, of16, wr16]
theorem wide (c : BitVec 8) : IntKind.u16.wrap (w8 c) = w16 (c.setWidth 16) := by
  rw [u16w]
  have := c.isLt
  unfold w8 w16
  rw [BitVec.toNat_setWidth, Int.natCast_emod]
  rfl
theorem narrow (c : BitVec 16) : IntKind.u8.wrap (w16 c) = w8 (c.setWidth 8) := by
  rw [u8w]
  unfold w8 w16
  rw [BitVec.toNat_setWidth, Int.natCast_emod]
  rfl

/-! ### The sum -/
def bstep (s : BitVec 16) : BitVec 16 := (s <<< 1) ^^^ ((s >>> 15) * 0x1021#16)
def gstep (s : BitVec 16) (b : Bool) : BitVec 16 := (s <<< 1) ^^^ (if s.msb != b then 0x1021#16 else 0#16)
def bsteps : Nat → BitVec 16 → BitVec 16
  | 0, s => s
  | n + 1, s => bsteps n (bstep s)
def byteStep (s : BitVec 16) (c : BitVec 8) : BitVec 16 := bsteps 8 (s ^^^ (c.setWidth 16 <<< 8))
def sumFrom (s : BitVec 16) (l : List (BitVec 8)) : BitVec 16 := l.foldl byteStep s
def crcSum (l : List (BitVec 8)) : BitVec 16 := sumFrom 0xffff#16 l
theorem top16 (s : BitVec 16) : s >>> 15 = if s.msb then 1#16 else 0#16 := by
  apply BitVec.eq_of_toNat_eq
  rw [BitVec.toNat_ushiftRight, Nat.shiftRight_eq_div_pow, BitVec.msb_eq_decide]
  have := s.isLt
  by_cases h : 2 ^ (16 - 1) ≤ s.toNat
  · rw [if_pos (by simpa using h)]
    show s.toNat / 32768 = 1
    have h : 32768 ≤ s.toNat := h
    omega
  · rw [if_neg (by simpa using h)]
    show s.toNat / 32768 = 0
    have h : ¬ 32768 ≤ s.toNat := h
    omega
theorem xlc {n : Nat} (a b c : BitVec n) : a ^^^ (b ^^^ c) = b ^^^ (a ^^^ c) := by rw [← BitVec.xor_assoc, BitVec.xor_comm a, BitVec.xor_assoc]
theorem xself {n : Nat} (a b : BitVec n) : a ^^^ (a ^^^ b) = b := by rw [← BitVec.xor_assoc, BitVec.xor_self, BitVec.zero_xor]
theorem bstep_eq (s : BitVec 16) : bstep s = gstep s false := by
  unfold bstep gstep
  rw [top16]
  cases s.msb <;> rfl
theorem bstep_mix (g m : BitVec 16) : bstep (g ^^^ m) = gstep g m.msb ^^^ (m <<< 1) := by
  rw [bstep_eq]
  unfold gstep
  rw [BitVec.msb_xor, BitVec.shiftLeft_xor_distrib]
  cases g.msb <;> cases m.msb <;> simp [BitVec.xor_assoc, BitVec.xor_comm, xlc, xself]
theorem gstep_xor (a b : BitVec 16) (x y : Bool) : gstep (a ^^^ b) (x != y) = gstep a x ^^^ gstep b y := by
  unfold gstep
  rw [BitVec.msb_xor, BitVec.shiftLeft_xor_distrib]
  cases a.msb <;> cases b.msb <;> cases x <;> cases y <;> simp [BitVec.xor_assoc, BitVec.xor_comm, xlc, xself]
theorem bstep_xor (a b : BitVec 16) : bstep (a ^^^ b) = bstep a ^^^ bstep b := by
  rw [bstep_eq, bstep_eq, bstep_eq, ← gstep_xor]
  rfl
theorem bsteps_xor : ∀ (n : Nat) (a b : BitVec 16), bsteps n (a ^^^ b) = bsteps n a ^^^ bsteps n b
  | 0, a, b => rfl
  | n + 1, a, b => by simp only [bsteps]; rw [bstep_xor, bsteps_xor n]
theorem byteStep_xor (a b : BitVec 16) (x y : BitVec 8) : byteStep (a ^^^ b) (x ^^^ y) = byteStep a x ^^^ byteStep b y := by
  unfold byteStep
  rw [← bsteps_xor, BitVec.setWidth_xor, BitVec.shiftLeft_xor_distrib]
  congr 1
  simp [BitVec.xor_assoc, xlc]
theorem sumFrom_xor : ∀ (l : List (BitVec 8 × BitVec 8)) (a b : BitVec 16), sumFrom (a ^^^ b) (l.map fun p => p.1 ^^^ p.2) = sumFrom a (l.map (·.1)) ^^^ sumFrom b (l.map (·.2))
  | [], a, b => rfl
  | p :: l, a, b => by
    show sumFrom (byteStep (a ^^^ b) (p.1 ^^^ p.2)) _ = _
    rw [byteStep_xor]
    exact sumFrom_xor l _ _
theorem crcSum_app (l : List (BitVec 8)) (c : BitVec 8) : crcSum (l ++ [c]) = byteStep (crcSum l) c := by simp [crcSum, sumFrom]
/-- The sum, digit by digit. -/
def gsteps (s : BitVec 16) : List Bool → BitVec 16
  | [] => s
  | b :: l => gsteps (gstep s b) l
theorem gsteps_app (s : BitVec 16) (l : List Bool) (b : Bool) : gsteps s (l ++ [b]) = gstep (gsteps s l) b := by
  induction l generalizing s with
  | nil => rfl
  | cons x l ih => exact ih _
def bitsOf (c : BitVec 8) : List Bool := [c.getLsbD 7, c.getLsbD 6, c.getLsbD 5, c.getLsbD 4, c.getLsbD 3, c.getLsbD 2, c.getLsbD 1, c.getLsbD 0]
theorem msb_at (c : BitVec 8) (i : Nat) (h : i < 8) : ((c.setWidth 16 <<< 8) <<< i).msb = c.getLsbD (7 - i) := by
  rw [BitVec.msb_eq_getLsbD_last]
  simp only [BitVec.getLsbD_shiftLeft, BitVec.getLsbD_setWidth]
  match i, h with
  | 0, _ => simp
  | 1, _ => simp
  | 2, _ => simp
  | 3, _ => simp
  | 4, _ => simp
  | 5, _ => simp
  | 6, _ => simp
  | 7, _ => simp
theorem all_out (c : BitVec 8) : (c.setWidth 16 <<< 8) <<< 8 = 0#16 := by
  rw [← BitVec.shiftLeft_add]
  exact BitVec.shiftLeft_eq_zero (by decide)
theorem byteStep_bits (s : BitVec 16) (c : BitVec 8) : byteStep s c = gsteps s (bitsOf c) := by
  unfold byteStep
  have key : ∀ (k i : Nat) (g : BitVec 16), i + k = 8 → bsteps k (g ^^^ ((c.setWidth 16 <<< 8) <<< i)) = gsteps g ((bitsOf c).drop i) := by
    intro k
    induction k with
    | zero =>
      intro i g h
      have : i = 8 := by omega
      subst this
      rw [all_out]
      simp [bsteps, bitsOf, gsteps]
    | succ k ih =>
      intro i g h
      have hi : i < 8 := by omega
      have hd : (bitsOf c).drop i = c.getLsbD (7 - i) :: (bitsOf c).drop (i + 1) := by
        match i, hi with
        | 0, _ => rfl
        | 1, _ => rfl
        | 2, _ => rfl
        | 3, _ => rfl
        | 4, _ => rfl
        | 5, _ => rfl
        | 6, _ => rfl
        | 7, _ => rfl
      rw [hd]
      simp only [bsteps, gsteps]
      rw [bstep_mix, msb_at c i hi, ← BitVec.shiftLeft_add, ih (i + 1) _ (by omega)]
  have := key 8 0 s rfl
  rw [BitVec.shiftLeft_zero] at this
  exact this
end Go.Proofs.Ytccfcenhpmdemaa.E
