/- The document's sum, and its way to spoil, digit by digit. -/
import Derived.Test.YtccfcenhpmdemaaCC
namespace Go.Proofs.Ytccfcenhpmdemaa.E
open Go
set_option linter.unusedVariables false
set_option maxRecDepth 100000

theorem u64w (n : Int) : IntKind.u64.wrap n = n % 18446744073709551616 := by simp [IntKind.wrap, IntKind.bits, IntKind.signed]
theorem one8 (b : BitVec 8) (n : Nat) : (b >>> n) &&& 1#8 = if b.getLsbD n then 1#8 else 0#8 := by
  apply BitVec.eq_of_getLsbD_eq
  intro i hi
  rw [BitVec.getLsbD_and, BitVec.getLsbD_ushiftRight]
  by_cases h0 : i = 0
  · subst h0
    rw [Nat.add_zero]
    cases h : b.getLsbD n <;> simp
  · have e : (1#8).getLsbD i = false := by rw [BitVec.getLsbD_one]; simp [h0]
    rw [e]
    split
    · rw [e]; simp
    · simp
theorem one16 (b : BitVec 16) (n : Nat) : (b >>> n) &&& 1#16 = if b.getLsbD n then 1#16 else 0#16 := by
  apply BitVec.eq_of_getLsbD_eq
  intro i hi
  rw [BitVec.getLsbD_and, BitVec.getLsbD_ushiftRight]
  by_cases h0 : i = 0
  · subst h0
    rw [Nat.add_zero]
    cases h : b.getLsbD n <;> simp
  · have e : (1#16).getLsbD i = false := by rw [BitVec.getLsbD_one]; simp [h0]
    rw [e]
    split
    · rw [e]; simp
    · simp
/-- The digit that decides. -/
theorem gtop (s : BitVec 16) (b : BitVec 8) (z : Int) (j : Nat) (hj : j < 8) (hz : z = ((7 - j : Nat) : Int)) :
    ints.bin .xor .u16 (ints.bin .shr .u16 (w16 s) 15) (ints.conv .u16 (ints.bin .and .u8 (ints.bin .shr .u8 (w8 b) (ints.conv .u64 z)) 1)) = if s.msb != b.getLsbD (7 - j) then 1 else 0 := by
  have e : IntKind.u64.wrap z = ((7 - j : Nat) : Int) := by rw [u64w, hz]; omega
  show rBin .xor .u16 (rBin .shr .u16 (w16 s) ((15 : Nat) : Int)) (IntKind.u16.wrap (rBin .and .u8 (rBin .shr .u8 (w8 b) (IntKind.u64.wrap z)) (w8 1#8))) = _
  rw [e, shr16 _ 15 (by omega), shr8 _ _ (by omega), and8, wide, xor16, top16, one8]
  cases s.msb <;> cases b.getLsbD (7 - j) <;> rfl
theorem gnext (s : BitVec 16) (x : Bool) : (s.msb != x) = true → ints.bin .xor .u16 (ints.bin .shl .u16 (w16 s) 1) 4129 = w16 (gstep s x) := fun h => by
  show rBin .xor .u16 (rBin .shl .u16 (w16 s) ((1 : Nat) : Int)) (w16 0x1021#16) = _
  rw [shl16 _ 1 (by omega), xor16]
  unfold gstep
  rw [if_pos h]
theorem gnext0 (s : BitVec 16) (x : Bool) : (s.msb != x) = false → ints.bin .shl .u16 (w16 s) 1 = w16 (gstep s x) := fun h => by
  show rBin .shl .u16 (w16 s) ((1 : Nat) : Int) = _
  rw [shl16 _ 1 (by omega)]
  unfold gstep
  rw [h, if_neg (by decide), BitVec.xor_zero]
theorem bitsOf_len (c : BitVec 8) : (bitsOf c).length = 8 := rfl
theorem take_bits (c : BitVec 8) (j : Nat) (h : j < 8) : (bitsOf c).take (j + 1) = (bitsOf c).take j ++ [c.getLsbD (7 - j)] := by rw [List.take_add_one, bitsOf_get c j h]; rfl

/-! ### Spoiling, a digit of the mask at a time -/
def mtop (mask : BitVec 16) (i : Nat) : BitVec 16 := mask &&& (BitVec.allOnes 16 <<< (16 - i))
theorem mtop_get (mask : BitVec 16) (i q : Nat) (hq : q < 16) : (mtop mask i).getLsbD q = (mask.getLsbD q && decide (16 - i ≤ q)) := by
  unfold mtop
  rw [BitVec.getLsbD_and, BitVec.getLsbD_shiftLeft, BitVec.getLsbD_allOnes]
  by_cases h : 16 - i ≤ q
  · have h1 : ¬ q < 16 - i := by omega
    have h2 : q - (16 - i) < 16 := by omega
    simp [h, h1, h2, hq]
  · have h1 : q < 16 - i := by omega
    simp [h, h1]
theorem mtop_zero (mask : BitVec 16) : mtop mask 0 = 0#16 := by
  apply BitVec.eq_of_getLsbD_eq
  intro q hq
  rw [mtop_get mask 0 q hq, decide_eq_false (by omega)]
  simp
theorem mtop_all (mask : BitVec 16) : mtop mask 16 = mask := by
  apply BitVec.eq_of_getLsbD_eq
  intro q hq
  rw [mtop_get mask 16 q hq, decide_eq_true (by omega)]
  simp
theorem turned_mtop (mask : BitVec 16) (bit : Int) (i : Nat) (k : Int) : turned (mtop mask i) bit k = (turned mask bit k && decide (k - bit < i)) := by
  unfold turned
  by_cases h1 : 0 ≤ k - bit
  · by_cases h2 : k - bit < 16
    · rw [mtop_get _ _ _ (by omega)]
      have : decide (16 - i ≤ 15 - (k - bit).toNat) = decide (k - bit < i) := by
        by_cases h : k - bit < i
        · rw [decide_eq_true h, decide_eq_true (by omega)]
        · rw [decide_eq_false h, decide_eq_false (by omega)]
      rw [this]
      simp [Bool.and_assoc]
    · rw [decide_eq_false h2]; simp
  · rw [decide_eq_false h1]; simp
theorem byte_ext (x y : BitVec 8) (h : ∀ j, j < 8 → x.getLsbD (7 - j) = y.getLsbD (7 - j)) : x = y := by
  apply BitVec.eq_of_getLsbD_eq
  intro i hi
  have := h (7 - i) (by omega)
  rwa [show 7 - (7 - i) = i from by omega] at this
theorem digit_get (r j : Nat) (hr : r < 8) (hj : j < 8) : (128#8 >>> r).getLsbD (7 - j) = decide (j = r) := by
  rw [BitVec.getLsbD_ushiftRight]
  match r, hr, j, hj with
  | r + 0, hr, j, hj => revert r j; decide
/-- Where nothing is turned. -/
theorem pat_keep (mask : BitVec 16) (bit : Int) (i a : Nat) (hi : i < 16) (h : mask.getLsbD (15 - i) = false ∨ ∀ j : Nat, j < 8 → 8 * (a : Int) + j ≠ bit + i) : pat (mtop mask (i + 1)) bit a = pat (mtop mask i) bit a := by
  refine byte_ext _ _ fun j hj => ?_
  rw [pat_get _ _ _ _ hj, pat_get _ _ _ _ hj, turned_mtop, turned_mtop]
  by_cases hk : 8 * (a : Int) + j = bit + i
  · have ht : turned mask bit (8 * (a : Int) + j) = false := by
      rcases h with h | h
      · unfold turned
        rw [show 8 * (a : Int) + j - bit = (i : Int) from by omega, Int.toNat_natCast, h]
        simp
      · exact absurd hk (h j hj)
    rw [ht]
    simp
  · congr 1
    by_cases h1 : 8 * (a : Int) + j - bit < (i : Int)
    · rw [decide_eq_true h1, decide_eq_true (by omega)]
    · rw [decide_eq_false h1, decide_eq_false (by omega)]
theorem pat_turn (mask : BitVec 16) (bit : Int) (i n : Nat) (hi : i < 16) (h : mask.getLsbD (15 - i) = true) (hn : bit + i = n) : pat (mtop mask (i + 1)) bit (n / 8) = pat (mtop mask i) bit (n / 8) ^^^ (128#8 >>> (n % 8)) := by
  refine byte_ext _ _ fun j hj => ?_
  rw [BitVec.getLsbD_xor, pat_get _ _ _ _ hj, pat_get _ _ _ _ hj, turned_mtop, turned_mtop, digit_get _ _ (by omega) hj]
  by_cases hk : j = n % 8
  · have e : 8 * ((n / 8 : Nat) : Int) + j = n := by omega
    have ht : turned mask bit (8 * ((n / 8 : Nat) : Int) + j) = true := by
      unfold turned
      rw [show 8 * ((n / 8 : Nat) : Int) + j - bit = (i : Int) from by omega, Int.toNat_natCast, h, decide_eq_true (by omega), decide_eq_true (by omega)]
      rfl
    rw [ht, decide_eq_true hk, decide_eq_true (show 8 * ((n / 8 : Nat) : Int) + j - bit < ((i + 1 : Nat) : Int) from by omega), decide_eq_false (show ¬ 8 * ((n / 8 : Nat) : Int) + j - bit < (i : Int) from by omega)]
    rfl
  · have e : 8 * ((n / 8 : Nat) : Int) + j ≠ n := by omega
    rw [decide_eq_false hk, Bool.xor_false]
    congr 1
    by_cases h1 : 8 * ((n / 8 : Nat) : Int) + j - bit < (i : Int)
    · rw [decide_eq_true h1, decide_eq_true (by omega)]
    · rw [decide_eq_false h1, decide_eq_false (by omega)]
theorem spoilt_keep (mask : BitVec 16) (bit : Int) (bs : List (BitVec 8)) (i : Nat) (hi : i < 16) (h : mask.getLsbD (15 - i) = false ∨ bit + i < 0 ∨ 8 * (bs.length : Int) ≤ bit + i) : spoilt (mtop mask (i + 1)) bit 0 bs = spoilt (mtop mask i) bit 0 bs := by
  apply List.ext_getElem?
  intro a
  rw [spoilt_get, spoilt_get]
  cases hb : bs[a]? with
  | none => rfl
  | some c =>
    have hal : a < bs.length := (List.getElem?_eq_some_iff.1 hb).1
    rw [Option.map_some, Option.map_some, Nat.zero_add, pat_keep mask bit i a hi (h.imp id fun h j hj => by omega)]
theorem spoilt_turn (mask : BitVec 16) (bit : Int) (bs : List (BitVec 8)) (i n : Nat) (hi : i < 16) (h : mask.getLsbD (15 - i) = true) (hn : bit + i = n) (c : BitVec 8) (hc : (spoilt (mtop mask i) bit 0 bs)[n / 8]? = some c) :
    spoilt (mtop mask (i + 1)) bit 0 bs = (spoilt (mtop mask i) bit 0 bs).set (n / 8) (c ^^^ (128#8 >>> (n % 8))) := by
  apply List.ext_getElem?
  intro a
  rw [List.getElem?_set, spoilt_get]
  by_cases ha : n / 8 = a
  · subst ha
    have hl : n / 8 < (spoilt (mtop mask i) bit 0 bs).length := (List.getElem?_eq_some_iff.1 hc).1
    rw [if_pos rfl, if_pos hl]
    rw [spoilt_get] at hc
    cases hb : bs[n / 8]? with
    | none => rw [hb] at hc; cases hc
    | some b =>
      rw [hb, Option.map_some, Nat.zero_add] at hc
      rw [Option.map_some, Nat.zero_add, pat_turn mask bit i n hi h hn, ← Option.some.inj hc, BitVec.xor_assoc]
  · rw [if_neg ha, spoilt_get]
    cases hb : bs[a]? with
    | none => rfl
    | some b => rw [Option.map_some, Option.map_some, Nat.zero_add, pat_keep mask bit i a hi (.inr fun j hj => by omega)]
/-- A digit of the mask. -/
theorem mbit (mask : BitVec 16) (z : Int) (i : Nat) (hi : i < 16) (hz : z = ((15 - i : Nat) : Int)) : ints.bin .and .u16 (ints.bin .shr .u16 (w16 mask) (ints.conv .u64 z)) 1 = if mask.getLsbD (15 - i) then 1 else 0 := by
  have e : IntKind.u64.wrap z = ((15 - i : Nat) : Int) := by rw [u64w, hz]; omega
  show rBin .and .u16 (rBin .shr .u16 (w16 mask) (IntKind.u64.wrap z)) (w16 1#16) = _
  rw [e, shr16 _ _ (by omega), and16, one16]
  cases mask.getLsbD (15 - i) <;> rfl
/-- The byte with one digit turned. -/
theorem dturn (c : BitVec 8) (n : Nat) (z : Int) (hz : z = (n : Int)) : ints.bin .xor .u8 (w8 c) (ints.bin .shr .u8 128 (ints.conv .u64 (ints.bin .rem .i64 z 8))) = w8 (c ^^^ (128#8 >>> (n % 8))) := by
  have e : IntKind.u64.wrap (z.tmod 8) = ((n % 8 : Nat) : Int) := by
    rw [hz, Int.tmod_eq_emod_of_nonneg (by omega), u64w]
    omega
  show rBin .xor .u8 (w8 c) (rBin .shr .u8 (w8 128#8) (IntKind.u64.wrap (z.tmod 8))) = _
  rw [e, shr8 _ _ (by omega), xor8]
theorem dplace (n : Nat) (z : Int) (hz : z = (n : Int)) (hn : n ≤ 1000000000000) : ints.bin .quo .i64 z 8 = ((n / 8 : Nat) : Int) := by
  show IntKind.i64.wrap (z.tdiv 8) = _
  rw [hz, Int.tdiv_eq_ediv_of_nonneg (by omega), wrap_in] <;> omega
def is7 (y : Int) (j : Nat) : Prop := y = 7 - (j : Int)
/-- What a round of the document's way to spoil decides, and does. -/
theorem rspoil_facts {I : Ints} (hI : I = ints) (mask : BitVec 16) (q bit z : Int) (hq : q = w16 mask) (hb : -9223372036854775808 ≤ bit ∧ bit ≤ 9223372036854775807) (bs : List (BitVec 8)) (hn : bs.length ≤ 1000000000) (i : Nat) (hz : isN z i) (hi : i < 16) (L : List (List G)) (hL : isB L (spoilt (mtop mask i) bit 0 bs)) :
    isN (I.bin .add .i64 z 1) (i + 1) ∧ 0 ≤ I.conv .u64 (I.bin .sub .i64 15 z) ∧ ∃ t : Bool, I.cmp .eql (I.bin .and .u16 (I.bin .shr .u16 q (I.conv .u64 (I.bin .sub .i64 15 z))) 1) 0 = !t ∧
      (t = false → isB L (spoilt (mtop mask (i + 1)) bit 0 bs)) ∧
      (I.cmp .gtr bit (I.bin .mul .i64 8 (I.ofNat (I.len L))) = true → isB L (spoilt (mtop mask (i + 1)) bit 0 bs)) ∧
      (I.cmp .lss bit (-16) = true → isB L (spoilt (mtop mask (i + 1)) bit 0 bs)) ∧
      (t = true → I.cmp .gtr bit (I.bin .mul .i64 8 (I.ofNat (I.len L))) = false → I.cmp .lss bit (-16) = false →
        (I.cmp .geq (I.bin .add .i64 bit z) 0 = false → isB L (spoilt (mtop mask (i + 1)) bit 0 bs)) ∧
        (I.cmp .geq (I.bin .add .i64 bit z) 0 = true →
          (I.cmp .lss (I.bin .add .i64 bit z) (I.bin .mul .i64 8 (I.ofNat (I.len L))) = false → isB L (spoilt (mtop mask (i + 1)) bit 0 bs)) ∧
          (I.cmp .lss (I.bin .add .i64 bit z) (I.bin .mul .i64 8 (I.ofNat (I.len L))) = true → ∃ (p : Nat) (wc : Int), isN (I.bin .quo .i64 (I.bin .add .i64 bit z) 8) p ∧ p < I.len L ∧ L[p]? = some [.int .u8 (.sym wc)] ∧ 0 ≤ I.conv .u64 (I.bin .rem .i64 (I.bin .add .i64 bit z) 8) ∧
            isB (I.set L p [.int .u8 (.sym (I.bin .xor .u8 wc (I.bin .shr .u8 128 (I.conv .u64 (I.bin .rem .i64 (I.bin .add .i64 bit z) 8)))))]) (spoilt (mtop mask (i + 1)) bit 0 bs)))) := by
  subst hI
  have hz : z = (i : Int) := hz
  subst hz
  subst hq
  have hLl : ints.len L = bs.length := by
    have := hL.len
    show L.length = _
    rw [this, spoilt_len]
  rw [hLl]
  have hsb : ints.bin .sub .i64 15 (i : Int) = ((15 - i : Nat) : Int) := by show IntKind.i64.wrap (15 - (i : Int)) = _; rw [wrap_in] <;> omega
  have hl8 : ints.bin .mul .i64 8 (ints.ofNat bs.length) = 8 * (bs.length : Int) := by show IntKind.i64.wrap (8 * (bs.length : Int)) = _; rw [wrap_in] <;> omega
  have hmb := mbit mask _ i hi hsb
  rw [hmb, hl8]
  have hkeep : (mask.getLsbD (15 - i) = false ∨ bit + i < 0 ∨ 8 * (bs.length : Int) ≤ bit + i) → isB L (spoilt (mtop mask (i + 1)) bit 0 bs) := fun h => by
    rw [spoilt_keep mask bit bs i hi h]
    exact hL
  refine ⟨?_, ?_, mask.getLsbD (15 - i), by cases mask.getLsbD (15 - i) <;> rfl, fun h => hkeep (.inl h), fun h => ?_, fun h => ?_, fun ht h1 h2 => ?_⟩
  · show IntKind.i64.wrap ((i : Int) + 1) = _
    rw [wrap_in] <;> omega
  · rw [hsb]
    show 0 ≤ IntKind.u64.wrap _
    rw [u64w]
    omega
  · have : bit > 8 * (bs.length : Int) := of_decide_eq_true h
    exact hkeep (.inr (.inr (by omega)))
  · have : bit < -16 := of_decide_eq_true h
    exact hkeep (.inr (.inl (by omega)))
  · have h1 : ¬ bit > 8 * (bs.length : Int) := of_decide_eq_false h1
    have h2 : ¬ bit < -16 := of_decide_eq_false h2
    have e : ints.bin .add .i64 bit (i : Int) = bit + i := by show IntKind.i64.wrap (bit + (i : Int)) = _; rw [wrap_in] <;> omega
    rw [e]
    refine ⟨fun h => ?_, fun h => ⟨fun h' => ?_, fun h' => ?_⟩⟩
    · have : ¬ (bit + i ≥ 0) := of_decide_eq_false h
      exact hkeep (.inr (.inl (by omega)))
    · have : ¬ (bit + i < 8 * (bs.length : Int)) := of_decide_eq_false h'
      exact hkeep (.inr (.inr (by omega)))
    · have h3 : bit + i ≥ 0 := of_decide_eq_true h
      have h4 : bit + i < 8 * (bs.length : Int) := of_decide_eq_true h'
      obtain ⟨n, hn3⟩ : ∃ n : Nat, bit + i = n := ⟨(bit + i).toNat, by omega⟩
      have hnl : n / 8 < bs.length := by omega
      obtain ⟨c, hc⟩ : ∃ c, (spoilt (mtop mask i) bit 0 bs)[n / 8]? = some c := ⟨_, List.getElem?_eq_getElem (by rw [spoilt_len]; exact hnl)⟩
      refine ⟨n / 8, w8 c, dplace n _ hn3 (by omega), hnl, hL.get hc, ?_, ?_⟩
      · show 0 ≤ IntKind.u64.wrap ((bit + i).tmod 8)
        rw [u64w]
        omega
      · rw [dturn c n _ hn3, spoilt_turn mask bit bs i n hi ht hn3 c hc]
        unfold isB at hL ⊢
        rw [hL]
        simp [nrow, ints, List.map_set]
end Go.Proofs.Ytccfcenhpmdemaa.E
