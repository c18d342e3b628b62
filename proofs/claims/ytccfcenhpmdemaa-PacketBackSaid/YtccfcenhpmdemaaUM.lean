/- Plain laws: what is packed is unpacked. -/
import Derived.Test.YtccfcenhpmdemaaPU
import Derived.Test.YtccfcenhpmdemaaPQ
namespace Go.Proofs.Ytccfcenhpmdemaa.E
open Go
set_option linter.unusedVariables false
set_option maxRecDepth 100000

theorem wordIs {y : Int} (h : (Lit.int .u16 y).wf = true) : ∃ b : BitVec 16, y = w16 b := by
  have h2 : (decide (IntKind.u16.min ≤ y) && decide (y ≤ IntKind.u16.max)) = true := h
  rw [show IntKind.u16.min = 0 from rfl, show IntKind.u16.max = 65535 from rfl] at h2
  have h3 : 0 ≤ y ∧ y ≤ 65535 := by simpa using h2
  refine ⟨BitVec.ofNat 16 y.toNat, ?_⟩
  unfold w16
  rw [BitVec.toNat_ofNat, Nat.mod_eq_of_lt (by omega)]
  omega
theorem or_add (a b : Nat) (hb : b < 256) : (256 * a) ||| b = 256 * a + b := by
  have := Nat.two_pow_add_eq_or_of_lt (i := 8) (b := b) (by simpa using hb) a
  simpa using this.symm
theorem numStep_eq (n : Int) (c : BitVec 8) (h0 : 0 ≤ n) (h1 : n < 18446744073709551616) : numStep n c = (n * 256) % 18446744073709551616 + w8 c := by
  obtain ⟨m, rfl⟩ : ∃ m : Nat, n = (m : Int) := ⟨n.toNat, by omega⟩
  have hc := c.isLt
  have e1 : IntKind.u64.wrap (w8 c) = ((c.toNat : Nat) : Int) := by unfold w8; rw [IntKind.wrap_u64]; omega
  have e2 : rBin .shl .u64 (m : Int) 8 = ((256 * (m % 72057594037927936) : Nat) : Int) := by
    show IntKind.u64.wrap ((m : Int) * 2 ^ (min (8 : Int).toNat 64)) = _
    rw [IntKind.wrap_u64, show ((2 : Int) ^ (min (8 : Int).toNat 64)) = 256 from rfl]
    omega
  unfold numStep
  rw [e1, e2]
  show IntKind.u64.wrap ((BitVec.ofInt 64 ((256 * (m % 72057594037927936) : Nat) : Int) ||| BitVec.ofInt 64 ((c.toNat : Nat) : Int)).toNat : Int) = _
  rw [BitVec.toNat_or, BitVec.ofInt_natCast, BitVec.ofInt_natCast, BitVec.toNat_ofNat, BitVec.toNat_ofNat, Nat.mod_eq_of_lt (show 256 * (m % 72057594037927936) < 2 ^ 64 by omega), Nat.mod_eq_of_lt (show c.toNat < 2 ^ 64 by omega), or_add _ _ hc, IntKind.wrap_u64]
  unfold w8
  omega
theorem byteAt_val (v : Int) (k : Nat) : w8 (byteAt v k) = (v / 2 ^ k) % 256 := by
  unfold byteAt
  rw [w8_ofInt, Int.fdiv_eq_ediv_of_nonneg _ (by exact Int.le_of_lt (Int.pow_pos (by decide)))]
theorem numB_word (v : Int) (h : -9223372036854775808 ≤ v ∧ v ≤ 9223372036854775807) : numB (wordB v) = v := by
  have step : ∀ (q n M : Int) (c : BitVec 8), 0 ≤ M → M * 256 ≤ 18446744073709551616 → n = (q / 256) % M → 0 < M → w8 c = q % 256 → numStep n c = q % (M * 256) := fun q n M c h0 h1 hn hM hc => by
    have hb := Int.emod_nonneg (q / 256) (show M ≠ 0 by omega)
    have hl := Int.emod_lt_of_pos (q / 256) hM
    rw [numStep_eq n c (by omega) (by omega), hc, hn]
    have e : ((q / 256) % M * 256) % 18446744073709551616 = (q / 256) % M * 256 := by
      rw [Int.emod_eq_of_lt] <;> omega
    rw [e]
    have h3 := Int.emod_add_mul_ediv q (M * 256)
    have h4 : q / (M * 256) = q / 256 / M := by rw [Int.mul_comm M 256, ← Int.ediv_ediv_of_nonneg (by decide)]
    have h5 := Int.emod_add_mul_ediv (q / 256) M
    have h6 := Int.emod_add_mul_ediv q 256
    rw [h4] at h3
    have h7 : M * 256 * (q / 256 / M) = 256 * (M * (q / 256 / M)) := by rw [Int.mul_comm M 256, Int.mul_assoc]
    rw [h7] at h3
    omega
  have d : ∀ k : Nat, v / 2 ^ (k + 8) = v / 2 ^ k / 256 := fun k => by
    rw [Int.pow_add, ← Int.ediv_ediv_of_nonneg (by exact Int.le_of_lt (Int.pow_pos (by decide)))]
    rfl
  have b : ∀ k, w8 (byteAt v k) = (v / 2 ^ k) % 256 := byteAt_val v
  have s1 : numStep 0 (byteAt v 56) = (v / 2 ^ 56) % 256 := by
    rw [numStep_eq 0 _ (by decide) (by decide), b]
    simp
  have s2 : numStep ((v / 2 ^ 56) % 256) (byteAt v 48) = (v / 2 ^ 48) % 65536 := step (v / 2 ^ 48) _ 256 _ (by decide) (by decide) (by rw [d 48]) (by decide) (b 48)
  have s3 : numStep ((v / 2 ^ 48) % 65536) (byteAt v 40) = (v / 2 ^ 40) % 16777216 := step (v / 2 ^ 40) _ 65536 _ (by decide) (by decide) (by rw [d 40]) (by decide) (b 40)
  have s4 : numStep ((v / 2 ^ 40) % 16777216) (byteAt v 32) = (v / 2 ^ 32) % 4294967296 := step (v / 2 ^ 32) _ 16777216 _ (by decide) (by decide) (by rw [d 32]) (by decide) (b 32)
  have s5 : numStep ((v / 2 ^ 32) % 4294967296) (byteAt v 24) = (v / 2 ^ 24) % 1099511627776 := step (v / 2 ^ 24) _ 4294967296 _ (by decide) (by decide) (by rw [d 24]) (by decide) (b 24)
  have s6 : numStep ((v / 2 ^ 24) % 1099511627776) (byteAt v 16) = (v / 2 ^ 16) % 281474976710656 := step (v / 2 ^ 16) _ 1099511627776 _ (by decide) (by decide) (by rw [d 16]) (by decide) (b 16)
  have s7 : numStep ((v / 2 ^ 16) % 281474976710656) (byteAt v 8) = (v / 2 ^ 8) % 72057594037927936 := step (v / 2 ^ 8) _ 281474976710656 _ (by decide) (by decide) (by rw [d 8]) (by decide) (b 8)
  have s8 : numStep ((v / 2 ^ 8) % 72057594037927936) (byteAt v 0) = v % 18446744073709551616 := step v _ 72057594037927936 _ (by decide) (by decide) (by rw [show v / 2 ^ 8 = v / 256 from rfl]) (by decide) (by rw [b 0]; simp)
  unfold numB wordB
  simp only [List.foldl_cons, List.foldl_nil]
  rw [s1, s2, s3, s4, s5, s6, s7, s8, IntKind.wrap_i64]
  omega
theorem flat_part : ∀ (d : List Int) (k : Nat) (x : Int), d[k]? = some x → ((d.flatMap wordB).take (8 * k + 8)).drop (8 * k) = wordB x
  | [], k, x, h => by simp at h
  | y :: d, 0, x, h => by
    obtain rfl : y = x := by simpa using h
    rw [List.flatMap_cons]
    have : (wordB y).length = 8 := rfl
    rw [Nat.mul_zero, Nat.zero_add, List.drop_zero, List.take_append_of_le_length (by omega), List.take_of_length_le (by omega)]
  | y :: d, k + 1, x, h => by
    have h' : d[k]? = some x := h
    have := flat_part d k x h'
    have hy : (wordB y).length = 8 := rfl
    rw [List.flatMap_cons, show 8 * (k + 1) + 8 = (wordB y).length + (8 * k + 8) by omega, show 8 * (k + 1) = (wordB y).length + 8 * k by omega, List.take_length_add_append, List.drop_length_add_append]
    exact this
theorem wordsAt_pack (d : List Int) (hd : ∀ y ∈ d, -9223372036854775808 ≤ y ∧ y ≤ 9223372036854775807) : wordsAt d.length (d.flatMap wordB) = d := by
  apply List.ext_getElem?
  intro k
  unfold wordsAt
  rw [List.getElem?_map]
  by_cases hk : k < d.length
  · rw [List.getElem?_range hk]
    have hx := List.getElem?_eq_getElem hk
    rw [hx]
    show some (wordAt d.length (d.flatMap wordB) k) = _
    unfold wordAt
    rw [show min k (d.length - 1) = k by omega, flat_part d k _ hx, numB_word _ (hd _ (List.getElem_mem hk))]
  · rw [List.getElem?_eq_none (by simpa using hk), List.getElem?_eq_none (by omega)]
    rfl
theorem or64 (a b : Int) (ha : 0 ≤ a ∧ a < 256) (hb : 0 ≤ b ∧ b < 256) : rBin .or .i64 (rBin .shl .i64 a 8) b = 256 * a + b := by
  obtain ⟨m, rfl⟩ : ∃ m : Nat, a = (m : Int) := ⟨a.toNat, by omega⟩
  obtain ⟨c, rfl⟩ : ∃ c : Nat, b = (c : Int) := ⟨b.toNat, by omega⟩
  have e2 : rBin .shl .i64 (m : Int) 8 = ((256 * m : Nat) : Int) := by
    show IntKind.i64.wrap ((m : Int) * 2 ^ (min (8 : Int).toNat 64)) = _
    rw [show ((2 : Int) ^ (min (8 : Int).toNat 64)) = 256 from rfl, wrap_in] <;> omega
  rw [e2]
  show IntKind.i64.wrap ((BitVec.ofInt 64 ((256 * m : Nat) : Int) ||| BitVec.ofInt 64 ((c : Nat) : Int)).toNat : Int) = _
  rw [BitVec.toNat_or, BitVec.ofInt_natCast, BitVec.ofInt_natCast, BitVec.toNat_ofNat, BitVec.toNat_ofNat, Nat.mod_eq_of_lt (show 256 * m < 2 ^ 64 by omega), Nat.mod_eq_of_lt (show c < 2 ^ 64 by omega), or_add _ _ (by omega), wrap_in] <;> omega
theorem checkB_in {q : PK} (h : checkB q = true) : (1 ≤ q.k ∧ q.k < 10) ∧ (0 ≤ q.f ∧ q.f < 6) ∧ (0 ≤ q.t ∧ q.t < 6) ∧ (0 ≤ q.i ∧ q.i < 4096) ∧ (0 ≤ q.l ∧ q.l < 8) ∧ (-1 ≤ q.p ∧ q.p < 6) ∧ (0 ≤ q.s ∧ q.s < 3) ∧ q.d.length ≤ 4 := by
  unfold checkB belB at h
  simp only [Bool.and_eq_true, decide_eq_true_eq] at h
  omega
/-- What is packed is unpacked. -/
theorem pk_back (q : PK) (hc : checkB q = true) (hd : ∀ y ∈ q.d, -9223372036854775808 ≤ y ∧ y ≤ 9223372036854775807) : pkOf (packB q) = q ∧ shapeB (packB q) = true := by
  obtain ⟨h1, h2, h3, h4, h5, h6, h7, h8⟩ := checkB_in hc
  obtain ⟨k, f, t, i, l, p, s, b, d⟩ := q
  simp only at h1 h2 h3 h4 h5 h6 h7 h8 hd
  have e0 : hb (packB ⟨k, f, t, i, l, p, s, b, d⟩) 0 = k := by show w8 (BitVec.ofInt 8 k) = k; rw [w8_ofInt]; omega
  have e1 : hb (packB ⟨k, f, t, i, l, p, s, b, d⟩) 1 = f := by show w8 (BitVec.ofInt 8 f) = f; rw [w8_ofInt]; omega
  have e2 : hb (packB ⟨k, f, t, i, l, p, s, b, d⟩) 2 = t := by show w8 (BitVec.ofInt 8 t) = t; rw [w8_ofInt]; omega
  have e3 : hb (packB ⟨k, f, t, i, l, p, s, b, d⟩) 3 = i / 256 := by show w8 (byteAt i 8) = _; rw [byteAt_val, show ((2 : Int) ^ 8) = 256 from rfl]; omega
  have e4 : hb (packB ⟨k, f, t, i, l, p, s, b, d⟩) 4 = i % 256 := by show w8 (BitVec.ofInt 8 i) = _; rw [w8_ofInt]
  have e5 : hb (packB ⟨k, f, t, i, l, p, s, b, d⟩) 5 = l := by show w8 (BitVec.ofInt 8 l) = l; rw [w8_ofInt]; omega
  have e6 : hb (packB ⟨k, f, t, i, l, p, s, b, d⟩) 6 = p + 1 := by show w8 (BitVec.ofInt 8 (IntKind.i64.wrap (p + 1))) = _; rw [w8_ofInt, wrap_in] <;> omega
  have e7 : hb (packB ⟨k, f, t, i, l, p, s, b, d⟩) 7 = s := by show w8 (BitVec.ofInt 8 s) = s; rw [w8_ofInt]; omega
  have e8 : rCmp .eql (hb (packB ⟨k, f, t, i, l, p, s, b, d⟩) 8) 1 = b := by show rCmp .eql (w8 (if b then 1#8 else 0#8)) 1 = b; cases b <;> rfl
  have e9 : ((packB ⟨k, f, t, i, l, p, s, b, d⟩).getD 9 0#8).toNat = d.length := by
    show (BitVec.ofInt 8 (d.length : Int)).toNat = _
    rw [BitVec.toNat_ofInt]
    omega
  have e10 : (packB ⟨k, f, t, i, l, p, s, b, d⟩).drop 10 = d.flatMap wordB := rfl
  refine ⟨?_, ?_⟩
  · unfold pkOf
    rw [e0, e1, e2, e3, e4, e5, e6, e7, e8, e9, e10, wordsAt_pack d hd, or64 _ _ (by omega) (by omega)]
    rw [show rBin .sub .i64 (p + 1) 1 = p from by show IntKind.i64.wrap (p + 1 - 1) = p; rw [wrap_in] <;> omega]
    rw [show 256 * (i / 256) + i % 256 = i by omega]
  · unfold shapeB
    rw [e9, packB_len]
    simp
theorem isPk_back (q : PK) (hc : checkB q = true) (hd : ∀ y ∈ q.d, -9223372036854775808 ≤ y ∧ y ≤ 9223372036854775807) : isPkB (sealB (packB q)) = true ∧ pkOf (opened (sealB (packB q))) = q := by
  obtain ⟨h1, h2⟩ := pk_back q hc hd
  have h3 : opened (sealB (packB q)) = packB q := seal_take _
  unfold isPkB
  rw [h3, h1, h2, hc, seal_is, sealB_len, decide_eq_true (by omega)]
  simp
/-- Spoilt bytes are other ones, where the mask's first digit falls on a digit of theirs. -/
theorem spoilt_ne (mask : BitVec 16) (bit : Nat) (bs : List (BitVec 8)) (hm : mask.getLsbD 15 = true) (hb : bit < 8 * bs.length) : spoilt mask (bit : Int) 0 bs ≠ bs := by
  intro h
  have h1 : (spoilt mask (bit : Int) 0 bs)[bit / 8]? = bs[bit / 8]? := by rw [h]
  have hlt : bit / 8 < bs.length := by omega
  rw [spoilt_get, List.getElem?_eq_getElem hlt] at h1
  simp only [Option.map_some, Option.some.injEq, Nat.zero_add] at h1
  have h2 : pat mask (bit : Int) (bit / 8) = 0#8 := by
    have h2 : pat mask (bit : Int) (bit / 8) = bs[bit / 8] ^^^ (bs[bit / 8] ^^^ pat mask (bit : Int) (bit / 8)) := by rw [← BitVec.xor_assoc, BitVec.xor_self, BitVec.zero_xor]
    rw [h1, BitVec.xor_self] at h2
    exact h2
  have h3 := pat_get mask (bit : Int) (bit / 8) (bit % 8) (by omega)
  rw [h2] at h3
  have h4 : turned mask (bit : Int) (8 * ((bit / 8 : Nat) : Int) + ((bit % 8 : Nat) : Int)) = true := by
    unfold turned
    rw [show 8 * ((bit / 8 : Nat) : Int) + ((bit % 8 : Nat) : Int) - (bit : Int) = 0 by omega]
    simpa using hm
  rw [h4] at h3
  simp at h3
theorem spoilt_none_pk (mask : BitVec 16) (bit : Nat) (y : List (BitVec 8)) (hm : mask.getLsbD 15 = true) (hb : bit < 8 * (sealB y).length) : isPkB (spoilt mask (bit : Int) 0 (sealB y)) = false := by
  cases hs : isPkB (spoilt mask (bit : Int) 0 (sealB y)) with
  | false => rfl
  | true =>
    unfold isPkB at hs
    simp only [Bool.and_eq_true, decide_eq_true_eq] at hs
    obtain ⟨⟨⟨⟨h1, h2⟩, _⟩, _⟩, _⟩ := hs
    rw [isSeal_iff _ h1] at h2
    exact (spoilt_ne mask bit _ hm hb (spoilt_found _ _ _ (seal_sum y) (by simpa using h2))).elim
end Go.Proofs.Ytccfcenhpmdemaa.E
