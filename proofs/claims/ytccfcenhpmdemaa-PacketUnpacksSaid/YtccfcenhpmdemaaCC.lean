/- Contracts: seals, what is opened, spoilt bytes. -/
import Derived.Test.YtccfcenhpmdemaaCB
namespace Go.Proofs.Ytccfcenhpmdemaa.E
open Go
set_option linter.unusedVariables false
set_option maxRecDepth 100000

def sealB (y : List (BitVec 8)) : List (BitVec 8) := y ++ [hi8 (crcSum y), lo8 (crcSum y)]
theorem sealB_len (y : List (BitVec 8)) : (sealB y).length = y.length + 2 := by simp [sealB]
/-- Is it a seal? -/
def isSeal (x : List (BitVec 8)) : Bool := sealB (x.take (x.length - 2)) == x
theorem split2 (x : List (BitVec 8)) (h : 2 ≤ x.length) : ∃ a b, x = x.take (x.length - 2) ++ [a, b] := by
  have h1 : (x.drop (x.length - 2)).length = 2 := by rw [List.length_drop]; omega
  match hq : x.drop (x.length - 2), h1 with
  | [a, b], _ => exact ⟨a, b, by rw [← hq, List.take_append_drop]⟩
theorem isSeal_iff (x : List (BitVec 8)) (h : 2 ≤ x.length) : isSeal x = (crcSum x == 0#16) := by
  obtain ⟨a, b, hx⟩ := split2 x h
  generalize hy : x.take (x.length - 2) = y at hx
  have hs := seal_zero y a b
  rw [← hx] at hs
  unfold isSeal sealB
  rw [hy]
  by_cases h0 : crcSum x = 0#16
  · obtain ⟨e1, e2⟩ := hs.1 h0
    rw [h0, ← e1, ← e2, ← hx]
    simp
  · have : ¬ (y ++ [hi8 (crcSum y), lo8 (crcSum y)] = x) := fun e => by
      rw [hx] at e
      have e3 := List.append_cancel_left e
      simp at e3
      exact h0 (hs.2 ⟨e3.1.symm, e3.2.symm⟩)
    rw [beq_eq_false_iff_ne.2 this, beq_eq_false_iff_ne.2 h0]
theorem seal_is (y : List (BitVec 8)) : isSeal (sealB y) = true := by
  unfold isSeal
  rw [sealB_len, show y.length + 2 - 2 = y.length from by omega]
  simp [sealB]
theorem seal_sum (y : List (BitVec 8)) : crcSum (sealB y) = 0#16 := (seal_zero y _ _).2 ⟨rfl, rfl⟩
theorem seal_take (y : List (BitVec 8)) : (sealB y).take ((sealB y).length - 2) = y := by
  rw [sealB_len, show y.length + 2 - 2 = y.length from by omega]
  simp [sealB]
/-- How far a byte is behind the mask's first digit: no difference where numbers go round. -/
theorem by_wrap (a : Nat) (bit : Int) (ha : a ≤ 1000000000) (hb : -9223372036854775808 ≤ bit ∧ bit ≤ 9223372036854775807) : IntKind.i64.wrap (8 * (a : Int) - bit) = 8 * (a : Int) - bit ∨ (IntKind.i64.wrap (8 * (a : Int) - bit) ≤ -8 ∧ 16 ≤ 8 * (a : Int) - bit) := by
  rw [IntKind.wrap_i64]
  omega
theorem pat_out (mask : BitVec 16) (bit : Int) (a : Nat) (h : 8 * (a : Int) - bit ≤ -8 ∨ 16 ≤ 8 * (a : Int) - bit) : pat mask bit a = 0#8 := by unfold pat; rw [if_pos h]
def w32 (b : BitVec 32) : Int := (b.toNat : Int)
theorem u32w (n : Int) : IntKind.u32.wrap n = n % 4294967296 := by simp [IntKind.wrap, IntKind.bits, IntKind.signed]
theorem wide32 (c : BitVec 16) : IntKind.u32.wrap (w16 c) = w32 (c.setWidth 32) := by
  rw [u32w]
  unfold w16 w32
  rw [BitVec.toNat_setWidth, Int.natCast_emod]
  rfl
theorem narrow32 (c : BitVec 32) : IntKind.u8.wrap (w32 c) = w8 (c.setWidth 8) := by
  rw [u8w]
  unfold w8 w32
  rw [BitVec.toNat_setWidth, Int.natCast_emod]
  rfl
theorem shl32 (a : BitVec 32) (n : Nat) (h : n ≤ 32) : rBin .shl .u32 (w32 a) (n : Int) = w32 (a <<< n) := by
  show IntKind.u32.wrap (w32 a * 2 ^ (min ((n : Int)).toNat 32)) = _
  rw [u32w, Int.toNat_natCast, Nat.min_eq_left h]
  unfold w32
  rw [BitVec.toNat_shiftLeft, Nat.shiftLeft_eq, Int.natCast_emod, Int.natCast_mul, Int.natCast_pow]
  rfl
theorem shr32 (a : BitVec 32) (n : Nat) (h : n ≤ 32) : rBin .shr .u32 (w32 a) (n : Int) = w32 (a >>> n) := by
  show (w32 a).fdiv (2 ^ (min ((n : Int)).toNat 32)) = _
  rw [Int.toNat_natCast, Nat.min_eq_left h, Int.fdiv_eq_ediv_of_nonneg _ (Int.pow_nonneg (by decide))]
  unfold w32
  rw [BitVec.toNat_ushiftRight, Nat.shiftRight_eq_div_pow, Int.natCast_ediv, Int.natCast_pow]
  rfl
/-- The byte as the code turns it. -/
theorem pat_code (mask : BitVec 16) (bit d : Int) (a : Nat) (c : BitVec 8) (hd : d = 8 * (a : Int) - bit) (h1 : -8 < d) (h2 : d < 16) :
    ints.bin .xor .u8 (w8 c) (ints.conv .u8 (ints.bin .shr .u32 (ints.bin .shl .u32 (ints.bin .shl .u32 (ints.conv .u32 (w16 mask)) 8) (ints.bin .add .i64 d 8)) 24)) = w8 (c ^^^ pat mask bit a) := by
  obtain ⟨n, hn⟩ : ∃ n : Nat, d + 8 = n := ⟨(d + 8).toNat, by omega⟩
  have e : ints.bin .add .i64 d 8 = (n : Int) := by
    show IntKind.i64.wrap (d + 8) = _
    rw [wrap_in] <;> omega
  rw [e]
  show rBin .xor .u8 (w8 c) (IntKind.u8.wrap (rBin .shr .u32 (rBin .shl .u32 (rBin .shl .u32 (IntKind.u32.wrap (w16 mask)) ((8 : Nat) : Int)) (n : Int)) ((24 : Nat) : Int))) = _
  rw [wide32, shl32 _ 8 (by omega), shl32 _ n (by omega), shr32 _ 24 (by omega), narrow32, xor8]
  unfold pat
  rw [if_neg (by omega), ← hd, hn, Int.toNat_natCast]
section
variable {P : Program} (hp : P = Try.prog)
include hp
theorem seal_ (l : List (List G)) (bs : List (BitVec 8)) (hl : isB l bs) (hn : bs.length ≤ 140737488351250) : LValid P 14 [.c (.bor 1 l)] [] (fun v m1 => ∃ l', isB l' (sealB bs) ∧ v = .one (.c (.row 0 1 none)) ∧ m1 = [.sym 1 l']) := by
  obtain ⟨I, hI⟩ := ref
  refine fn_sim hI (mo hp) (cc hp c14) fun Post hP => ?_
  cbv
  refine .go [] [] [] (sum hp l bs hl hn) rfl rfl rfl rfl rfl rfl ?_
  rintro v m1 ⟨t, ht, rfl, rfl⟩
  have hx : I.conv .u8 (I.bin .shr .u16 t 8) = w8 (hi8 (crcSum bs)) := by
    rw [hI, ht]
    show IntKind.u8.wrap (rBin .shr .u16 (w16 (crcSum bs)) ((8 : Nat) : Int)) = _
    rw [shr16 _ 8 (by omega), narrow]
    rfl
  have hy : I.conv .u8 t = w8 (lo8 (crcSum bs)) := by
    rw [hI, ht]
    show IntKind.u8.wrap (w16 (crcSum bs)) = _
    rw [narrow]
    rfl
  have hB : isB (l ++ [[.int .u8 (.sym (I.conv .u8 (I.bin .shr .u16 t 8)))], [.int .u8 (.sym (I.conv .u8 t))]]) (sealB bs) := by
    rw [hx, hy]
    exact hl.app rfl
  cbv
  refine .go [1] [] [] (concat2 hp l [[.int .u8 (.sym (I.conv .u8 (I.bin .shr .u16 t 8)))], [.int .u8 (.sym (I.conv .u8 t))]] rfl (by rw [hl.len]; exact hn)) rfl rfl rfl rfl rfl rfl ?_
  rintro v m1 ⟨rfl, rfl⟩
  generalize hw : l ++ [[.int .u8 (.sym (I.conv .u8 (I.bin .shr .u16 t 8)))], [.int .u8 (.sym (I.conv .u8 t))]] = l' at hB
  cbv
  exact hP _ _ [2] [] _ _ (by decide) rfl rfl rfl rfl rfl ⟨_, hB, rfl, by rw [← hw]; rfl⟩
theorem open_ (l : List (List G)) (bs : List (BitVec 8)) (hl : isB l bs) (hn : bs.length ≤ 140737488351250) : LValid P 40 [.c (.bor 1 l)] []
    (fun v m1 => (2 ≤ bs.length ∧ isSeal bs = true ∧ ∃ l', isB l' (bs.take (bs.length - 2)) ∧ v = .tup [.c (.row 0 1 none), gb true] ∧ m1 = [.sym 1 l']) ∨ (¬ (2 ≤ bs.length ∧ isSeal bs = true) ∧ v = .tup [.c (.g .nil), gb false] ∧ m1 = [])) := by
  refine LValid.syv (R := fun v m1 => (2 ≤ bs.length ∧ isSeal bs = true ∧ ∃ l', isB l' (bs.take (bs.length - 2)) ∧ v = .tup [.c (.row 0 1 none), .c (.g (.bool (.lit true)))] ∧ m1 = [.sym 1 l']) ∨ (¬ (2 ≤ bs.length ∧ isSeal bs = true) ∧ v = .tup [.c (.g .nil), .c (.g (.bool (.lit false)))] ∧ m1 = [])) ?_
    (fun v m1 h => h.imp (fun ⟨h1, h2, l', h3, h4, h5⟩ => ⟨h1, h2, l', h3, by rw [h4]; rfl, h5⟩) (fun ⟨h1, h2, h3⟩ => ⟨h1, by rw [h2]; rfl, h3⟩))
  obtain ⟨I, hI⟩ := ref
  have hle : I.len l = bs.length := by rw [hI]; exact hl.len
  have hnn : I.bin .sub .i64 (I.ofNat (I.len l)) 2 = (bs.length : Int) - 2 := by
    rw [hle, hI]
    show IntKind.i64.wrap ((bs.length : Int) - 2) = _
    rw [wrap_in] <;> omega
  refine fn_sim hI (mo hp) (cc hp c40) fun Post hP => ?_
  cbv
  refine .br (fun g1 => ?_) (fun g1 => ?_)
  · have h1 : ¬ (2 ≤ bs.length) := by
      have h' : rCmp .lss (I.bin .sub .i64 (I.ofNat (I.len l)) 2) 0 = true := by rw [hI] at g1 ⊢; exact g1
      rw [hnn] at h'
      have : (bs.length : Int) - 2 < 0 := by simpa [rCmp] using h'
      omega
    cbv
    exact hP _ _ [] [] _ _ .nil rfl rfl rfl rfl rfl (.inr ⟨fun h => h1 h.1, rfl, rfl⟩)
  · have h1 : 2 ≤ bs.length := by
      have h' : rCmp .lss (I.bin .sub .i64 (I.ofNat (I.len l)) 2) 0 = false := by rw [hI] at g1 ⊢; exact g1
      rw [hnn] at h'
      have : ¬ (bs.length : Int) - 2 < 0 := by simpa [rCmp] using h'
      omega
    have hk : I.bin .sub .i64 (I.ofNat (I.len l)) 2 = ((bs.length - 2 : Nat) : Int) := by rw [hnn]; exact (Int.ofNat_sub h1).symm
    have hkl : bs.length - 2 ≤ I.len l := by rw [hle]; omega
    have hE : isB (I.ext l 0 (bs.length - 2)) (bs.take (bs.length - 2)) := by rw [hI]; exact hl.take _
    have hEl : (bs.take (bs.length - 2)).length ≤ 140737488351250 := by rw [List.length_take]; omega
    have hm : I.len (I.ext l 0 (bs.length - 2)) ≤ 140737488355328 := by rw [hI]; show (List.length _) ≤ _; rw [← hI, hE.len]; omega
    generalize hkk : bs.length - 2 = k at hk hkl hE hEl hm
    generalize hx : I.ext l 0 k = lx at hE hm
    cbv
    refine .rng 0 k rfl hk (Nat.zero_le _) hkl ?_
    cbv
    refine .go [] [] [] (seal_ hp lx _ hE hEl) rfl rfl rfl rfl (by rw [← hx]; rfl) rfl ?_
    rintro v m1 ⟨l', hl', rfl, rfl⟩
    cbv
    refine .go [] [] [.bor 1] (equalB hp l' l _ _ hl' hl) rfl rfl rfl rfl rfl rfl ?_
    rintro v m1 ⟨t, ht, rfl, rfl⟩
    have hs : isSeal bs = t := by unfold isSeal; rw [hkk, ht]
    have hm1 : lx.length ≤ 140737488355328 := by rw [hE.len]; omega
    cbv
    refine .br (fun g2 => ?_) (fun g2 => ?_)
    · have h2 : t = false := by simpa [hI, ints] using g2
      cbv
      exact hP _ _ [] [] _ _ .nil rfl rfl rfl rfl rfl (.inr ⟨fun h => by rw [hs, h2] at h; exact absurd h.2 (by decide), rfl, rfl⟩)
    · have h2 : t = true := by simpa [hI, ints] using g2
      cbv
      refine .rng 0 k rfl hk (Nat.zero_le _) hkl ?_
      cbv
      refine .go [] [] [] (cloneB hp lx hm1) rfl rfl rfl rfl (by rw [← hx]; rfl) rfl ?_
      rintro v m1 ⟨rfl, rfl⟩
      cbv
      exact hP _ _ [1] [] _ _ (by decide) rfl rfl rfl rfl rfl (.inl ⟨h1, by rw [hs, h2], lx, by rw [hkk]; exact hE, rfl, rfl⟩)
theorem same2 (a b : List (List G)) (us ws : List (BitVec 8)) (ha : isB a us) (hb : isB b ws) (hn : us.length ≤ 1000000000) : LValid P 13 [.c (.bor 1 a), .c (.bor 1 b)] [] (fun v m1 => ∃ t, t = (us == ws) ∧ v = boo t ∧ m1 = []) :=
  (sameB hp a b _ _ ha hb (by rw [ha.len]; omega)).mono fun v m1 ⟨t, h1, h2⟩ => ⟨t, by rw [h1, eq_map_w8], h2⟩
end
end Go.Proofs.Ytccfcenhpmdemaa.E
