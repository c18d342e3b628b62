/- Contracts of the document's own answers on packets; a packet by small numbers. -/
import Derived.Test.YtccfcenhpmdemaaQPSame
import Derived.Test.YtccfcenhpmdemaaCRM
namespace Go.Proofs.Ytccfcenhpmdemaa.E
open Go
set_option linter.unusedVariables false
set_option maxRecDepth 100000

theorem byte_u64 (v : Int) (n : Nat) (h : n = 56 ∨ n = 48 ∨ n = 40 ∨ n = 32 ∨ n = 24 ∨ n = 16 ∨ n = 8 ∨ n = 0) : IntKind.u8.wrap (rBin .shr .u64 (IntKind.u64.wrap v) (IntKind.u64.wrap (n : Int))) = w8 (byteAt v n) := by
  have e : IntKind.u64.wrap (n : Int) = (n : Int) := by rw [IntKind.wrap_u64]; omega
  rw [e]
  show IntKind.u8.wrap ((IntKind.u64.wrap v).fdiv (2 ^ (min ((n : Int)).toNat 64))) = _
  unfold byteAt
  rw [w8_ofInt, u8w, Int.toNat_natCast, Nat.min_eq_left (by omega), IntKind.wrap_u64]
  rcases h with rfl | rfl | rfl | rfl | rfl | rfl | rfl | rfl
  · show (v % 18446744073709551616).fdiv 72057594037927936 % 256 = v.fdiv 72057594037927936 % 256
    rw [Int.fdiv_eq_ediv_of_nonneg _ (by decide), Int.fdiv_eq_ediv_of_nonneg _ (by decide)]
    omega
  · show (v % 18446744073709551616).fdiv 281474976710656 % 256 = v.fdiv 281474976710656 % 256
    rw [Int.fdiv_eq_ediv_of_nonneg _ (by decide), Int.fdiv_eq_ediv_of_nonneg _ (by decide)]
    omega
  · show (v % 18446744073709551616).fdiv 1099511627776 % 256 = v.fdiv 1099511627776 % 256
    rw [Int.fdiv_eq_ediv_of_nonneg _ (by decide), Int.fdiv_eq_ediv_of_nonneg _ (by decide)]
    omega
  · show (v % 18446744073709551616).fdiv 4294967296 % 256 = v.fdiv 4294967296 % 256
    rw [Int.fdiv_eq_ediv_of_nonneg _ (by decide), Int.fdiv_eq_ediv_of_nonneg _ (by decide)]
    omega
  · show (v % 18446744073709551616).fdiv 16777216 % 256 = v.fdiv 16777216 % 256
    rw [Int.fdiv_eq_ediv_of_nonneg _ (by decide), Int.fdiv_eq_ediv_of_nonneg _ (by decide)]
    omega
  · show (v % 18446744073709551616).fdiv 65536 % 256 = v.fdiv 65536 % 256
    rw [Int.fdiv_eq_ediv_of_nonneg _ (by decide), Int.fdiv_eq_ediv_of_nonneg _ (by decide)]
    omega
  · show (v % 18446744073709551616).fdiv 256 % 256 = v.fdiv 256 % 256
    rw [Int.fdiv_eq_ediv_of_nonneg _ (by decide), Int.fdiv_eq_ediv_of_nonneg _ (by decide)]
    omega
  · show (v % 18446744073709551616).fdiv 1 % 256 = v.fdiv 1 % 256
    rw [Int.fdiv_eq_ediv_of_nonneg _ (by decide), Int.fdiv_eq_ediv_of_nonneg _ (by decide)]
    omega
section
variable {P : Program} (hp : P = Try.prog)
include hp
theorem rsum (l : List (List G)) (bs : List (BitVec 8)) (hl : isB l bs) (hn : bs.length ≤ 140737488351250) : LValid P 39 [.c (.bor 1 l)] [] (fun v m1 => ∃ t, t = w16 (crcSum bs) ∧ v = u16 t ∧ m1 = []) := by
  obtain ⟨I, hI⟩ := ref
  have hle : I.len l = bs.length := by rw [hI]; exact hl.len
  refine fn_sim hI (mo hp) (cc hp c39) fun Post hP => ?_
  cbv
  refine .loop_next (fun n ts m => ∃ (i : Nat) (z c s : Int), n = bs.length - i ∧ isN z i ∧ isN c bs.length ∧ i ≤ bs.length ∧ s = w16 (sumFrom 0xffff#16 (bs.take i)) ∧
      ts = fr 35 [(3, u16 s), (8, .one (.c (.bor 1 l))), (9, i64 c), (10, i64 z)] ∧ m = [])
    bs.length _ _ [] [] [3, 8, 9, 10] (by decide) rfl rfl rfl ⟨0, 0, I.ofNat (I.len l), 65535, rfl, rfl, by rw [hle, hI]; rfl, Nat.zero_le _, rfl, rfl, rfl⟩ ?_
  rintro next n hnext ts m ⟨i, z, c, s, hn, hz, hc, hi, hs, rfl, rfl⟩
  cbv
  refine .br (fun g1 => ?_) (fun g1 => ?_)
  · have hi1 : i < bs.length := by
      have : z < c := by simpa [hI, ints, rCmp] using g1
      unfold isN at hz hc
      omega
    obtain ⟨b, hb⟩ : ∃ b, bs[i]? = some b := ⟨_, List.getElem?_eq_getElem hi1⟩
    have hr := hl.get hb
    have hz1 : isN (I.bin .add .i64 z 1) (i + 1) := by unfold isN at hz ⊢; rw [hI]; simp only [ints, rBin]; rw [wrap_in] <;> omega
    have htk : bs.take (i + 1) = bs.take i ++ [b] := by rw [List.take_add_one, hb]; rfl
    obtain ⟨σ, hσ⟩ : ∃ σ, σ = sumFrom 0xffff#16 (bs.take i) := ⟨_, rfl⟩
    have hend : gsteps σ ((bitsOf b).take 8) = sumFrom 0xffff#16 (bs.take (i + 1)) := by rw [htk, sumFrom_app, hσ]; exact (byteStep_bits _ _).symm
    obtain ⟨wb, hwb⟩ : ∃ wb, wb = w8 b := ⟨_, rfl⟩
    rw [← hwb] at hr
    rw [← hσ] at hs
    cbv
    refine .idx i hz (show i < I.len l from by rw [hle]; exact hi1) (.nth _ hr ?_)
    cbv
    refine .loop_next (fun n ts m => ∃ (j : Nat) (y s : Int), n = 8 - j ∧ is7 y j ∧ j ≤ 8 ∧ s = w16 (gsteps σ ((bitsOf b).take j)) ∧
        ts = fr 35 [(3, u16 s), (5, u8 wb), (6, i64 y), (8, .one (.c (.bor 1 l))), (9, i64 c), (10, i64 z)] ∧ m = [])
      8 _ _ [] [] [3, 5, 6, 8, 9, 10] (by decide) rfl rfl rfl ⟨0, 7, _, rfl, rfl, by omega, hs, rfl, rfl⟩ ?_
    rintro next2 n2 hnext2 ts m ⟨j, y, s2, hn2, hy, hj, hs2, rfl, rfl⟩
    cbv
    refine .br (fun g2 => ?_) (fun g2 => ?_)
    · have hj1 : j < 8 := by
        have : y ≥ 0 := by simpa [hI, ints, rCmp] using g2
        unfold is7 at hy
        omega
      have hyN : y = ((7 - j : Nat) : Int) := by unfold is7 at hy; omega
      have hy1 : is7 (I.bin .sub .i64 y 1) (j + 1) := by unfold is7 at hy ⊢; rw [hI]; simp only [ints, rBin]; rw [wrap_in] <;> omega
      have hu : 0 ≤ I.conv .u64 y := by rw [hI, hyN]; show 0 ≤ IntKind.u64.wrap _; rw [u64w]; omega
      have htop := gtop (gsteps σ ((bitsOf b).take j)) b y j hj1 hyN
      rw [← hs2, ← hwb, ← hI] at htop
      have hyes := gnext (gsteps σ ((bitsOf b).take j)) (b.getLsbD (7 - j))
      have hno := gnext0 (gsteps σ ((bitsOf b).take j)) (b.getLsbD (7 - j))
      rw [← hs2, ← hI] at hyes hno
      have hst : gstep (gsteps σ ((bitsOf b).take j)) (b.getLsbD (7 - j)) = gsteps σ ((bitsOf b).take (j + 1)) := by rw [take_bits b j hj1, gsteps_app]
      rw [hst] at hyes hno
      obtain ⟨t, ht⟩ : ∃ t, t = ((gsteps σ ((bitsOf b).take j)).msb != b.getLsbD (7 - j)) := ⟨_, rfl⟩
      rw [← ht] at htop hyes hno
      have hbr : I.cmp .eql (I.bin .xor .u16 (I.bin .shr .u16 s2 15) (I.conv .u16 (I.bin .and .u8 (I.bin .shr .u8 wb (I.conv .u64 y)) 1))) 1 = t := by
        rw [htop, hI]
        cases t <;> rfl
      clear ht htop hst hyN
      cbv
      refine .nonneg hu ?_
      cbv
      refine .br (fun g3 => ?_) (fun g3 => ?_)
      · have h3 := hyes (hbr.symm.trans g3)
        cbv
        exact hnext2 _ _ (8 - (j + 1)) [] [] [3, 5, 6, 8, 9, 10] _ _ (by omega) (by decide) rfl rfl rfl ⟨j + 1, _, _, rfl, hy1, hj1, h3, rfl, rfl⟩
      · have h3 := hno (hbr.symm.trans g3)
        cbv
        exact hnext2 _ _ (8 - (j + 1)) [] [] [3, 5, 6, 8, 9, 10] _ _ (by omega) (by decide) rfl rfl rfl ⟨j + 1, _, _, rfl, hy1, hj1, h3, rfl, rfl⟩
    · have hj1 : j = 8 := by
        have : ¬ y ≥ 0 := by simpa [hI, ints, rCmp] using g2
        unfold is7 at hy
        omega
      have h3 : s2 = w16 (sumFrom 0xffff#16 (bs.take (i + 1))) := by rw [hs2, hj1, hend]
      cbv
      exact hnext _ _ (bs.length - (i + 1)) [] [] [3, 8, 9, 10] _ _ (by omega) (by decide) rfl rfl rfl ⟨i + 1, _, c, _, rfl, hz1, hc, hi1, h3, rfl, rfl⟩
  · have hi1 : i = bs.length := by
      have : ¬ z < c := by simpa [hI, ints, rCmp] using g1
      unfold isN at hz hc
      omega
    cbv
    exact hP _ _ [] [] _ _ .nil rfl rfl rfl rfl rfl ⟨_, by rw [hs, hi1, List.take_length]; rfl, rfl, rfl⟩
theorem rseal (l : List (List G)) (bs : List (BitVec 8)) (hl : isB l bs) (hn : bs.length ≤ 140737488351250) : LValid P 26 [.c (.bor 1 l)] [] (fun v m1 => ∃ l', isB l' (sealB bs) ∧ v = .one (.c (.row 0 1 none)) ∧ m1 = [.sym 1 l']) := by
  obtain ⟨I, hI⟩ := ref
  have hle : I.len l = bs.length := by rw [hI]; exact hl.len
  refine fn_sim hI (mo hp) (cc hp c26) fun Post hP => ?_
  cbv
  refine .go [] [] [] (rsum hp l bs hl hn) rfl rfl rfl rfl rfl rfl ?_
  rintro v m1 ⟨t, ht, rfl, rfl⟩
  have hx : I.conv .u8 (I.bin .shr .u16 t 8) = w8 (hi8 (crcSum bs)) := by
    rw [hI, ht]
    show IntKind.u8.wrap (rBin .shr .u16 (w16 (crcSum bs)) ((8 : Nat) : Int)) = _
    rw [shr16 _ 8 (by omega), narrow]
    rfl
  have hy : I.conv .u8 t = w8 (lo8 (crcSum bs)) := by
    rw [hI, ht]
    show IntKind.u8.wrap (w16 (crcSum bs)) = _
    rw [narrow]
    rfl
  have hB : isB (I.app l [[.int .u8 (.sym (I.conv .u8 (I.bin .shr .u16 t 8)))], [.int .u8 (.sym (I.conv .u8 t))]]) (sealB bs) := by
    rw [hx, hy, hI]
    exact hl.app rfl
  have hln : I.len (I.app l [[.int .u8 (.sym (I.conv .u8 (I.bin .shr .u16 t 8)))], [.int .u8 (.sym (I.conv .u8 t))]]) = bs.length + 2 := by
    rw [hI] at hB ⊢
    exact hB.len.trans (sealB_len bs)
  cbv
  refine .most (show I.len l * 1 ≤ 140737488355328 from by rw [hle]; omega) (show I.len l ≤ 140737488355328 from by rw [hle]; omega) ?_
  cbv
  refine .most (show I.len (I.app l [[.int .u8 (.sym (I.conv .u8 (I.bin .shr .u16 t 8)))], [.int .u8 (.sym (I.conv .u8 t))]]) * 1 ≤ 140737488355328 from by rw [hln]; omega) (show I.len (I.app l [[.int .u8 (.sym (I.conv .u8 (I.bin .shr .u16 t 8)))], [.int .u8 (.sym (I.conv .u8 t))]]) ≤ 140737488355328 from by rw [hln]; omega) ?_
  cbv
  exact hP _ _ [2] [] _ _ (by decide) rfl rfl rfl rfl rfl ⟨_, hB, rfl, rfl⟩
set_option maxHeartbeats 4000000 in
/-- Are two packets the same? -/
theorem refsame (x y : PZ) (D1 D2 : List (List G)) (d1 d2 : List Int) (h1 : isL .i64 D1 d1) (h2 : isL .i64 D2 d2) (hl : d1.length ≤ 140737488355328) : LValid P 25 [x.arg D1, y.arg D2] [] (fun v m1 => ∃ t, t = (x.pk d1 == y.pk d2) ∧ v = boo t ∧ m1 = []) := by
  refine bx (LValid.boo (LValid.sy ?_))
  show LValid P 25 [.agg [.g (.int .i64 (.sym x.k.val)), .g (.int .i64 (.sym x.f.val)), .g (.int .i64 (.sym x.t.val)), .g (.int .i64 (.sym x.i.val)), .g (.int .i64 (.sym x.l.val)), .g (.int .i64 (.sym x.p.val)), .g (.int .i64 (.sym x.s.val)), .g (.bool (.sym x.b.val)), .bor 1 D1], .agg [.g (.int .i64 (.sym y.k.val)), .g (.int .i64 (.sym y.f.val)), .g (.int .i64 (.sym y.t.val)), .g (.int .i64 (.sym y.i.val)), .g (.int .i64 (.sym y.l.val)), .g (.int .i64 (.sym y.p.val)), .g (.int .i64 (.sym y.s.val)), .g (.bool (.sym y.b.val)), .bor 1 D2]] [] _
  rw [show x.pk d1 = ⟨x.k.val, x.f.val, x.t.val, x.i.val, x.l.val, x.p.val, x.s.val, x.b.val, d1⟩ from rfl, show y.pk d2 = ⟨y.k.val, y.f.val, y.t.val, y.i.val, y.l.val, y.p.val, y.s.val, y.b.val, d2⟩ from rfl]
  generalize x.k.val = xk, x.f.val = xf, x.t.val = xt, x.i.val = xi, x.l.val = xl, x.p.val = xp, x.s.val = xs, x.b.val = xb
  generalize y.k.val = yk, y.f.val = yf, y.t.val = yt, y.i.val = yi, y.l.val = yl, y.p.val = yp, y.s.val = ys, y.b.val = yb
  obtain ⟨I, hI⟩ := ref
  have hn1 : I.len D1 = d1.length := by rw [hI]; exact h1.len
  have hn2 : I.len D2 = d2.length := by rw [hI]; exact h2.len
  have bad : ∀ t : Bool, t = false → ¬ ((⟨xk, xf, xt, xi, xl, xp, xs, xb, d1⟩ : PK) = ⟨yk, yf, yt, yi, yl, yp, ys, yb, d2⟩) → t = ((⟨xk, xf, xt, xi, xl, xp, xs, xb, d1⟩ : PK) == ⟨yk, yf, yt, yi, yl, yp, ys, yb, d2⟩) := fun t ht h => by rw [ht, beq_eq_false_iff_ne.2 h]
  refine fn_sim hI (mo hp) (cc hp c25) fun Post hP => ?_
  cbv
  refine .br (fun g => ?_) (fun g => ?_)
  · have g : xk ≠ yk := by simpa [hI, ints, rCmp] using g
    cbv
    exact hP _ _ [] [] _ _ .nil rfl rfl rfl rfl rfl ⟨_, rfl, bad _ rfl (fun e => g (by injection e)), rfl⟩
  have ek : xk = yk := by simpa [hI, ints, rCmp] using g
  clear g
  cbv
  refine .br (fun g => ?_) (fun g => ?_)
  · have g : xf ≠ yf := by simpa [hI, ints, rCmp] using g
    cbv
    exact hP _ _ [] [] _ _ .nil rfl rfl rfl rfl rfl ⟨_, rfl, bad _ rfl (fun e => g (by injection e)), rfl⟩
  have ef : xf = yf := by simpa [hI, ints, rCmp] using g
  clear g
  cbv
  refine .br (fun g => ?_) (fun g => ?_)
  · have g : xt ≠ yt := by simpa [hI, ints, rCmp] using g
    cbv
    exact hP _ _ [] [] _ _ .nil rfl rfl rfl rfl rfl ⟨_, rfl, bad _ rfl (fun e => g (by injection e)), rfl⟩
  have et : xt = yt := by simpa [hI, ints, rCmp] using g
  clear g
  cbv
  refine .br (fun g => ?_) (fun g => ?_)
  · have g : xi ≠ yi := by simpa [hI, ints, rCmp] using g
    cbv
    exact hP _ _ [] [] _ _ .nil rfl rfl rfl rfl rfl ⟨_, rfl, bad _ rfl (fun e => g (by injection e)), rfl⟩
  have ei : xi = yi := by simpa [hI, ints, rCmp] using g
  clear g
  cbv
  refine .br (fun g => ?_) (fun g => ?_)
  · have g : xl ≠ yl := by simpa [hI, ints, rCmp] using g
    cbv
    exact hP _ _ [] [] _ _ .nil rfl rfl rfl rfl rfl ⟨_, rfl, bad _ rfl (fun e => g (by injection e)), rfl⟩
  have el : xl = yl := by simpa [hI, ints, rCmp] using g
  clear g
  cbv
  refine .br (fun g => ?_) (fun g => ?_)
  · have g : xp ≠ yp := by simpa [hI, ints, rCmp] using g
    cbv
    exact hP _ _ [] [] _ _ .nil rfl rfl rfl rfl rfl ⟨_, rfl, bad _ rfl (fun e => g (by injection e)), rfl⟩
  have ep : xp = yp := by simpa [hI, ints, rCmp] using g
  clear g
  cbv
  refine .br (fun g => ?_) (fun g => ?_)
  · have g : xs ≠ ys := by simpa [hI, ints, rCmp] using g
    cbv
    exact hP _ _ [] [] _ _ .nil rfl rfl rfl rfl rfl ⟨_, rfl, bad _ rfl (fun e => g (by injection e)), rfl⟩
  have es : xs = ys := by simpa [hI, ints, rCmp] using g
  clear g
  cbv
  refine .br (fun g => ?_) (fun g => ?_)
  · have g : xb ≠ yb := by
      have g : I.not (I.beq xb yb) = true := g
      rw [hI] at g
      simpa [ints] using g
    cbv
    exact hP _ _ [] [] _ _ .nil rfl rfl rfl rfl rfl ⟨_, rfl, bad _ rfl (fun e => g (by injection e)), rfl⟩
  have eb : xb = yb := by
    have g : I.not (I.beq xb yb) = false := g
    rw [hI] at g
    simpa [ints] using g
  clear g
  cbv
  refine .br (fun g => ?_) (fun g => ?_)
  · have g : d1.length ≠ d2.length := by
      have h' : rCmp .neq ((I.len D1 : Nat) : Int) ((I.len D2 : Nat) : Int) = true := by rw [hI] at g ⊢; exact g
      rw [hn1, hn2] at h'
      have : ((d1.length : Nat) : Int) ≠ (d2.length : Nat) := by simpa [rCmp] using h'
      omega
    cbv
    exact hP _ _ [] [] _ _ .nil rfl rfl rfl rfl rfl ⟨_, rfl, bad _ rfl (fun e => g (by injection e with _ _ _ _ _ _ _ _ e9; rw [e9])), rfl⟩
  have hd : d1.length = d2.length := by
    have h' : rCmp .neq ((I.len D1 : Nat) : Int) ((I.len D2 : Nat) : Int) = false := by rw [hI] at g ⊢; exact g
    rw [hn1, hn2] at h'
    have : ((d1.length : Nat) : Int) = (d2.length : Nat) := by simpa [rCmp] using h'
    omega
  clear g
  subst ek ef et ei el ep es eb
  have good : ∀ b : Bool, b = (d1 == d2) → b = ((⟨xk, xf, xt, xi, xl, xp, xs, xb, d1⟩ : PK) == ⟨xk, xf, xt, xi, xl, xp, xs, xb, d2⟩) := fun b hb => by
    rw [hb]
    by_cases h : d1 = d2
    · subst h; simp
    · rw [beq_eq_false_iff_ne.2 h, beq_eq_false_iff_ne.2 (fun e => h (by injection e))]
  cbv
  refine .loop_next (fun n ts m => ∃ (j : Nat) (z c : Int), n = d1.length - j ∧ isN z j ∧ isN c d1.length ∧ j ≤ d1.length ∧ d1.take j = d2.take j ∧
      ts = fr 87 [(2, .one (.c (.ptr 0 (.lit 0) 9 0))), (3, .one (.c (.ptr 1 (.lit 0) 9 0))), (71, i64 c), (72, i64 z)] ∧
      m = [.lit 9 [[.g (.int .i64 (.sym xk)), .g (.int .i64 (.sym xf)), .g (.int .i64 (.sym xt)), .g (.int .i64 (.sym xi)), .g (.int .i64 (.sym xl)), .g (.int .i64 (.sym xp)), .g (.int .i64 (.sym xs)), .g (.bool (.sym xb)), .bor 1 D1]], .lit 9 [[.g (.int .i64 (.sym xk)), .g (.int .i64 (.sym xf)), .g (.int .i64 (.sym xt)), .g (.int .i64 (.sym xi)), .g (.int .i64 (.sym xl)), .g (.int .i64 (.sym xp)), .g (.int .i64 (.sym xs)), .g (.bool (.sym xb)), .bor 1 D2]]])
    d1.length _ _ [0, 1] [] [2, 3, 71, 72] (by decide) rfl rfl rfl ⟨0, 0, I.ofNat (I.len D1), rfl, rfl, by rw [hn1, hI]; rfl, Nat.zero_le _, rfl, rfl, rfl⟩ ?_
  rintro next n hnext ts m ⟨j, z, c, hn, hz, hc, hj, ht, rfl, rfl⟩
  have hz1 : isN (I.bin .add .i64 z 1) (j + 1) := by unfold isN at hz ⊢; rw [hI]; simp only [ints, rBin]; rw [wrap_in] <;> omega
  cbv
  refine .br (fun g1 => ?_) (fun g1 => ?_)
  · have hj1 : j < d1.length := by
      have : z < c := by simpa [hI, ints, rCmp] using g1
      unfold isN at hz hc
      omega
    obtain ⟨u, hu⟩ : ∃ u, d1[j]? = some u := ⟨_, List.getElem?_eq_getElem hj1⟩
    obtain ⟨w, hw⟩ : ∃ w, d2[j]? = some w := ⟨_, List.getElem?_eq_getElem (by omega)⟩
    have hr1 : D1[j]? = some [.int .i64 (.sym u)] := by rw [h1.get, hu]; rfl
    have hr2 : D2[j]? = some [.int .i64 (.sym w)] := by rw [h2.get, hw]; rfl
    have hl1 : j < I.len D1 := by rw [hn1]; exact hj1
    have hl2 : j < I.len D2 := by rw [hn2]; omega
    cbv
    refine .drawn [] ?_
    cbv
    refine .idx j hz hl1 (.nth _ hr1 ?_)
    cbv
    refine .idx j hz hl2 (.nth _ hr2 ?_)
    cbv
    refine .br (fun g2 => ?_) (fun g2 => ?_)
    · have g2 : u ≠ w := by simpa [hI, ints, rCmp] using g2
      have hne : d1 ≠ d2 := fun e => g2 (by rw [e, hw] at hu; exact (Option.some.inj hu).symm)
      cbv
      exact hP _ _ [] [] _ _ .nil rfl rfl rfl rfl rfl ⟨_, rfl, good _ (beq_eq_false_iff_ne.2 hne).symm, rfl⟩
    · have g2 : u = w := by simpa [hI, ints, rCmp] using g2
      cbv
      exact hnext _ _ (d1.length - (j + 1)) [0, 1] [] [2, 3, 71, 72] _ _ (by omega) (by decide) rfl rfl rfl ⟨j + 1, _, c, rfl, hz1, hc, hj1, by rw [List.take_add_one, List.take_add_one, ht, hu, hw, g2], rfl, rfl⟩
  · have hj1 : ¬ j < d1.length := by
      have : ¬ z < c := by simpa [hI, ints, rCmp] using g1
      unfold isN at hz hc
      omega
    have he : d1 = d2 := by
      rw [List.take_of_length_le (by omega), List.take_of_length_le (by omega)] at ht
      exact ht
    have hgd := good true (by rw [he]; simp)
    cbv
    exact hP _ _ [] [] _ _ .nil rfl rfl rfl rfl rfl ⟨_, rfl, hgd, rfl⟩
theorem rrequest (k : Z) : LValid P 24 [.c (.g (.int .i64 k))] [] (fun v m1 => ∃ t, t = reqB k.val ∧ v = boo t ∧ m1 = []) := by
  refine bx (LValid.boo (LValid.sy ?_))
  show LValid P 24 [.c (.g (.int .i64 (.sym k.val)))] [] _
  generalize k.val = k
  obtain ⟨I, hI⟩ := ref
  have hX : ∀ q : Bool, I.cmp .geq k 1 = q → reqB k = (q && I.cmp .leq k 6) := fun q h => by rw [← h, hI]; rfl
  refine fn_sim hI (mo hp) (cc hp c24) fun Post hP => ?_
  cbv
  refine .br (fun g => ?_) (fun g => ?_)
  · have g := hX _ g
    cbv
    exact hP _ _ [] [] _ _ .nil rfl rfl rfl rfl rfl ⟨_, rfl, g.symm, rfl⟩
  · have g := hX _ g
    cbv
    exact hP _ _ [] [] _ _ .nil rfl rfl rfl rfl rfl ⟨_, rfl, g.symm, rfl⟩
theorem ranswer (k : Z) : LValid P 23 [.c (.g (.int .i64 k))] [] (fun v m1 => ∃ t, t = ansI k.val ∧ v = i64 t ∧ m1 = []) := by
  refine nx (LValid.num (LValid.sy ?_))
  show LValid P 23 [.c (.g (.int .i64 (.sym k.val)))] [] _
  generalize k.val = k
  obtain ⟨I, hI⟩ := ref
  refine fn_sim hI (mo hp) (cc hp c23) fun Post hP => ?_
  cbv
  repeat' (refine .br (fun g => ?_) (fun g => ?_) <;> cbv)
  all_goals refine hP _ _ [] [] _ _ .nil rfl rfl rfl rfl rfl ⟨_, rfl, ?_, rfl⟩
  all_goals
    clear hP
    subst hI
    simp_all [ansI, Z.val, ints, rCmp]
theorem cut8 (l : List (List G)) (z : Z) (n : Nat) (hz : isN z.val n) (h8 : n ≤ 8) : LValid P 11 [.c (.bor 1 l), .c (.g (.int .i64 z))] [] (fun v m1 => ∃ l', l' = l.take n ∧ v = .one (.c (.row 0 1 none)) ∧ m1 = [.sym 1 l']) := by
  refine LValid.sy ?_
  show LValid P 11 [.c (.bor 1 l), .c (.g (.int .i64 (.sym z.val)))] [] _
  generalize z.val = z at hz
  obtain ⟨I, hI⟩ := ref
  refine fn_sim hI (mo hp) (cc hp c11) fun Post hP => ?_
  cbv
  obtain ⟨q, hq⟩ : ∃ q, q = min n l.length := ⟨_, rfl⟩
  refine .rng 0 q rfl ?_ (Nat.zero_le _) (by rw [hI, hq]; exact Nat.min_le_right _ _) ?_
  · unfold isN at hz
    simp [hI, ints, hz, hq]
    split <;> omega
  cbv
  have hl' : (I.ext l 0 q).length * 8 ≤ 140737488355328 := by
    rw [hI, hq]
    simp [ints]
    omega
  generalize hx : I.ext l 0 q = l' at hl'
  refine .go [] [] [] (copy hp l' hl') rfl rfl rfl rfl ?_ rfl ?_
  · rw [← hx]
    rfl
  rintro v m1 ⟨rfl, rfl⟩
  cbv
  exact hP _ _ [0] [] _ _ (by decide) rfl rfl rfl rfl rfl ⟨l', by rw [← hx, hI, hq]; simp [ints, List.take_eq_take_iff], rfl, rfl⟩
set_option maxHeartbeats 4000000 in
theorem rright (z : PZ) (D : List (List G)) (d : List Int) (hD : isL .i64 D d) : LValid P 38 [z.arg D] [] (fun v m1 => ∃ t, t = checkB (z.pk d) ∧ v = boo t ∧ m1 = []) := by
  refine bx (LValid.boo (LValid.sy ?_))
  show LValid P 38 [.agg [.g (.int .i64 (.sym z.k.val)), .g (.int .i64 (.sym z.f.val)), .g (.int .i64 (.sym z.t.val)), .g (.int .i64 (.sym z.i.val)), .g (.int .i64 (.sym z.l.val)), .g (.int .i64 (.sym z.p.val)), .g (.int .i64 (.sym z.s.val)), .g (.bool (.sym z.b.val)), .bor 1 D]] [] _
  rw [show z.pk d = ⟨z.k.val, z.f.val, z.t.val, z.i.val, z.l.val, z.p.val, z.s.val, z.b.val, d⟩ from rfl]
  generalize z.k.val = kd, z.f.val = f, z.t.val = t, z.i.val = i, z.l.val = l, z.p.val = p, z.s.val = s, z.b.val = b
  obtain ⟨I, hI⟩ := ref
  have hle : I.len D = d.length := by rw [hI]; exact hD.len
  have hok : checkB ⟨kd, f, t, i, l, p, s, b, d⟩ = (I.cmp .geq kd 1 && (I.cmp .leq kd 9 && (I.cmp .geq f 0 && (I.cmp .lss f 6 && (I.cmp .geq t 0 && (I.cmp .lss t 6 && (I.cmp .geq i 0 && (I.cmp .lss i 4096 && (I.cmp .geq l 0 && (I.cmp .lss l 8 && (I.cmp .geq p (-1) && (I.cmp .lss p 6 && (I.cmp .geq s 0 && (I.cmp .leq s 2 && (I.cmp .leq (I.ofNat (I.len D)) 4))))))))))))))) := by
    rw [hle, hI, Bool.eq_iff_iff]
    simp only [checkB, belB, ints, rCmp, Bool.and_eq_true, decide_eq_true_eq]
    omega
  rw [hok]
  clear hok hle
  refine fn_sim hI (mo hp) (cc hp c38) fun Post hP => ?_
  cbv
  refine .br (fun g1 => ?_) (fun g1 => ?_)
  rotate_left
  · cbv
    exact hP _ _ [] [] _ _ .nil rfl rfl rfl rfl rfl ⟨.lit false, rfl, show false = _ from by rw [g1]; rfl, rfl⟩
  cbv
  refine .br (fun g2 => ?_) (fun g2 => ?_)
  rotate_left
  · cbv
    exact hP _ _ [] [] _ _ .nil rfl rfl rfl rfl rfl ⟨.lit false, rfl, show false = _ from by rw [g1, g2]; rfl, rfl⟩
  cbv
  refine .br (fun g3 => ?_) (fun g3 => ?_)
  rotate_left
  · cbv
    exact hP _ _ [] [] _ _ .nil rfl rfl rfl rfl rfl ⟨.lit false, rfl, show false = _ from by rw [g1, g2, g3]; rfl, rfl⟩
  cbv
  refine .br (fun g4 => ?_) (fun g4 => ?_)
  rotate_left
  · cbv
    exact hP _ _ [] [] _ _ .nil rfl rfl rfl rfl rfl ⟨.lit false, rfl, show false = _ from by rw [g1, g2, g3, g4]; rfl, rfl⟩
  cbv
  refine .br (fun g5 => ?_) (fun g5 => ?_)
  rotate_left
  · cbv
    exact hP _ _ [] [] _ _ .nil rfl rfl rfl rfl rfl ⟨.lit false, rfl, show false = _ from by rw [g1, g2, g3, g4, g5]; rfl, rfl⟩
  cbv
  refine .br (fun g6 => ?_) (fun g6 => ?_)
  rotate_left
  · cbv
    exact hP _ _ [] [] _ _ .nil rfl rfl rfl rfl rfl ⟨.lit false, rfl, show false = _ from by rw [g1, g2, g3, g4, g5, g6]; rfl, rfl⟩
  cbv
  refine .br (fun g7 => ?_) (fun g7 => ?_)
  rotate_left
  · cbv
    exact hP _ _ [] [] _ _ .nil rfl rfl rfl rfl rfl ⟨.lit false, rfl, show false = _ from by rw [g1, g2, g3, g4, g5, g6, g7]; rfl, rfl⟩
  cbv
  refine .br (fun g8 => ?_) (fun g8 => ?_)
  rotate_left
  · cbv
    exact hP _ _ [] [] _ _ .nil rfl rfl rfl rfl rfl ⟨.lit false, rfl, show false = _ from by rw [g1, g2, g3, g4, g5, g6, g7, g8]; rfl, rfl⟩
  cbv
  refine .br (fun g9 => ?_) (fun g9 => ?_)
  rotate_left
  · cbv
    exact hP _ _ [] [] _ _ .nil rfl rfl rfl rfl rfl ⟨.lit false, rfl, show false = _ from by rw [g1, g2, g3, g4, g5, g6, g7, g8, g9]; rfl, rfl⟩
  cbv
  refine .br (fun g10 => ?_) (fun g10 => ?_)
  rotate_left
  · cbv
    exact hP _ _ [] [] _ _ .nil rfl rfl rfl rfl rfl ⟨.lit false, rfl, show false = _ from by rw [g1, g2, g3, g4, g5, g6, g7, g8, g9, g10]; rfl, rfl⟩
  cbv
  refine .br (fun g11 => ?_) (fun g11 => ?_)
  rotate_left
  · cbv
    exact hP _ _ [] [] _ _ .nil rfl rfl rfl rfl rfl ⟨.lit false, rfl, show false = _ from by rw [g1, g2, g3, g4, g5, g6, g7, g8, g9, g10, g11]; rfl, rfl⟩
  cbv
  refine .br (fun g12 => ?_) (fun g12 => ?_)
  rotate_left
  · cbv
    exact hP _ _ [] [] _ _ .nil rfl rfl rfl rfl rfl ⟨.lit false, rfl, show false = _ from by rw [g1, g2, g3, g4, g5, g6, g7, g8, g9, g10, g11, g12]; rfl, rfl⟩
  cbv
  refine .br (fun g13 => ?_) (fun g13 => ?_)
  rotate_left
  · cbv
    exact hP _ _ [] [] _ _ .nil rfl rfl rfl rfl rfl ⟨.lit false, rfl, show false = _ from by rw [g1, g2, g3, g4, g5, g6, g7, g8, g9, g10, g11, g12, g13]; rfl, rfl⟩
  cbv
  refine .br (fun g14 => ?_) (fun g14 => ?_)
  rotate_left
  · cbv
    exact hP _ _ [] [] _ _ .nil rfl rfl rfl rfl rfl ⟨.lit false, rfl, show false = _ from by rw [g1, g2, g3, g4, g5, g6, g7, g8, g9, g10, g11, g12, g13, g14]; rfl, rfl⟩
  cbv
  exact hP _ _ [] [] _ _ .nil rfl rfl rfl rfl rfl ⟨.sym (I.cmp .leq (I.ofNat (I.len D)) 4), rfl, show _ = _ from by rw [g1, g2, g3, g4, g5, g6, g7, g8, g9, g10, g11, g12, g13, g14]; rfl, rfl⟩
set_option maxHeartbeats 16000000 in
theorem rpack (z : PZ) (D : List (List G)) (d : List Int) (hD : isL .i64 D d) : LValid P 22 [z.arg D] []
    (fun v m1 => (checkB (z.pk d) = false ∧ v = .tup [.c (.g .nil), .c (.g (.bool (.lit false)))] ∧ m1 = []) ∨ (checkB (z.pk d) = true ∧ ∃ l, isB l (sealB (packB (z.pk d))) ∧ v = .tup [.c (.row 0 1 none), .c (.g (.bool (.lit true)))] ∧ m1 = [.sym 1 l])) := by
  refine LValid.sy ?_
  show LValid P 22 [.agg [.g (.int .i64 (.sym z.k.val)), .g (.int .i64 (.sym z.f.val)), .g (.int .i64 (.sym z.t.val)), .g (.int .i64 (.sym z.i.val)), .g (.int .i64 (.sym z.l.val)), .g (.int .i64 (.sym z.p.val)), .g (.int .i64 (.sym z.s.val)), .g (.bool (.sym z.b.val)), .bor 1 D]] [] _
  rw [show z.pk d = ⟨z.k.val, z.f.val, z.t.val, z.i.val, z.l.val, z.p.val, z.s.val, z.b.val, d⟩ from rfl]
  generalize z.k.val = kd, z.f.val = f, z.t.val = t, z.i.val = i, z.l.val = l, z.p.val = p, z.s.val = s, z.b.val = b
  obtain ⟨I, hI⟩ := ref
  have hle : I.len D = d.length := by rw [hI]; exact hD.len
  have hcl := rright hp ⟨.sym kd, .sym f, .sym t, .sym i, .sym l, .sym p, .sym s, .sym b⟩ D d hD
  rw [show PZ.pk ⟨.sym kd, .sym f, .sym t, .sym i, .sym l, .sym p, .sym s, .sym b⟩ d = ⟨kd, f, t, i, l, p, s, b, d⟩ from rfl] at hcl
  refine fn_sim hI (mo hp) (cc hp c22) fun Post hP => ?_
  cases hck : checkB ⟨kd, f, t, i, l, p, s, b, d⟩ with
  | false =>
    rw [hck] at hcl
    cbv
    refine .go [] [] [] hcl rfl rfl rfl rfl rfl rfl ?_
    rintro v m1 ⟨e, he, rfl, rfl⟩
    cbv
    refine br_t (show I.not e = true from by rw [he, hI]; rfl) ?_
    cbv
    exact hP _ _ [] [] _ _ .nil rfl rfl rfl rfl rfl (.inl ⟨hck, rfl, rfl⟩)
  | true =>
  rw [hck] at hcl
  have hdl : d.length ≤ 4 := by
    have hc := hck
    unfold checkB at hc
    simp only [Bool.and_eq_true, decide_eq_true_eq] at hc
    exact hc.2
  have q1 : I.conv .u8 kd = w8 (BitVec.ofInt 8 kd) := by rw [hI]; exact byte_conv kd
  have q2 : I.conv .u8 f = w8 (BitVec.ofInt 8 f) := by rw [hI]; exact byte_conv f
  have q3 : I.conv .u8 t = w8 (BitVec.ofInt 8 t) := by rw [hI]; exact byte_conv t
  have q4 : I.conv .u8 (I.bin .shr .i64 i 8) = w8 (byteAt i 8) := by rw [hI]; exact byte_code i 8 (by omega)
  have q5 : I.conv .u8 i = w8 (BitVec.ofInt 8 i) := by rw [hI]; exact byte_conv i
  have q6 : I.conv .u8 l = w8 (BitVec.ofInt 8 l) := by rw [hI]; exact byte_conv l
  have q7 : I.conv .u8 (I.bin .add .i64 p 1) = w8 (BitVec.ofInt 8 (IntKind.i64.wrap (p + 1))) := by rw [hI]; exact byte_conv _
  have q8 : I.conv .u8 s = w8 (BitVec.ofInt 8 s) := by rw [hI]; exact byte_conv s
  have q9 : I.conv .u8 (I.ofNat (I.len D)) = w8 (BitVec.ofInt 8 (d.length : Int)) := by rw [hle, hI]; exact byte_conv _
  have hH : ∀ fb : Int, fb = w8 (if b then 1#8 else 0#8) → isB [[.int .u8 (.sym (I.conv .u8 kd))], [.int .u8 (.sym (I.conv .u8 f))], [.int .u8 (.sym (I.conv .u8 t))], [.int .u8 (.sym (I.conv .u8 (I.bin .shr .i64 i 8)))], [.int .u8 (.sym (I.conv .u8 i))], [.int .u8 (.sym (I.conv .u8 l))], [.int .u8 (.sym (I.conv .u8 (I.bin .add .i64 p 1)))], [.int .u8 (.sym (I.conv .u8 s))], [.int .u8 (.sym (fb))], [.int .u8 (.sym (I.conv .u8 (I.ofNat (I.len D))))]] (headB ⟨kd, f, t, i, l, p, s, b, d⟩) := fun fb hfb => by
    rw [q1, q2, q3, q4, q5, q6, q7, q8, q9, hfb]
    rfl
  obtain ⟨HL, hHL⟩ : ∃ HL, HL = headB ⟨kd, f, t, i, l, p, s, b, d⟩ := ⟨_, rfl⟩
  have hHl : HL.length = 10 := by rw [hHL]; rfl
  have hpk : ∀ B, isB B (HL ++ d.flatMap wordB) → isB B (packB ⟨kd, f, t, i, l, p, s, b, d⟩) := fun B h => by rw [hHL] at h; exact h
  have hPl : (packB ⟨kd, f, t, i, l, p, s, b, d⟩).length ≤ 140737488351250 := by rw [packB_len]; show 10 + 8 * d.length ≤ _; omega
  rw [← hHL] at hH
  clear q1 q2 q3 q4 q5 q6 q7 q8 q9 hHL
  have hz1' : ∀ (z : Int) (j : Nat), j ≤ 4 → isN z j → isN (I.bin .add .i64 z 1) (j + 1) := fun z j hj hz => by unfold isN at hz ⊢; rw [hI]; simp only [ints, rBin]; rw [wrap_in] <;> omega
  have hget : ∀ j, j < d.length → ∃ x, d[j]? = some x ∧ D[j]? = some [.int .i64 (.sym x)] := fun j h => ⟨_, List.getElem?_eq_getElem h, by rw [hD.get, List.getElem?_eq_getElem h]; rfl⟩
  have hdge : ∀ (u : Int) (k : Nat) (q : Bool), is7 u k → I.cmp .geq u 0 = q → decide (k < 8) = q := fun u k q hu h => by
    have huv : u = 7 - (k : Int) := hu
    rw [hI] at h
    rw [← h]
    show _ = decide (u ≥ 0)
    by_cases h2 : k < 8
    · rw [decide_eq_true h2, decide_eq_true (by omega)]
    · rw [decide_eq_false h2, decide_eq_false (by omega)]
  have hzw : ∀ (u : Int) (k : Nat), is7 u k → k < 8 → is7 (I.bin .sub .i64 u 1) (k + 1) := fun u k hu h => by
    have huv : u = 7 - (k : Int) := hu
    unfold is7
    rw [hI, huv]
    show IntKind.i64.wrap (7 - (k : Int) - 1) = _
    rw [wrap_in] <;> omega
  have he8 : ∀ (u : Int) (k : Nat), is7 u k → k < 8 → I.bin .mul .i64 8 u = ((56 - 8 * k : Nat) : Int) := fun u k hu h => by
    have huv : u = 7 - (k : Int) := hu
    rw [hI, huv]
    show IntKind.i64.wrap (8 * (7 - (k : Int))) = _
    rw [wrap_in] <;> omega
  have hznn : ∀ (u : Int) (k : Nat), is7 u k → k < 8 → 0 ≤ I.conv .u64 (I.bin .mul .i64 8 u) := fun u k hu h => by
    rw [he8 u k hu h, hI]
    show 0 ≤ IntKind.u64.wrap _
    rw [IntKind.wrap_u64]
    omega
  have hby : ∀ (u x : Int) (k : Nat), is7 u k → k < 8 → I.conv .u8 (I.bin .shr .u64 (I.conv .u64 x) (I.conv .u64 (I.bin .mul .i64 8 u))) = w8 (byteAt x (56 - 8 * k)) := fun u x k hu h => by
    rw [he8 u k hu h, hI]
    exact byte_u64 x _ (by omega)
  have htk : ∀ (x : Int) (k : Nat), k < 8 → (wordB x).take (k + 1) = (wordB x).take k ++ [byteAt x (56 - 8 * k)] := fun x k h => by
    match k, h with
    | 0, _ => rfl
    | 1, _ => rfl
    | 2, _ => rfl
    | 3, _ => rfl
    | 4, _ => rfl
    | 5, _ => rfl
    | 6, _ => rfl
    | 7, _ => rfl
  have hap : ∀ (B : List (List G)) (pre : List (BitVec 8)) (u x : Int) (k : Nat), isB B (pre ++ (wordB x).take k) → is7 u k → k < 8 → isB (I.app B [[.int .u8 (.sym (I.conv .u8 (I.bin .shr .u64 (I.conv .u64 x) (I.conv .u64 (I.bin .mul .i64 8 u)))))]]) (pre ++ (wordB x).take (k + 1)) := fun B pre u x k hB hu h => by
    rw [hby u x k hu h, htk x k h, hI, ← List.append_assoc]
    exact hB.app rfl
  have hapl : ∀ (B : List (List G)) (pre : List (BitVec 8)) (x : Int) (k : Nat), isB B (pre ++ (wordB x).take k) → pre.length ≤ 60 → I.len B ≤ 70 := fun B pre x k hB h => by
    have := hB.len
    rw [List.length_append, List.length_take] at this
    have h8 : (wordB x).length = 8 := rfl
    rw [hI]
    show B.length ≤ _
    omega
  have hpre : ∀ j, j ≤ d.length → (HL ++ (d.take j).flatMap wordB).length ≤ 60 := fun j hj => by
    rw [List.length_append, hHl, words_len, List.length_take]
    omega
  have hnextB : ∀ (B : List (List G)) (j : Nat) (x : Int), d[j]? = some x → isB B (HL ++ (d.take j).flatMap wordB ++ (wordB x).take 8) → isB B (HL ++ (d.take (j + 1)).flatMap wordB) := fun B j x hx hB => by
    rw [List.take_add_one, hx, List.flatMap_append, ← List.append_assoc]
    have h8 : (wordB x).take 8 = wordB x := rfl
    rw [h8] at hB
    simpa using hB
  cbv
  refine .go [] [] [] hcl rfl rfl rfl rfl rfl rfl ?_
  rintro v m1 ⟨e, he, rfl, rfl⟩
  clear hcl
  cbv
  refine br_f (show I.not e = false from by rw [he, hI]; rfl) ?_
  cbv
  refine .br (fun g0 => ?_) (fun g0 => ?_)
  · have hB0 := hH (1) (by rw [show b = true from g0]; rfl)
    cbv
    refine .loop_next (fun n ts m => ∃ (j : Nat) (z c : Int) (B : List (List G)) (cl : C) (blk : Blk), n = d.length - j ∧ isN z j ∧ isN c d.length ∧ j ≤ d.length ∧ isB B (HL ++ (d.take j).flatMap wordB) ∧ ((cl = .row 0 1 (some (.lit 10)) ∧ blk = .lit 1 [[.g (.int .u8 (.sym (I.conv .u8 kd)))], [.g (.int .u8 (.sym (I.conv .u8 f)))], [.g (.int .u8 (.sym (I.conv .u8 t)))], [.g (.int .u8 (.sym (I.conv .u8 (I.bin .shr .i64 i 8))))], [.g (.int .u8 (.sym (I.conv .u8 i)))], [.g (.int .u8 (.sym (I.conv .u8 l)))], [.g (.int .u8 (.sym (I.conv .u8 (I.bin .add .i64 p 1))))], [.g (.int .u8 (.sym (I.conv .u8 s)))], [.g (.int .u8 (.sym (1)))], [.g (.int .u8 (.sym (I.conv .u8 (I.ofNat (I.len D)))))]] ∧ B = [[.int .u8 (.sym (I.conv .u8 kd))], [.int .u8 (.sym (I.conv .u8 f))], [.int .u8 (.sym (I.conv .u8 t))], [.int .u8 (.sym (I.conv .u8 (I.bin .shr .i64 i 8)))], [.int .u8 (.sym (I.conv .u8 i))], [.int .u8 (.sym (I.conv .u8 l))], [.int .u8 (.sym (I.conv .u8 (I.bin .add .i64 p 1)))], [.int .u8 (.sym (I.conv .u8 s))], [.int .u8 (.sym (1))], [.int .u8 (.sym (I.conv .u8 (I.ofNat (I.len D))))]]) ∨ (cl = .row 0 1 none ∧ blk = .sym 1 B)) ∧
        ts = fr 70 [(5, .one (.c cl)), (47, .one (.c (.bor 1 D))), (48, i64 c), (49, i64 z)] ∧ m = [blk])
      d.length _ _ [1] [] [5, 47, 48, 49] (by decide) rfl rfl rfl ⟨0, 0, I.ofNat (I.len D), _, _, _, rfl, rfl, by rw [hle, hI]; rfl, Nat.zero_le _, by rw [List.take_zero, List.flatMap_nil, List.append_nil]; exact hB0, .inl ⟨rfl, rfl, rfl⟩, rfl, rfl⟩ ?_
    rintro next n hnext ts m ⟨j, z, c, B, cl, blk, hn, hz, hc, hj, hB, hcl, rfl, rfl⟩
    have hz1 := hz1' z j (by omega) hz
    rcases hcl with ⟨rfl, rfl, rfl⟩ | ⟨rfl, rfl⟩
    · as_aux_lemma =>
        cbv
        refine .br (fun g1 => ?_) (fun g1 => ?_)
        · have hj1 : j < d.length := by
            have : z < c := by simpa [hI, ints, rCmp] using g1
            unfold isN at hz hc
            omega
          obtain ⟨x, hx, hr⟩ := hget j hj1
          have hjl : j < I.len D := by rw [hle]; exact hj1
          cbv
          refine .idx j hz hjl ?_
          cbv
          refine .nth _ hr ?_
          cbv
          refine .loop_next (fun n ts m => ∃ (k : Nat) (u : Int) (B2 : List (List G)) (cl : C) (blk : Blk), n = 8 - k ∧ is7 u k ∧ k ≤ 8 ∧ isB B2 (HL ++ (d.take j).flatMap wordB ++ (wordB x).take k) ∧ ((cl = .row 0 1 (some (.lit 10)) ∧ blk = .lit 1 [[.g (.int .u8 (.sym (I.conv .u8 kd)))], [.g (.int .u8 (.sym (I.conv .u8 f)))], [.g (.int .u8 (.sym (I.conv .u8 t)))], [.g (.int .u8 (.sym (I.conv .u8 (I.bin .shr .i64 i 8))))], [.g (.int .u8 (.sym (I.conv .u8 i)))], [.g (.int .u8 (.sym (I.conv .u8 l)))], [.g (.int .u8 (.sym (I.conv .u8 (I.bin .add .i64 p 1))))], [.g (.int .u8 (.sym (I.conv .u8 s)))], [.g (.int .u8 (.sym (1)))], [.g (.int .u8 (.sym (I.conv .u8 (I.ofNat (I.len D)))))]] ∧ B2 = [[.int .u8 (.sym (I.conv .u8 kd))], [.int .u8 (.sym (I.conv .u8 f))], [.int .u8 (.sym (I.conv .u8 t))], [.int .u8 (.sym (I.conv .u8 (I.bin .shr .i64 i 8)))], [.int .u8 (.sym (I.conv .u8 i))], [.int .u8 (.sym (I.conv .u8 l))], [.int .u8 (.sym (I.conv .u8 (I.bin .add .i64 p 1)))], [.int .u8 (.sym (I.conv .u8 s))], [.int .u8 (.sym (1))], [.int .u8 (.sym (I.conv .u8 (I.ofNat (I.len D))))]]) ∨ (cl = .row 0 1 none ∧ blk = .sym 1 B2)) ∧
              ts = fr 70 [(5, .one (.c cl)), (7, i64 x), (8, i64 u), (47, .one (.c (.bor 1 D))), (48, i64 c), (49, i64 z)] ∧ m = [blk])
            8 _ _ [0] [] [5, 7, 8, 47, 48, 49] (by decide) rfl rfl rfl ⟨0, 7, _, _, _, rfl, rfl, by omega, by rw [List.take_zero, List.append_nil]; exact hB, .inl ⟨rfl, rfl, rfl⟩, rfl, rfl⟩ ?_
          rintro next2 n2 hnext2 ts m ⟨k, u, B2, cl, blk, hn2, hu, hk, hB2, hcl, rfl, rfl⟩
          rcases hcl with ⟨rfl, rfl, rfl⟩ | ⟨rfl, rfl⟩
          · cbv
            refine .br (fun g2 => ?_) (fun g2 => ?_)
            · have hk8 : k < 8 := of_decide_eq_true (hdge u k _ hu g2)
              have hu1 := hzw u k hu hk8
              have hB3 := hap _ _ u x k hB2 hu hk8
              have hB3l := hapl _ _ x (k + 1) hB3 (hpre j hj)
              cbv
              refine .nonneg (hznn u k hu hk8) ?_
              cbv
              refine .most (Nat.le_trans (Nat.mul_le_mul_right 1 hB3l) (by decide)) (Nat.le_trans hB3l (by decide)) ?_
              cbv
              exact hnext2 _ _ (8 - (k + 1)) [2] [] [5, 7, 8, 47, 48, 49] _ _ (by omega) (by decide) rfl rfl rfl ⟨k + 1, _, _, _, _, rfl, hu1, hk8, hB3, .inr ⟨rfl, rfl⟩, rfl, rfl⟩
            · have hk8 : ¬ k < 8 := of_decide_eq_false (hdge u k _ hu g2)
              exfalso
              have h1 := hB2.len
              rw [List.length_append, List.length_append, hHl, List.length_take] at h1
              have h8 : (wordB x).length = 8 := rfl
              have h10 : ([[.int .u8 (.sym (I.conv .u8 kd))], [.int .u8 (.sym (I.conv .u8 f))], [.int .u8 (.sym (I.conv .u8 t))], [.int .u8 (.sym (I.conv .u8 (I.bin .shr .i64 i 8)))], [.int .u8 (.sym (I.conv .u8 i))], [.int .u8 (.sym (I.conv .u8 l))], [.int .u8 (.sym (I.conv .u8 (I.bin .add .i64 p 1)))], [.int .u8 (.sym (I.conv .u8 s))], [.int .u8 (.sym (1))], [.int .u8 (.sym (I.conv .u8 (I.ofNat (I.len D))))]] : List (List G)).length = 10 := rfl
              omega
          · cbv
            refine .br (fun g2 => ?_) (fun g2 => ?_)
            · have hk8 : k < 8 := of_decide_eq_true (hdge u k _ hu g2)
              have hu1 := hzw u k hu hk8
              have hB3 := hap _ _ u x k hB2 hu hk8
              have hB3l := hapl _ _ x (k + 1) hB3 (hpre j hj)
              cbv
              refine .nonneg (hznn u k hu hk8) ?_
              cbv
              refine .most (Nat.le_trans (Nat.mul_le_mul_right 1 hB3l) (by decide)) (Nat.le_trans hB3l (by decide)) ?_
              cbv
              exact hnext2 _ _ (8 - (k + 1)) [2] [] [5, 7, 8, 47, 48, 49] _ _ (by omega) (by decide) rfl rfl rfl ⟨k + 1, _, _, _, _, rfl, hu1, hk8, hB3, .inr ⟨rfl, rfl⟩, rfl, rfl⟩
            · have hk8 : k = 8 := by have := of_decide_eq_false (hdge u k _ hu g2); omega
              subst hk8
              have hB4 := hnextB _ j x hx hB2
              cbv
              exact hnext _ _ (d.length - (j + 1)) [0] [] [5, 47, 48, 49] _ _ (by omega) (by decide) rfl rfl rfl ⟨j + 1, _, c, _, _, _, rfl, hz1, hc, hj1, hB4, .inr ⟨rfl, rfl⟩, rfl, rfl⟩
        · have hj1 : j = d.length := by
            have : ¬ z < c := by simpa [hI, ints, rCmp] using g1
            unfold isN at hz hc
            omega
          rw [hj1, List.take_length] at hB
          have hBe := hpk _ hB
          cbv
          refine .go [] [] [.bor 1] (rseal hp _ _ hBe hPl) rfl rfl rfl rfl rfl rfl ?_
          rintro v m1 ⟨l3, hl3, rfl, rfl⟩
          cbv
          exact hP _ _ [1] [] _ _ (by decide) rfl rfl rfl rfl rfl (.inr ⟨hck, l3, hl3, rfl, rfl⟩)
    · as_aux_lemma =>
        cbv
        refine .br (fun g1 => ?_) (fun g1 => ?_)
        · have hj1 : j < d.length := by
            have : z < c := by simpa [hI, ints, rCmp] using g1
            unfold isN at hz hc
            omega
          obtain ⟨x, hx, hr⟩ := hget j hj1
          have hjl : j < I.len D := by rw [hle]; exact hj1
          cbv
          refine .idx j hz hjl ?_
          cbv
          refine .nth _ hr ?_
          cbv
          refine .loop_next (fun n ts m => ∃ (k : Nat) (u : Int) (B2 : List (List G)) (cl : C) (blk : Blk), n = 8 - k ∧ is7 u k ∧ k ≤ 8 ∧ isB B2 (HL ++ (d.take j).flatMap wordB ++ (wordB x).take k) ∧ (cl = .row 0 1 none ∧ blk = .sym 1 B2) ∧
              ts = fr 70 [(5, .one (.c cl)), (7, i64 x), (8, i64 u), (47, .one (.c (.bor 1 D))), (48, i64 c), (49, i64 z)] ∧ m = [blk])
            8 _ _ [0] [] [5, 7, 8, 47, 48, 49] (by decide) rfl rfl rfl ⟨0, 7, _, _, _, rfl, rfl, by omega, by rw [List.take_zero, List.append_nil]; exact hB, ⟨rfl, rfl⟩, rfl, rfl⟩ ?_
          rintro next2 n2 hnext2 ts m ⟨k, u, B2, cl, blk, hn2, hu, hk, hB2, hcl, rfl, rfl⟩
          obtain ⟨rfl, rfl⟩ := hcl
          cbv
          refine .br (fun g2 => ?_) (fun g2 => ?_)
          · have hk8 : k < 8 := of_decide_eq_true (hdge u k _ hu g2)
            have hu1 := hzw u k hu hk8
            have hB3 := hap _ _ u x k hB2 hu hk8
            have hB3l := hapl _ _ x (k + 1) hB3 (hpre j hj)
            cbv
            refine .nonneg (hznn u k hu hk8) ?_
            cbv
            refine .most (Nat.le_trans (Nat.mul_le_mul_right 1 hB3l) (by decide)) (Nat.le_trans hB3l (by decide)) ?_
            cbv
            exact hnext2 _ _ (8 - (k + 1)) [2] [] [5, 7, 8, 47, 48, 49] _ _ (by omega) (by decide) rfl rfl rfl ⟨k + 1, _, _, _, _, rfl, hu1, hk8, hB3, ⟨rfl, rfl⟩, rfl, rfl⟩
          · have hk8 : k = 8 := by have := of_decide_eq_false (hdge u k _ hu g2); omega
            subst hk8
            have hB4 := hnextB _ j x hx hB2
            cbv
            exact hnext _ _ (d.length - (j + 1)) [0] [] [5, 47, 48, 49] _ _ (by omega) (by decide) rfl rfl rfl ⟨j + 1, _, c, _, _, _, rfl, hz1, hc, hj1, hB4, .inr ⟨rfl, rfl⟩, rfl, rfl⟩
        · have hj1 : j = d.length := by
            have : ¬ z < c := by simpa [hI, ints, rCmp] using g1
            unfold isN at hz hc
            omega
          rw [hj1, List.take_length] at hB
          have hBe := hpk _ hB
          cbv
          refine .go [] [] [.bor 1] (rseal hp _ _ hBe hPl) rfl rfl rfl rfl rfl rfl ?_
          rintro v m1 ⟨l3, hl3, rfl, rfl⟩
          cbv
          exact hP _ _ [1] [] _ _ (by decide) rfl rfl rfl rfl rfl (.inr ⟨hck, l3, hl3, rfl, rfl⟩)
  · have hB0 := hH (0) (by rw [show b = false from g0]; rfl)
    cbv
    refine .loop_next (fun n ts m => ∃ (j : Nat) (z c : Int) (B : List (List G)) (cl : C) (blk : Blk), n = d.length - j ∧ isN z j ∧ isN c d.length ∧ j ≤ d.length ∧ isB B (HL ++ (d.take j).flatMap wordB) ∧ ((cl = .row 0 1 (some (.lit 10)) ∧ blk = .lit 1 [[.g (.int .u8 (.sym (I.conv .u8 kd)))], [.g (.int .u8 (.sym (I.conv .u8 f)))], [.g (.int .u8 (.sym (I.conv .u8 t)))], [.g (.int .u8 (.sym (I.conv .u8 (I.bin .shr .i64 i 8))))], [.g (.int .u8 (.sym (I.conv .u8 i)))], [.g (.int .u8 (.sym (I.conv .u8 l)))], [.g (.int .u8 (.sym (I.conv .u8 (I.bin .add .i64 p 1))))], [.g (.int .u8 (.sym (I.conv .u8 s)))], [.g (.int .u8 (.sym (0)))], [.g (.int .u8 (.sym (I.conv .u8 (I.ofNat (I.len D)))))]] ∧ B = [[.int .u8 (.sym (I.conv .u8 kd))], [.int .u8 (.sym (I.conv .u8 f))], [.int .u8 (.sym (I.conv .u8 t))], [.int .u8 (.sym (I.conv .u8 (I.bin .shr .i64 i 8)))], [.int .u8 (.sym (I.conv .u8 i))], [.int .u8 (.sym (I.conv .u8 l))], [.int .u8 (.sym (I.conv .u8 (I.bin .add .i64 p 1)))], [.int .u8 (.sym (I.conv .u8 s))], [.int .u8 (.sym (0))], [.int .u8 (.sym (I.conv .u8 (I.ofNat (I.len D))))]]) ∨ (cl = .row 0 1 none ∧ blk = .sym 1 B)) ∧
        ts = fr 70 [(5, .one (.c cl)), (47, .one (.c (.bor 1 D))), (48, i64 c), (49, i64 z)] ∧ m = [blk])
      d.length _ _ [1] [] [5, 47, 48, 49] (by decide) rfl rfl rfl ⟨0, 0, I.ofNat (I.len D), _, _, _, rfl, rfl, by rw [hle, hI]; rfl, Nat.zero_le _, by rw [List.take_zero, List.flatMap_nil, List.append_nil]; exact hB0, .inl ⟨rfl, rfl, rfl⟩, rfl, rfl⟩ ?_
    rintro next n hnext ts m ⟨j, z, c, B, cl, blk, hn, hz, hc, hj, hB, hcl, rfl, rfl⟩
    have hz1 := hz1' z j (by omega) hz
    rcases hcl with ⟨rfl, rfl, rfl⟩ | ⟨rfl, rfl⟩
    · as_aux_lemma =>
        cbv
        refine .br (fun g1 => ?_) (fun g1 => ?_)
        · have hj1 : j < d.length := by
            have : z < c := by simpa [hI, ints, rCmp] using g1
            unfold isN at hz hc
            omega
          obtain ⟨x, hx, hr⟩ := hget j hj1
          have hjl : j < I.len D := by rw [hle]; exact hj1
          cbv
          refine .idx j hz hjl ?_
          cbv
          refine .nth _ hr ?_
          cbv
          refine .loop_next (fun n ts m => ∃ (k : Nat) (u : Int) (B2 : List (List G)) (cl : C) (blk : Blk), n = 8 - k ∧ is7 u k ∧ k ≤ 8 ∧ isB B2 (HL ++ (d.take j).flatMap wordB ++ (wordB x).take k) ∧ ((cl = .row 0 1 (some (.lit 10)) ∧ blk = .lit 1 [[.g (.int .u8 (.sym (I.conv .u8 kd)))], [.g (.int .u8 (.sym (I.conv .u8 f)))], [.g (.int .u8 (.sym (I.conv .u8 t)))], [.g (.int .u8 (.sym (I.conv .u8 (I.bin .shr .i64 i 8))))], [.g (.int .u8 (.sym (I.conv .u8 i)))], [.g (.int .u8 (.sym (I.conv .u8 l)))], [.g (.int .u8 (.sym (I.conv .u8 (I.bin .add .i64 p 1))))], [.g (.int .u8 (.sym (I.conv .u8 s)))], [.g (.int .u8 (.sym (0)))], [.g (.int .u8 (.sym (I.conv .u8 (I.ofNat (I.len D)))))]] ∧ B2 = [[.int .u8 (.sym (I.conv .u8 kd))], [.int .u8 (.sym (I.conv .u8 f))], [.int .u8 (.sym (I.conv .u8 t))], [.int .u8 (.sym (I.conv .u8 (I.bin .shr .i64 i 8)))], [.int .u8 (.sym (I.conv .u8 i))], [.int .u8 (.sym (I.conv .u8 l))], [.int .u8 (.sym (I.conv .u8 (I.bin .add .i64 p 1)))], [.int .u8 (.sym (I.conv .u8 s))], [.int .u8 (.sym (0))], [.int .u8 (.sym (I.conv .u8 (I.ofNat (I.len D))))]]) ∨ (cl = .row 0 1 none ∧ blk = .sym 1 B2)) ∧
              ts = fr 70 [(5, .one (.c cl)), (7, i64 x), (8, i64 u), (47, .one (.c (.bor 1 D))), (48, i64 c), (49, i64 z)] ∧ m = [blk])
            8 _ _ [0] [] [5, 7, 8, 47, 48, 49] (by decide) rfl rfl rfl ⟨0, 7, _, _, _, rfl, rfl, by omega, by rw [List.take_zero, List.append_nil]; exact hB, .inl ⟨rfl, rfl, rfl⟩, rfl, rfl⟩ ?_
          rintro next2 n2 hnext2 ts m ⟨k, u, B2, cl, blk, hn2, hu, hk, hB2, hcl, rfl, rfl⟩
          rcases hcl with ⟨rfl, rfl, rfl⟩ | ⟨rfl, rfl⟩
          · cbv
            refine .br (fun g2 => ?_) (fun g2 => ?_)
            · have hk8 : k < 8 := of_decide_eq_true (hdge u k _ hu g2)
              have hu1 := hzw u k hu hk8
              have hB3 := hap _ _ u x k hB2 hu hk8
              have hB3l := hapl _ _ x (k + 1) hB3 (hpre j hj)
              cbv
              refine .nonneg (hznn u k hu hk8) ?_
              cbv
              refine .most (Nat.le_trans (Nat.mul_le_mul_right 1 hB3l) (by decide)) (Nat.le_trans hB3l (by decide)) ?_
              cbv
              exact hnext2 _ _ (8 - (k + 1)) [2] [] [5, 7, 8, 47, 48, 49] _ _ (by omega) (by decide) rfl rfl rfl ⟨k + 1, _, _, _, _, rfl, hu1, hk8, hB3, .inr ⟨rfl, rfl⟩, rfl, rfl⟩
            · have hk8 : ¬ k < 8 := of_decide_eq_false (hdge u k _ hu g2)
              exfalso
              have h1 := hB2.len
              rw [List.length_append, List.length_append, hHl, List.length_take] at h1
              have h8 : (wordB x).length = 8 := rfl
              have h10 : ([[.int .u8 (.sym (I.conv .u8 kd))], [.int .u8 (.sym (I.conv .u8 f))], [.int .u8 (.sym (I.conv .u8 t))], [.int .u8 (.sym (I.conv .u8 (I.bin .shr .i64 i 8)))], [.int .u8 (.sym (I.conv .u8 i))], [.int .u8 (.sym (I.conv .u8 l))], [.int .u8 (.sym (I.conv .u8 (I.bin .add .i64 p 1)))], [.int .u8 (.sym (I.conv .u8 s))], [.int .u8 (.sym (0))], [.int .u8 (.sym (I.conv .u8 (I.ofNat (I.len D))))]] : List (List G)).length = 10 := rfl
              omega
          · cbv
            refine .br (fun g2 => ?_) (fun g2 => ?_)
            · have hk8 : k < 8 := of_decide_eq_true (hdge u k _ hu g2)
              have hu1 := hzw u k hu hk8
              have hB3 := hap _ _ u x k hB2 hu hk8
              have hB3l := hapl _ _ x (k + 1) hB3 (hpre j hj)
              cbv
              refine .nonneg (hznn u k hu hk8) ?_
              cbv
              refine .most (Nat.le_trans (Nat.mul_le_mul_right 1 hB3l) (by decide)) (Nat.le_trans hB3l (by decide)) ?_
              cbv
              exact hnext2 _ _ (8 - (k + 1)) [2] [] [5, 7, 8, 47, 48, 49] _ _ (by omega) (by decide) rfl rfl rfl ⟨k + 1, _, _, _, _, rfl, hu1, hk8, hB3, .inr ⟨rfl, rfl⟩, rfl, rfl⟩
            · have hk8 : k = 8 := by have := of_decide_eq_false (hdge u k _ hu g2); omega
              subst hk8
              have hB4 := hnextB _ j x hx hB2
              cbv
              exact hnext _ _ (d.length - (j + 1)) [0] [] [5, 47, 48, 49] _ _ (by omega) (by decide) rfl rfl rfl ⟨j + 1, _, c, _, _, _, rfl, hz1, hc, hj1, hB4, .inr ⟨rfl, rfl⟩, rfl, rfl⟩
        · have hj1 : j = d.length := by
            have : ¬ z < c := by simpa [hI, ints, rCmp] using g1
            unfold isN at hz hc
            omega
          rw [hj1, List.take_length] at hB
          have hBe := hpk _ hB
          cbv
          refine .go [] [] [.bor 1] (rseal hp _ _ hBe hPl) rfl rfl rfl rfl rfl rfl ?_
          rintro v m1 ⟨l3, hl3, rfl, rfl⟩
          cbv
          exact hP _ _ [1] [] _ _ (by decide) rfl rfl rfl rfl rfl (.inr ⟨hck, l3, hl3, rfl, rfl⟩)
    · as_aux_lemma =>
        cbv
        refine .br (fun g1 => ?_) (fun g1 => ?_)
        · have hj1 : j < d.length := by
            have : z < c := by simpa [hI, ints, rCmp] using g1
            unfold isN at hz hc
            omega
          obtain ⟨x, hx, hr⟩ := hget j hj1
          have hjl : j < I.len D := by rw [hle]; exact hj1
          cbv
          refine .idx j hz hjl ?_
          cbv
          refine .nth _ hr ?_
          cbv
          refine .loop_next (fun n ts m => ∃ (k : Nat) (u : Int) (B2 : List (List G)) (cl : C) (blk : Blk), n = 8 - k ∧ is7 u k ∧ k ≤ 8 ∧ isB B2 (HL ++ (d.take j).flatMap wordB ++ (wordB x).take k) ∧ (cl = .row 0 1 none ∧ blk = .sym 1 B2) ∧
              ts = fr 70 [(5, .one (.c cl)), (7, i64 x), (8, i64 u), (47, .one (.c (.bor 1 D))), (48, i64 c), (49, i64 z)] ∧ m = [blk])
            8 _ _ [0] [] [5, 7, 8, 47, 48, 49] (by decide) rfl rfl rfl ⟨0, 7, _, _, _, rfl, rfl, by omega, by rw [List.take_zero, List.append_nil]; exact hB, ⟨rfl, rfl⟩, rfl, rfl⟩ ?_
          rintro next2 n2 hnext2 ts m ⟨k, u, B2, cl, blk, hn2, hu, hk, hB2, hcl, rfl, rfl⟩
          obtain ⟨rfl, rfl⟩ := hcl
          cbv
          refine .br (fun g2 => ?_) (fun g2 => ?_)
          · have hk8 : k < 8 := of_decide_eq_true (hdge u k _ hu g2)
            have hu1 := hzw u k hu hk8
            have hB3 := hap _ _ u x k hB2 hu hk8
            have hB3l := hapl _ _ x (k + 1) hB3 (hpre j hj)
            cbv
            refine .nonneg (hznn u k hu hk8) ?_
            cbv
            refine .most (Nat.le_trans (Nat.mul_le_mul_right 1 hB3l) (by decide)) (Nat.le_trans hB3l (by decide)) ?_
            cbv
            exact hnext2 _ _ (8 - (k + 1)) [2] [] [5, 7, 8, 47, 48, 49] _ _ (by omega) (by decide) rfl rfl rfl ⟨k + 1, _, _, _, _, rfl, hu1, hk8, hB3, ⟨rfl, rfl⟩, rfl, rfl⟩
          · have hk8 : k = 8 := by have := of_decide_eq_false (hdge u k _ hu g2); omega
            subst hk8
            have hB4 := hnextB _ j x hx hB2
            cbv
            exact hnext _ _ (d.length - (j + 1)) [0] [] [5, 47, 48, 49] _ _ (by omega) (by decide) rfl rfl rfl ⟨j + 1, _, c, _, _, _, rfl, hz1, hc, hj1, hB4, .inr ⟨rfl, rfl⟩, rfl, rfl⟩
        · have hj1 : j = d.length := by
            have : ¬ z < c := by simpa [hI, ints, rCmp] using g1
            unfold isN at hz hc
            omega
          rw [hj1, List.take_length] at hB
          have hBe := hpk _ hB
          cbv
          refine .go [] [] [.bor 1] (rseal hp _ _ hBe hPl) rfl rfl rfl rfl rfl rfl ?_
          rintro v m1 ⟨l3, hl3, rfl, rfl⟩
          cbv
          exact hP _ _ [1] [] _ _ (by decide) rfl rfl rfl rfl rfl (.inr ⟨hck, l3, hl3, rfl, rfl⟩)
end
end Go.Proofs.Ytccfcenhpmdemaa.E
