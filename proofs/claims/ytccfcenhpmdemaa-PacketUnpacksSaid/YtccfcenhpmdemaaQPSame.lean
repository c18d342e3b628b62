/- PacketSame. -/
import Derived.Test.YtccfcenhpmdemaaQPk
namespace Go.Proofs.Ytccfcenhpmdemaa.E
open Go
set_option linter.unusedVariables false
set_option maxRecDepth 100000

/-- A number is never the same with its last digit turned. -/
theorem xor1_ne (x : Int) : ints.bin .xor .i64 x 1 ≠ x := by
  intro h
  have h1 : IntKind.i64.wrap (BitVec.ofInt 64 x ^^^ BitVec.ofInt 64 1).toNat = x := h
  have h2 := congrArg (BitVec.ofInt 64) h1
  have h3 : ∀ n : Nat, BitVec.ofInt 64 (IntKind.i64.wrap (n : Int)) = BitVec.ofInt 64 (n : Int) := fun n => by
    apply BitVec.eq_of_toNat_eq
    rw [BitVec.toNat_ofInt, BitVec.toNat_ofInt, IntKind.wrap_i64]
    have : (((n : Int) + 9223372036854775808) % 18446744073709551616 - 9223372036854775808) % ((2 ^ 64 : Nat) : Int) = (n : Int) % ((2 ^ 64 : Nat) : Int) := by
      show (((n : Int) + 9223372036854775808) % 18446744073709551616 - 9223372036854775808) % 18446744073709551616 = (n : Int) % 18446744073709551616
      omega
    rw [this]
  rw [h3, BitVec.ofInt_natCast, BitVec.ofNat_toNat, BitVec.setWidth_eq] at h2
  have h4 := congrArg (fun b => b.getLsbD 0) h2
  simp at h4
theorem LValid.lit {P : Program} {f : FuncId} {args : List V1} {m : Mem} {k : IntKind} {R R' : A → Mem → Prop} (h : LValid P f args m R) (hR : ∀ v m1, R v m1 → ∃ z : Int, v = .one (.c (.g (.int k (.sym z)))) ∧ R' (.one (.c (.g (.int k (.lit z))))) m1) : LValid P f args m R' := fun E w vs hs hsz hr =>
  (h E w vs hs hsz hr).mono fun e w' ⟨u, v, m', E', a1, a2, a3, a4, a5⟩ => by
    obtain ⟨z, rfl, h1⟩ := hR v m' a2
    refine ⟨u, _, m', E', a1, h1, .inr ?_, rfl, a5⟩
    rcases a3 with a3 | a3
    · cases a3
    · generalize u = u' at a3
      cases a3
      exact .int k (.lit z)
section
variable {P : Program} (hp : P = Try.prog)
include hp
theorem equalI (a b : List (List G)) (xs ys : List Int) (ha : isL .i64 a xs) (hb : isL .i64 b ys) (hla : xs.length ≤ 140737488355328) : LValid P 37 [.c (.bor 1 a), .c (.bor 1 b)] [] (fun v m1 => ∃ t, t = (xs == ys) ∧ v = boo t ∧ m1 = []) := by
  refine bx (LValid.boo ?_)
  obtain ⟨I, hI⟩ := ref
  refine fn_sim hI (mo hp) (cc hp c37) fun Post hP => ?_
  have hea : I.len a = xs.length := by rw [hI]; exact ha.len
  have heb : I.len b = ys.length := by rw [hI]; exact hb.len
  cbv
  refine .br (fun h => ?_) (fun h => ?_)
  · cbv
    have h : xs.length ≠ ys.length := by
      have : ((xs.length : Nat) : Int) ≠ (ys.length : Nat) := by
        have h' : rCmp .neq ((I.len a : Nat) : Int) ((I.len b : Nat) : Int) = true := by rw [hI] at h ⊢; exact h
        rw [hea, heb] at h'
        simpa [rCmp] using h'
      omega
    exact hP _ _ [] [] _ _ .nil rfl rfl rfl rfl rfl ⟨_, rfl, by
      have : xs ≠ ys := fun e => h (by rw [e])
      simp [BB.val, this], rfl⟩
  · cbv
    have h : xs.length = ys.length := by
      have : ((xs.length : Nat) : Int) = (ys.length : Nat) := by
        have h' : rCmp .neq ((I.len a : Nat) : Int) ((I.len b : Nat) : Int) = false := by rw [hI] at h ⊢; exact h
        rw [hea, heb] at h'
        simpa [rCmp] using h'
      omega
    refine .loop_next (fun n ts m => ∃ (i : Nat) (z c : Int), n = xs.length - i ∧ isN z i ∧ isN c xs.length ∧ i ≤ xs.length ∧ xs.take i = ys.take i ∧ ts = fr 26 [(0, .one (.c (.bor 1 a))), (1, .one (.c (.bor 1 b))), (12, i64 c), (13, i64 z)] ∧ m = [])
      xs.length _ _ [] [] [0, 1, 12, 13] (by decide) rfl rfl rfl ⟨0, 0, I.ofNat (I.len a), rfl, rfl, by rw [hea, hI]; rfl, Nat.zero_le _, rfl, rfl, rfl⟩ ?_
    rintro next n hnext ts m ⟨i, z, c, hn, hz, hc, hi, ht, rfl, rfl⟩
    cbv
    refine .br (fun h1 => ?_) (fun h1 => ?_)
    · have h1 : i < xs.length := by
        have : z < c := by simpa [hI, ints, rCmp] using h1
        unfold isN at hz hc
        omega
      obtain ⟨x, hx⟩ : ∃ x, xs[i]? = some x := ⟨_, List.getElem?_eq_getElem h1⟩
      obtain ⟨y, hy⟩ : ∃ y, ys[i]? = some y := ⟨_, List.getElem?_eq_getElem (h ▸ h1)⟩
      have hxa : a[i]? = some [.int .i64 (.sym x)] := by rw [ha.get, hx]; rfl
      have hyb : b[i]? = some [.int .i64 (.sym y)] := by rw [hb.get, hy]; rfl
      have hza : i < I.len a := by rw [hea]; exact h1
      have hzb : i < I.len b := by rw [heb]; omega
      cbv
      refine .drawn [] ?_
      cbv
      refine .idx i hz hza (.nth _ hxa ?_)
      cbv
      refine .idx i hz hzb (.nth _ hyb ?_)
      cbv
      refine .br (fun h2 => ?_) (fun h2 => ?_)
      · have h2 : x ≠ y := by simpa [hI, ints, rCmp] using h2
        cbv
        exact hP _ _ [] [] _ _ .nil rfl rfl rfl rfl rfl ⟨_, rfl, by
          have : xs ≠ ys := fun e => h2 (by rw [e, hy] at hx; exact (Option.some.inj hx).symm)
          simp [BB.val, this], rfl⟩
      · have h2 : x = y := by simpa [hI, ints, rCmp] using h2
        cbv
        have hz1 : isN (I.bin .add .i64 z 1) (i + 1) := by unfold isN at hz ⊢; rw [hI]; simp only [ints, rBin]; rw [wrap_in] <;> omega
        refine hnext _ _ (xs.length - (i + 1)) [] [] [0, 1, 12, 13] _ _ (by omega) (by decide) rfl rfl rfl ⟨i + 1, _, c, rfl, hz1, hc, h1, ?_, rfl, rfl⟩
        rw [List.take_add_one, List.take_add_one, ht, hx, hy, h2]
    · have h1 : ¬ i < xs.length := by
        have : ¬ z < c := by simpa [hI, ints, rCmp] using h1
        unfold isN at hz hc
        omega
      cbv
      exact hP _ _ [] [] _ _ .nil rfl rfl rfl rfl rfl ⟨_, rfl, by
        rw [List.take_of_length_le (by omega), List.take_of_length_le (by omega)] at ht
        simp [BB.val, ht], rfl⟩
set_option maxHeartbeats 4000000 in
theorem psame (x y : PZ) (D1 D2 : List (List G)) (d1 d2 : List Int) (h1 : isL .i64 D1 d1) (h2 : isL .i64 D2 d2) (hl : d1.length ≤ 140737488355328) : LValid P 20 [x.arg D1, y.arg D2] [] (fun v m1 => ∃ t, t = (x.pk d1 == y.pk d2) ∧ v = boo t ∧ m1 = []) := by
  refine bx (LValid.boo (LValid.sy ?_))
  show LValid P 20 [.agg [.g (.int .i64 (.sym x.k.val)), .g (.int .i64 (.sym x.f.val)), .g (.int .i64 (.sym x.t.val)), .g (.int .i64 (.sym x.i.val)), .g (.int .i64 (.sym x.l.val)), .g (.int .i64 (.sym x.p.val)), .g (.int .i64 (.sym x.s.val)), .g (.bool (.sym x.b.val)), .bor 1 D1], .agg [.g (.int .i64 (.sym y.k.val)), .g (.int .i64 (.sym y.f.val)), .g (.int .i64 (.sym y.t.val)), .g (.int .i64 (.sym y.i.val)), .g (.int .i64 (.sym y.l.val)), .g (.int .i64 (.sym y.p.val)), .g (.int .i64 (.sym y.s.val)), .g (.bool (.sym y.b.val)), .bor 1 D2]] [] _
  rw [show x.pk d1 = ⟨x.k.val, x.f.val, x.t.val, x.i.val, x.l.val, x.p.val, x.s.val, x.b.val, d1⟩ from rfl, show y.pk d2 = ⟨y.k.val, y.f.val, y.t.val, y.i.val, y.l.val, y.p.val, y.s.val, y.b.val, d2⟩ from rfl]
  generalize x.k.val = xk, x.f.val = xf, x.t.val = xt, x.i.val = xi, x.l.val = xl, x.p.val = xp, x.s.val = xs, x.b.val = xb
  generalize y.k.val = yk, y.f.val = yf, y.t.val = yt, y.i.val = yi, y.l.val = yl, y.p.val = yp, y.s.val = ys, y.b.val = yb
  obtain ⟨I, hI⟩ := ref
  have bad : ∀ t : Bool, t = false → ¬ ((⟨xk, xf, xt, xi, xl, xp, xs, xb, d1⟩ : PK) = ⟨yk, yf, yt, yi, yl, yp, ys, yb, d2⟩) → t = ((⟨xk, xf, xt, xi, xl, xp, xs, xb, d1⟩ : PK) == ⟨yk, yf, yt, yi, yl, yp, ys, yb, d2⟩) := fun t ht h => by rw [ht, beq_eq_false_iff_ne.2 h]
  refine fn_sim hI (mo hp) (cc hp c20) fun Post hP => ?_
  cbv
  refine .br (fun g => ?_) (fun g => ?_)
  rotate_left
  · have g : ¬ xk = yk := by simpa [hI, ints, rCmp] using g
    cbv
    exact hP _ _ [] [] _ _ .nil rfl rfl rfl rfl rfl ⟨_, rfl, bad _ rfl (fun e => g (by injection e)), rfl⟩
  have ek : xk = yk := by simpa [hI, ints, rCmp] using g
  clear g
  cbv
  refine .br (fun g => ?_) (fun g => ?_)
  rotate_left
  · have g : ¬ xf = yf := by simpa [hI, ints, rCmp] using g
    cbv
    exact hP _ _ [] [] _ _ .nil rfl rfl rfl rfl rfl ⟨_, rfl, bad _ rfl (fun e => g (by injection e)), rfl⟩
  have ef : xf = yf := by simpa [hI, ints, rCmp] using g
  clear g
  cbv
  refine .br (fun g => ?_) (fun g => ?_)
  rotate_left
  · have g : ¬ xt = yt := by simpa [hI, ints, rCmp] using g
    cbv
    exact hP _ _ [] [] _ _ .nil rfl rfl rfl rfl rfl ⟨_, rfl, bad _ rfl (fun e => g (by injection e)), rfl⟩
  have et : xt = yt := by simpa [hI, ints, rCmp] using g
  clear g
  cbv
  refine .br (fun g => ?_) (fun g => ?_)
  rotate_left
  · have g : ¬ xi = yi := by simpa [hI, ints, rCmp] using g
    cbv
    exact hP _ _ [] [] _ _ .nil rfl rfl rfl rfl rfl ⟨_, rfl, bad _ rfl (fun e => g (by injection e)), rfl⟩
  have ei : xi = yi := by simpa [hI, ints, rCmp] using g
  clear g
  cbv
  refine .br (fun g => ?_) (fun g => ?_)
  rotate_left
  · have g : ¬ xl = yl := by simpa [hI, ints, rCmp] using g
    cbv
    exact hP _ _ [] [] _ _ .nil rfl rfl rfl rfl rfl ⟨_, rfl, bad _ rfl (fun e => g (by injection e)), rfl⟩
  have el : xl = yl := by simpa [hI, ints, rCmp] using g
  clear g
  cbv
  refine .br (fun g => ?_) (fun g => ?_)
  rotate_left
  · have g : ¬ xp = yp := by simpa [hI, ints, rCmp] using g
    cbv
    exact hP _ _ [] [] _ _ .nil rfl rfl rfl rfl rfl ⟨_, rfl, bad _ rfl (fun e => g (by injection e)), rfl⟩
  have ep : xp = yp := by simpa [hI, ints, rCmp] using g
  clear g
  cbv
  refine .br (fun g => ?_) (fun g => ?_)
  rotate_left
  · have g : ¬ xs = ys := by simpa [hI, ints, rCmp] using g
    cbv
    exact hP _ _ [] [] _ _ .nil rfl rfl rfl rfl rfl ⟨_, rfl, bad _ rfl (fun e => g (by injection e)), rfl⟩
  have es : xs = ys := by simpa [hI, ints, rCmp] using g
  clear g
  cbv
  refine .br (fun g => ?_) (fun g => ?_)
  rotate_left
  · have g : I.beq xb yb = false := g
    have g : ¬ xb = yb := by rw [hI] at g; simpa [ints] using g
    cbv
    exact hP _ _ [] [] _ _ .nil rfl rfl rfl rfl rfl ⟨_, rfl, bad _ rfl (fun e => g (by injection e)), rfl⟩
  have eb : xb = yb := by
    have g : I.beq xb yb = true := g
    rw [hI] at g
    simpa [ints] using g
  clear g
  subst ek ef et ei el ep es eb
  have good : (d1 == d2) = ((⟨xk, xf, xt, xi, xl, xp, xs, xb, d1⟩ : PK) == ⟨xk, xf, xt, xi, xl, xp, xs, xb, d2⟩) := by
    by_cases h : d1 = d2
    · subst h; simp
    · rw [beq_eq_false_iff_ne.2 h, beq_eq_false_iff_ne.2 (fun e => h (by injection e))]
  cbv
  refine .go [] [] [] (equalI hp D1 D2 d1 d2 h1 h2 hl) rfl rfl rfl rfl rfl rfl ?_
  rintro v m1 ⟨t, ht, rfl, rfl⟩
  have ht : t = ((⟨xk, xf, xt, xi, xl, xp, xs, xb, d1⟩ : PK) == ⟨xk, xf, xt, xi, xl, xp, xs, xb, d2⟩) := ht.trans good
  cbv
  exact hP _ _ [] [] _ _ .nil rfl rfl rfl rfl rfl ⟨_, rfl, ht, rfl⟩
end
end Go.Proofs.Ytccfcenhpmdemaa.E
