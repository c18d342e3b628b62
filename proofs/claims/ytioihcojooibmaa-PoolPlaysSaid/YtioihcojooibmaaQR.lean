/- Contracts: the document's own comparison of packets. -/
import Derived.Test.YtioihcojooibmaaQQ
namespace Go.Proofs.Ytioihcojooibmaa.E
open Go
set_option linter.unusedVariables false
set_option maxRecDepth 100000

section
variable {P : Program} (hp : P = Try.prog)
include hp
set_option maxHeartbeats 4000000 in
/-- Are two packets the same? -/
theorem refsame (x y : PZ) (D1 D2 : List (List G)) (d1 d2 : List Int) (h1 : isL .i64 D1 d1) (h2 : isL .i64 D2 d2) (hl : d1.length ≤ 140737488355328) : LValid P 19 [x.arg D1, y.arg D2] [] (fun v m1 => ∃ t, t = (x.pk d1 == y.pk d2) ∧ v = boo t ∧ m1 = []) := by
  refine bx (LValid.boo (LValid.sy ?_))
  show LValid P 19 [.agg [.g (.int .i64 (.sym x.k.val)), .g (.int .i64 (.sym x.f.val)), .g (.int .i64 (.sym x.t.val)), .g (.int .i64 (.sym x.i.val)), .g (.int .i64 (.sym x.l.val)), .g (.int .i64 (.sym x.p.val)), .g (.int .i64 (.sym x.s.val)), .g (.bool (.sym x.b.val)), .bor 1 D1], .agg [.g (.int .i64 (.sym y.k.val)), .g (.int .i64 (.sym y.f.val)), .g (.int .i64 (.sym y.t.val)), .g (.int .i64 (.sym y.i.val)), .g (.int .i64 (.sym y.l.val)), .g (.int .i64 (.sym y.p.val)), .g (.int .i64 (.sym y.s.val)), .g (.bool (.sym y.b.val)), .bor 1 D2]] [] _
  rw [show x.pk d1 = ⟨x.k.val, x.f.val, x.t.val, x.i.val, x.l.val, x.p.val, x.s.val, x.b.val, d1⟩ from rfl, show y.pk d2 = ⟨y.k.val, y.f.val, y.t.val, y.i.val, y.l.val, y.p.val, y.s.val, y.b.val, d2⟩ from rfl]
  generalize x.k.val = xk, x.f.val = xf, x.t.val = xt, x.i.val = xi, x.l.val = xl, x.p.val = xp, x.s.val = xs, x.b.val = xb
  generalize y.k.val = yk, y.f.val = yf, y.t.val = yt, y.i.val = yi, y.l.val = yl, y.p.val = yp, y.s.val = ys, y.b.val = yb
  obtain ⟨I, hI⟩ := ref
  have hn1 : I.len D1 = d1.length := by rw [hI]; exact h1.len
  have hn2 : I.len D2 = d2.length := by rw [hI]; exact h2.len
  have bad : ∀ t : Bool, t = false → ¬ ((⟨xk, xf, xt, xi, xl, xp, xs, xb, d1⟩ : PK) = ⟨yk, yf, yt, yi, yl, yp, ys, yb, d2⟩) → t = ((⟨xk, xf, xt, xi, xl, xp, xs, xb, d1⟩ : PK) == ⟨yk, yf, yt, yi, yl, yp, ys, yb, d2⟩) := fun t ht h => by rw [ht, beq_eq_false_iff_ne.2 h]
  refine fn_sim hI (mo hp) (cc hp c19) fun Post hP => ?_
  cbv
  refine .br (fun g => ?_) (fun g => ?_)
  · have g : xk ≠ yk := by simpa [hI, ints, rCmp] using g
    cbv
    exact hP _ _ [] [] _ _ .nil rfl rfl rfl rfl rfl ⟨_, rfl, bad _ rfl (fun e => g (by injection e)), rfl⟩
  have ek : xk = yk := by simpa [hI, ints, rCmp] using g
  clear g
  cbv
  refine .br (fun g => ?_) (fun g => ?_)
  · have g : xf ≠ yf := by simpa [hI, ints, rCmp] using g
    cbv
    exact hP _ _ [] [] _ _ .nil rfl rfl rfl rfl rfl ⟨_, rfl, bad _ rfl (fun e => g (by injection e)), rfl⟩
  have ef : xf = yf := by simpa [hI, ints, rCmp] using g
  clear g
  cbv
  refine .br (fun g => ?_) (fun g => ?_)
  · have g : xt ≠ yt := by simpa [hI, ints, rCmp] using g
    cbv
    exact hP _ _ [] [] _ _ .nil rfl rfl rfl rfl rfl ⟨_, rfl, bad _ rfl (fun e => g (by injection e)), rfl⟩
  have et : xt = yt := by simpa [hI, ints, rCmp] using g
  clear g
  cbv
  refine .br (fun g => ?_) (fun g => ?_)
  · have g : xi ≠ yi := by simpa [hI, ints, rCmp] using g
    cbv
    exact hP _ _ [] [] _ _ .nil rfl rfl rfl rfl rfl ⟨_, rfl, bad _ rfl (fun e => g (by injection e)), rfl⟩
  have ei : xi = yi := by simpa [hI, ints, rCmp] using g
  clear g
  cbv
  refine .br (fun g => ?_) (fun g => ?_)
  · have g : xl ≠ yl := by simpa [hI, ints, rCmp] using g
    cbv
    exact hP _ _ [] [] _ _ .nil rfl rfl rfl rfl rfl ⟨_, rfl, bad _ rfl (fun e => g (by injection e)), rfl⟩
  have el : xl = yl := by simpa [hI, ints, rCmp] using g
  clear g
  cbv
  refine .br (fun g => ?_) (fun g => ?_)
  · have g : xp ≠ yp := by simpa [hI, ints, rCmp] using g
    cbv
    exact hP _ _ [] [] _ _ .nil rfl rfl rfl rfl rfl ⟨_, rfl, bad _ rfl (fun e => g (by injection e)), rfl⟩
  have ep : xp = yp := by simpa [hI, ints, rCmp] using g
  clear g
  cbv
  refine .br (fun g => ?_) (fun g => ?_)
  · have g : xs ≠ ys := by simpa [hI, ints, rCmp] using g
    cbv
    exact hP _ _ [] [] _ _ .nil rfl rfl rfl rfl rfl ⟨_, rfl, bad _ rfl (fun e => g (by injection e)), rfl⟩
  have es : xs = ys := by simpa [hI, ints, rCmp] using g
  clear g
  cbv
  refine .br (fun g => ?_) (fun g => ?_)
  · have g : xb ≠ yb := by
      have g : I.not (I.beq xb yb) = true := g
      rw [hI] at g
      simpa [ints] using g
    cbv
    exact hP _ _ [] [] _ _ .nil rfl rfl rfl rfl rfl ⟨_, rfl, bad _ rfl (fun e => g (by injection e)), rfl⟩
  have eb : xb = yb := by
    have g : I.not (I.beq xb yb) = false := g
    rw [hI] at g
    simpa [ints] using g
  clear g
  cbv
  refine .br (fun g => ?_) (fun g => ?_)
  · have g : d1.length ≠ d2.length := by
      have h' : rCmp .neq ((I.len D1 : Nat) : Int) ((I.len D2 : Nat) : Int) = true := by rw [hI] at g ⊢; exact g
      rw [hn1, hn2] at h'
      have : ((d1.length : Nat) : Int) ≠ (d2.length : Nat) := by simpa [rCmp] using h'
      omega
    cbv
    exact hP _ _ [] [] _ _ .nil rfl rfl rfl rfl rfl ⟨_, rfl, bad _ rfl (fun e => g (by injection e with _ _ _ _ _ _ _ _ e9; rw [e9])), rfl⟩
  have hd : d1.length = d2.length := by
    have h' : rCmp .neq ((I.len D1 : Nat) : Int) ((I.len D2 : Nat) : Int) = false := by rw [hI] at g ⊢; exact g
    rw [hn1, hn2] at h'
    have : ((d1.length : Nat) : Int) = (d2.length : Nat) := by simpa [rCmp] using h'
    omega
  clear g
  subst ek ef et ei el ep es eb
  have good : ∀ b : Bool, b = (d1 == d2) → b = ((⟨xk, xf, xt, xi, xl, xp, xs, xb, d1⟩ : PK) == ⟨xk, xf, xt, xi, xl, xp, xs, xb, d2⟩) := fun b hb => by
    rw [hb]
    by_cases h : d1 = d2
    · subst h; simp
    · rw [beq_eq_false_iff_ne.2 h, beq_eq_false_iff_ne.2 (fun e => h (by injection e))]
  cbv
  refine .loop_next (fun n ts m => ∃ (j : Nat) (z c : Int), n = d1.length - j ∧ isN z j ∧ isN c d1.length ∧ j ≤ d1.length ∧ d1.take j = d2.take j ∧
      ts = fr 87 [(2, .one (.c (.ptr 0 (.lit 0) 9 0))), (3, .one (.c (.ptr 1 (.lit 0) 9 0))), (71, i64 c), (72, i64 z)] ∧
      m = [.lit 9 [[.g (.int .i64 (.sym xk)), .g (.int .i64 (.sym xf)), .g (.int .i64 (.sym xt)), .g (.int .i64 (.sym xi)), .g (.int .i64 (.sym xl)), .g (.int .i64 (.sym xp)), .g (.int .i64 (.sym xs)), .g (.bool (.sym xb)), .bor 1 D1]], .lit 9 [[.g (.int .i64 (.sym xk)), .g (.int .i64 (.sym xf)), .g (.int .i64 (.sym xt)), .g (.int .i64 (.sym xi)), .g (.int .i64 (.sym xl)), .g (.int .i64 (.sym xp)), .g (.int .i64 (.sym xs)), .g (.bool (.sym xb)), .bor 1 D2]]])
    d1.length _ _ [0, 1] [] [2, 3, 71, 72] (by decide) rfl rfl rfl ⟨0, 0, I.ofNat (I.len D1), rfl, rfl, by rw [hn1, hI]; rfl, Nat.zero_le _, rfl, rfl, rfl⟩ ?_
  rintro next n hnext ts m ⟨j, z, c, hn, hz, hc, hj, ht, rfl, rfl⟩
  have hz1 : isN (I.bin .add .i64 z 1) (j + 1) := by unfold isN at hz ⊢; rw [hI]; simp only [ints, rBin]; rw [wrap_in] <;> omega
  cbv
  refine .br (fun g1 => ?_) (fun g1 => ?_)
  · have hj1 : j < d1.length := by
      have : z < c := by simpa [hI, ints, rCmp] using g1
      unfold isN at hz hc
      omega
    obtain ⟨u, hu⟩ : ∃ u, d1[j]? = some u := ⟨_, List.getElem?_eq_getElem hj1⟩
    obtain ⟨w, hw⟩ : ∃ w, d2[j]? = some w := ⟨_, List.getElem?_eq_getElem (by omega)⟩
    have hr1 : D1[j]? = some [.int .i64 (.sym u)] := by rw [h1.get, hu]; rfl
    have hr2 : D2[j]? = some [.int .i64 (.sym w)] := by rw [h2.get, hw]; rfl
    have hl1 : j < I.len D1 := by rw [hn1]; exact hj1
    have hl2 : j < I.len D2 := by rw [hn2]; omega
    cbv
    refine .drawn [] ?_
    cbv
    refine .idx j hz hl1 (.nth _ hr1 ?_)
    cbv
    refine .idx j hz hl2 (.nth _ hr2 ?_)
    cbv
    refine .br (fun g2 => ?_) (fun g2 => ?_)
    · have g2 : u ≠ w := by simpa [hI, ints, rCmp] using g2
      have hne : d1 ≠ d2 := fun e => g2 (by rw [e, hw] at hu; exact (Option.some.inj hu).symm)
      cbv
      exact hP _ _ [] [] _ _ .nil rfl rfl rfl rfl rfl ⟨_, rfl, good _ (beq_eq_false_iff_ne.2 hne).symm, rfl⟩
    · have g2 : u = w := by simpa [hI, ints, rCmp] using g2
      cbv
      exact hnext _ _ (d1.length - (j + 1)) [0, 1] [] [2, 3, 71, 72] _ _ (by omega) (by decide) rfl rfl rfl ⟨j + 1, _, c, rfl, hz1, hc, hj1, by rw [List.take_add_one, List.take_add_one, ht, hu, hw, g2], rfl, rfl⟩
  · have hj1 : ¬ j < d1.length := by
      have : ¬ z < c := by simpa [hI, ints, rCmp] using g1
      unfold isN at hz hc
      omega
    have he : d1 = d2 := by
      rw [List.take_of_length_le (by omega), List.take_of_length_le (by omega)] at ht
      exact ht
    have hgd := good true (by rw [he]; simp)
    cbv
    exact hP _ _ [] [] _ _ .nil rfl rfl rfl rfl rfl ⟨_, rfl, hgd, rfl⟩
set_option maxHeartbeats 4000000 in
theorem refall (L1 L2 : List (List G)) (ps qs : List PK) (h1 : isP L1 ps) (h2 : isP L2 qs) (hl : ps.length ≤ 1000000) (hd : ∀ q ∈ ps, q.d.length ≤ 140737488355328) : LValid P 20 [.c (.bor 9 L1), .c (.bor 9 L2)] [] (fun v m1 => ∃ t, t = (ps == qs) ∧ v = boo t ∧ m1 = []) := by
  refine bx (LValid.boo ?_)
  obtain ⟨I, hI⟩ := ref
  have hn1 : I.len L1 = ps.length := by rw [hI]; exact h1.len
  have hn2 : I.len L2 = qs.length := by rw [hI]; exact h2.len
  refine fn_sim hI (mo hp) (cc hp c20) fun Post hP => ?_
  cbv
  refine .br (fun g => ?_) (fun g => ?_)
  · have g : ps.length ≠ qs.length := by
      have h' : rCmp .neq ((I.len L1 : Nat) : Int) ((I.len L2 : Nat) : Int) = true := by rw [hI] at g ⊢; exact g
      rw [hn1, hn2] at h'
      have : ((ps.length : Nat) : Int) ≠ (qs.length : Nat) := by simpa [rCmp] using h'
      omega
    have hne : ps ≠ qs := fun e => g (by rw [e])
    cbv
    exact hP _ _ [] [] _ _ .nil rfl rfl rfl rfl rfl ⟨_, rfl, (beq_eq_false_iff_ne.2 hne).symm, rfl⟩
  have hd2 : ps.length = qs.length := by
    have h' : rCmp .neq ((I.len L1 : Nat) : Int) ((I.len L2 : Nat) : Int) = false := by rw [hI] at g ⊢; exact g
    rw [hn1, hn2] at h'
    have : ((ps.length : Nat) : Int) = (qs.length : Nat) := by simpa [rCmp] using h'
    omega
  clear g
  cbv
  refine .loop_next (fun n ts m => ∃ (j : Nat) (z c : Int), n = ps.length - j ∧ isN z j ∧ isN c ps.length ∧ j ≤ ps.length ∧ ps.take j = qs.take j ∧
      ts = fr 27 [(0, .one (.c (.bor 9 L1))), (1, .one (.c (.bor 9 L2))), (12, i64 c), (13, i64 z)] ∧ m = [])
    ps.length _ _ [] [] [0, 1, 12, 13] (by decide) rfl rfl rfl ⟨0, 0, I.ofNat (I.len L1), rfl, rfl, by rw [hn1, hI]; rfl, Nat.zero_le _, rfl, rfl, rfl⟩ ?_
  rintro next n hnext ts m ⟨j, z, c, hn, hz, hc, hj, ht, rfl, rfl⟩
  have hz1 : isN (I.bin .add .i64 z 1) (j + 1) := by unfold isN at hz ⊢; rw [hI]; simp only [ints, rBin]; rw [wrap_in] <;> omega
  cbv
  refine .br (fun g1 => ?_) (fun g1 => ?_)
  · have hj1 : j < ps.length := by
      have : z < c := by simpa [hI, ints, rCmp] using g1
      unfold isN at hz hc
      omega
    obtain ⟨u, hu⟩ : ∃ u, ps[j]? = some u := ⟨_, List.getElem?_eq_getElem hj1⟩
    obtain ⟨w, hw⟩ : ∃ w, qs[j]? = some w := ⟨_, List.getElem?_eq_getElem (by omega)⟩
    obtain ⟨D1, hD1, hr1⟩ := h1.get hu
    obtain ⟨D2, hD2, hr2⟩ := h2.get hw
    have hud := hd u (List.mem_of_getElem? hu)
    have hl1 : j < I.len L1 := by rw [hn1]; exact hj1
    have hl2 : j < I.len L2 := by rw [hn2]; omega
    have hstep : u = w → ps.take (j + 1) = qs.take (j + 1) := fun e => by rw [List.take_add_one, List.take_add_one, ht, hu, hw, e]
    have hstop : u ≠ w → ps ≠ qs := fun h e => h (by rw [e, hw] at hu; exact (Option.some.inj hu).symm)
    obtain ⟨uk, uf, ut, ui, ul, up, us, ub, ud⟩ := u
    obtain ⟨wk, wf, wt, wi, wl, wp, ws, wb, wd⟩ := w
    cbv
    refine .drawn [] ?_
    cbv
    refine .idx j hz hl1 (.nth _ hr1 ?_)
    cbv
    refine .idx j hz hl2 (.nth _ hr2 ?_)
    cbv
    refine .go [] [] [.bor 1, .bor 1] (refsame hp ⟨.sym uk, .sym uf, .sym ut, .sym ui, .sym ul, .sym up, .sym us, .sym ub⟩ ⟨.sym wk, .sym wf, .sym wt, .sym wi, .sym wl, .sym wp, .sym ws, .sym wb⟩ D1 D2 ud wd hD1 hD2 hud) rfl rfl rfl rfl rfl rfl ?_
    rintro v m1 ⟨t, ht2, rfl, rfl⟩
    have ht2 : t = ((⟨uk, uf, ut, ui, ul, up, us, ub, ud⟩ : PK) == ⟨wk, wf, wt, wi, wl, wp, ws, wb, wd⟩) := ht2
    cbv
    refine .br (fun g2 => ?_) (fun g2 => ?_)
    · have g2 : t = false := by simpa [hI, ints] using g2
      have hne := hstop (beq_eq_false_iff_ne.1 (ht2.symm.trans g2))
      cbv
      exact hP _ _ [] [] _ _ .nil rfl rfl rfl rfl rfl ⟨_, rfl, (beq_eq_false_iff_ne.2 hne).symm, rfl⟩
    · have g2 : t = true := by simpa [hI, ints] using g2
      have heq := hstep (beq_iff_eq.1 (ht2.symm.trans g2))
      cbv
      exact hnext _ _ (ps.length - (j + 1)) [] [] [0, 1, 12, 13] _ _ (by omega) (by decide) rfl rfl rfl ⟨j + 1, _, c, rfl, hz1, hc, hj1, heq, rfl, rfl⟩
  · have hj1 : ¬ j < ps.length := by
      have : ¬ z < c := by simpa [hI, ints, rCmp] using g1
      unfold isN at hz hc
      omega
    have he : (ps == qs) = true := by
      rw [List.take_of_length_le (by omega), List.take_of_length_le (by omega)] at ht
      rw [ht]
      simp
    cbv
    exact hP _ _ [] [] _ _ .nil rfl rfl rfl rfl rfl ⟨_, rfl, he.symm, rfl⟩
end
end Go.Proofs.Ytioihcojooibmaa.E
