/- TraceCuts. -/
import Derived.Test.YtbfolphodlkmkaaTC
namespace Go.Proofs.Ytbfolphodlkmkaa.E
open Go
set_option linter.unusedVariables false
set_option maxRecDepth 100000

theorem LValid.lit {P : Program} {f : FuncId} {args : List V1} {m : Mem} {k : IntKind} {R R' : A → Mem → Prop} (h : LValid P f args m R) (hR : ∀ v m1, R v m1 → ∃ z : Int, v = .one (.c (.g (.int k (.sym z)))) ∧ R' (.one (.c (.g (.int k (.lit z))))) m1) : LValid P f args m R' := fun E w vs hs hsz hr =>
  (h E w vs hs hsz hr).mono fun e w' ⟨u, v, m', E', a1, a2, a3, a4, a5⟩ => by
    obtain ⟨z, rfl, h1⟩ := hR v m' a2
    refine ⟨u, _, m', E', a1, h1, .inr ?_, rfl, a5⟩
    rcases a3 with a3 | a3
    · cases a3
    · generalize u = u' at a3
      cases a3
      exact .int k (.lit z)
theorem rightL_app (N : Int) : ∀ (A B pre : List EV), rightL N pre (A ++ B) = (rightL N pre A && rightL N (pre ++ A) B)
  | [], B, pre => by simp [rightL]
  | x :: A, B, pre => by
    simp only [List.cons_append, rightL]
    rw [rightL_app N A B (pre ++ [x]), Bool.and_assoc, List.append_assoc]
    rfl
theorem okAt_cnt (N : Int) (p1 p2 : List EV) (x : EV) (h : cnt p1 x.n = cnt p2 x.n) : okAt N p1 x = okAt N p2 x := by unfold okAt; rw [h]
theorem right_same (N z : Int) : ∀ (l p1 p2 : List EV), (∀ y ∈ l, y.n ≠ z) → (∀ w, w ≠ z → cnt p1 w = cnt p2 w) → rightL N p1 l = rightL N p2 l
  | [], p1, p2, h, hc => rfl
  | x :: l, p1, p2, h, hc => by
    have hx : x.n ≠ z := h x (by simp)
    simp only [rightL]
    rw [okAt_cnt N p1 p2 x (hc _ hx), right_same N z l (p1 ++ [x]) (p2 ++ [x]) (fun y hy => h y (by simp [hy])) (fun w hw => by rw [cnt_app, cnt_app, hc w hw])]
theorem right_less (N z : Int) : ∀ (l p1 p2 : List EV), (∃ y ∈ l, y.n = z) → (∀ w, w ≠ z → cnt p1 w = cnt p2 w) → cnt p1 z = cnt p2 z + 1 → rightL N p1 l = true → rightL N p2 l = false
  | [], p1, p2, h, hc, hz, hr => by obtain ⟨y, hy, _⟩ := h; simp at hy
  | x :: l, p1, p2, h, hc, hz, hr => by
    simp only [rightL, Bool.and_eq_true] at hr ⊢
    by_cases hx : x.n = z
    · have h1 := hr.1
      have : okAt N p2 x = false := by
        unfold okAt at h1 ⊢
        rw [hx] at h1 ⊢
        simp only [Bool.and_eq_true, beq_iff_eq] at h1
        have h2 := h1.1.2
        have h3 : (x.d == (cnt p2 z % 2 == 1)) = false := by
          rw [h2, hz]
          rcases (show cnt p2 z % 2 = 0 ∨ cnt p2 z % 2 = 1 from by omega) with e | e
          · have : (cnt p2 z + 1) % 2 = 1 := by omega
            rw [e, this]; rfl
          · have : (cnt p2 z + 1) % 2 = 0 := by omega
            rw [e, this]; rfl
        rw [h3]
        simp
      rw [this]
      rfl
    · have : rightL N (p2 ++ [x]) l = false := by
        refine right_less N z l (p1 ++ [x]) (p2 ++ [x]) ?_ (fun w hw => by rw [cnt_app, cnt_app, hc w hw]) ?_ hr.2
        · obtain ⟨y, hy, hyz⟩ := h
          rcases List.mem_cons.1 hy with rfl | hy
          · exact absurd hyz hx
          · exact ⟨y, hy, hyz⟩
        · rw [cnt_app, cnt_app, if_neg hx, if_neg hx, hz]
      rw [this, Bool.and_false]
/-- One event less. -/
theorem cut_right (N : Int) (es : List EV) (k : Nat) (x : EV) (hx : es[k]? = some x) (hr : rightL N [] es = true) : rightL N [] (es.take k ++ es.drop (k + 1)) = !((es.drop (k + 1)).any fun e => e.n == x.n) := by
  have hlt := (List.getElem?_eq_some_iff.1 hx).1
  have e : es = es.take k ++ (x :: es.drop (k + 1)) := by
    have h1 := List.take_append_drop k es
    rw [List.drop_eq_getElem_cons hlt, (List.getElem?_eq_some_iff.1 hx).2] at h1
    exact h1.symm
  rw [e, rightL_app, List.nil_append] at hr
  simp only [Bool.and_eq_true, rightL] at hr
  obtain ⟨h1, h2, h3⟩ := hr
  rw [rightL_app, List.nil_append, h1, Bool.true_and]
  have hc : ∀ w, w ≠ x.n → cnt (es.take k ++ [x]) w = cnt (es.take k) w := fun w hw => by rw [cnt_app, if_neg (fun e => hw e.symm)]
  cases ha : (es.drop (k + 1)).any fun e => e.n == x.n with
  | false =>
    show rightL N _ _ = true
    rw [← h3]
    refine (right_same N x.n _ _ _ (fun y hy hyz => ?_) hc).symm.trans ?_
    · have := List.any_eq_false.1 ha y hy
      simp [hyz] at this
    · rfl
  | true =>
    obtain ⟨y, hy, hyz⟩ := List.any_eq_true.1 ha
    exact right_less N x.n _ _ _ ⟨y, hy, by simpa using hyz⟩ hc (by rw [cnt_app, if_pos rfl]) h3
theorem right_take (N : Int) (es : List EV) (n : Nat) (hr : rightL N [] es = true) : rightL N [] (es.take n) = true := by
  rw [← List.take_append_drop n es, rightL_app] at hr
  simp only [Bool.and_eq_true] at hr
  exact hr.1
/-- What the arrays have of the events so far. -/
def isC (es : List EV) (a : Int → Int) (b : Int → Bool) : Prop := rightL 4 [] es = true ∧ ∀ z, a z = ((cnt es z / 2 : Nat) : Int) ∧ b z = (cnt es z % 2 == 1)
def upI (a : Int → Int) (k x : Int) : Int → Int := fun z => if z = k then x else a z
def upB (b : Int → Bool) (k : Int) (x : Bool) : Int → Bool := fun z => if z = k then x else b z
theorem isC.add1 {es : List EV} {a : Int → Int} {b : Int → Bool} (h : isC es a b) (k w : Int) (hk : 0 ≤ k ∧ k < 4) (hb : b k = true) (hl : es.length ≤ 1000) : isC (es ++ [⟨k, a k, true, w⟩]) (upI a k (IntKind.i64.wrap (a k + 1))) (upB b k (!true)) := by
  obtain ⟨h1, h2⟩ := h
  obtain ⟨h3, h4⟩ := h2 k
  have hc := cnt_le es k
  rw [hb] at h4
  have h4 : cnt es k % 2 = 1 := by simpa using h4.symm
  refine ⟨?_, fun z => ?_⟩
  · rw [rightL_app, h1]
    simp only [List.nil_append, rightL, Bool.and_true, Bool.true_and]
    unfold okAt
    simp [hk, h3, h4]
  · obtain ⟨h5, h6⟩ := h2 z
    unfold upI upB
    rw [cnt_app]
    by_cases hz : z = k
    · subst hz
      rw [if_pos rfl, if_pos rfl, if_pos rfl, h3]
      have e1 : (cnt es z + 1) % 2 = 0 := by omega
      refine ⟨?_, by rw [e1]; rfl⟩
      rw [wrap_in] <;> omega
    · have hz2 : ¬ k = z := fun e => hz e.symm
      rw [if_neg hz, if_neg hz, if_neg hz2]
      exact ⟨h5, h6⟩
theorem isC.add0 {es : List EV} {a : Int → Int} {b : Int → Bool} (h : isC es a b) (k : Int) (hk : 0 ≤ k ∧ k < 4) (hb : b k = false) : isC (es ++ [⟨k, a k, false, 0⟩]) a (upB b k (!false)) := by
  obtain ⟨h1, h2⟩ := h
  obtain ⟨h3, h4⟩ := h2 k
  rw [hb] at h4
  have h4 : cnt es k % 2 = 0 := by
    have : ¬ cnt es k % 2 = 1 := by simpa using h4.symm
    omega
  refine ⟨?_, fun z => ?_⟩
  · rw [rightL_app, h1]
    simp only [List.nil_append, rightL, Bool.and_true, Bool.true_and]
    unfold okAt
    simp [hk, h3, h4]
  · obtain ⟨h5, h6⟩ := h2 z
    unfold upB
    rw [cnt_app]
    by_cases hz : z = k
    · subst hz
      rw [if_pos rfl, if_pos rfl, h3]
      have e1 : (cnt es z + 1) % 2 = 1 := by omega
      exact ⟨by omega, by rw [e1]; rfl⟩
    · have hz2 : ¬ k = z := fun e => hz e.symm
      rw [if_neg hz, if_neg hz2]
      exact ⟨h5, h6⟩
section
variable {P : Program} (hp : P = Try.prog)
include hp
theorem within4 (v : Z) : LValid P 7 [.c (.g (.int .i64 v)), .c (.g (.int .i64 (.lit 4)))] [] (fun r m1 => ∃ z : Int, (z = 0 ∨ z = 1 ∨ z = 2 ∨ z = 3) ∧ r = .one (.c (.g (.int .i64 (.lit z)))) ∧ m1 = []) :=
  (within hp v (.lit 4)).lit fun r m1 ⟨t, ht, hr, hm⟩ => ⟨t, hr, t, by
    have := win_in v.val 4 (by omega) (by omega)
    have e : t = win v.val 4 := ht
    omega, rfl, hm⟩
set_option maxHeartbeats 8000000 in
theorem cuts (W0 : List (List G)) (us : List Int) (h0 : isL .i64 W0 us) (cut out : Int) : LValid P 3 [.c (.g (.rows 1 W0)), gi .i64 cut, gi .i64 out] [] (fun v _ => ∃ b : BB, b.val = true ∧ v = .one (.c (.g (.bool b)))) := by
  obtain ⟨I, hI⟩ := ref
  have hle : I.len W0 = us.length := by rw [hI]; exact h0.len
  refine fn_sim hI (mo hp) (cc hp c3) fun Post hP => ?_
  cbv
  refine .own 9 4 rfl ?_
  refine .loop_next (fun n ts m => ∃ (i : Nat) (z : Int) (L : List (List G)) (es : List EV) (a : Int → Int) (b : Int → Bool), n = 24 - i ∧ isN z i ∧ i ≤ 24 ∧ isE L es ∧ isC es a b ∧ es.length ≤ i ∧
      ts = fr 124 [(0, .one (.c (.g (.rows 1 W0)))), (1, i64 cut), (2, i64 out), (7, .one (.c (.ptr 0 (.lit 0) 4 0))), (8, .one (.c (.ptr 1 (.lit 0) 4 0))), (9, .one (.c (.row 2 4 none))), (10, i64 z)] ∧
      m = [.lit 4 [[.g (.int .i64 (.sym (a 0))), .g (.int .i64 (.sym (a 1))), .g (.int .i64 (.sym (a 2))), .g (.int .i64 (.sym (a 3)))]], .lit 4 [[.g (.bool (.sym (b 0))), .g (.bool (.sym (b 1))), .g (.bool (.sym (b 2))), .g (.bool (.sym (b 3)))]], .sym 4 L])
    24 _ _ [0, 1, 2] [] [0, 1, 2, 7, 8, 9, 10] (by decide) rfl rfl rfl ⟨0, 0, [], [], fun _ => 0, fun _ => false, rfl, rfl, by omega, rfl, ⟨rfl, fun z => ⟨by simp [cnt], by simp [cnt]⟩⟩, by simp, rfl, rfl⟩ ?_
  rintro next n hnext ts m ⟨i, z, L, es, a, b, hn, hz, hi, hL, hC, hel, rfl, rfl⟩
  have hLl : I.len L = es.length := by rw [hI]; exact hL.len
  cbv
  refine .br (fun g1 => ?_) (fun g1 => ?_)
  · have hi1 : i < us.length := by
      have h' : rCmp .lss z ((I.len W0 : Nat) : Int) = true := by rw [hI] at g1 ⊢; exact g1
      rw [hle] at h'
      have : z < (us.length : Nat) := by simpa [rCmp] using h'
      unfold isN at hz
      omega
    cbv
    refine .br (fun g2 => ?_) (fun g2 => ?_)
    · have hi2 : i < 24 := by
        have : z < 24 := by simpa [hI, ints, rCmp] using g2
        unfold isN at hz
        omega
      have hz1 : isN (I.bin .add .i64 z 1) (i + 1) := by unfold isN at hz ⊢; rw [hI]; simp only [ints, rBin]; rw [wrap_in] <;> omega
      obtain ⟨x, hx⟩ : ∃ x, us[i]? = some x := ⟨_, List.getElem?_eq_getElem hi1⟩
      have hr : W0[i]? = some [.int .i64 (.sym x)] := by rw [h0.get, hx]; rfl
      have hil : i < I.len W0 := by rw [hle]; exact hi1
      have hap : ∀ e : EV, isE (I.app L [e.row]) (es ++ [e]) := fun e => by rw [hI]; exact hL.app e
      have hap1 : ∀ e : EV, I.len (I.app L [e.row]) * 32 ≤ 140737488355328 := fun e => by
        have := (hap e).len
        rw [List.length_append] at this
        rw [hI] at this ⊢
        show List.length _ * 32 ≤ _
        rw [this]
        show (es.length + 1) * 32 ≤ _
        omega
      have hap2 : ∀ e : EV, I.len (I.app L [e.row]) ≤ 140737488355328 := fun e => by have := hap1 e; omega
      have hst1 : ∀ k : Int, 0 ≤ k ∧ k < 4 → b k = true → isC (es ++ [⟨k, a k, b k, x⟩]) (upI a k (I.bin .add .i64 (a k) 1)) (upB b k (I.not (b k))) := fun k hk hb => by rw [hI, hb]; exact hC.add1 k x hk hb (by omega)
      have hst0 : ∀ k : Int, 0 ≤ k ∧ k < 4 → b k = false → isC (es ++ [⟨k, a k, b k, 0⟩]) a (upB b k (I.not (b k))) := fun k hk hb => by rw [hI, hb]; exact hC.add0 k hk hb
      have hel2 : ∀ e : EV, (es ++ [e]).length ≤ i + 1 := fun e => by rw [List.length_append]; show es.length + 1 ≤ _; omega
      cbv
      refine .idx i hz hil (.nth _ hr ?_)
      cbv
      refine .go [] [] [] (within4 hp (.sym x)) rfl rfl rfl rfl rfl rfl ?_
      rintro r m1 ⟨kk, hkk, rfl, rfl⟩
      rcases hkk with rfl | rfl | rfl | rfl
      · cbv
        refine .drawn [] ?_
        cbv
        refine .br (fun g3 => ?_) (fun g3 => ?_)
        · have hq1 := hap1 ⟨0, a 0, b 0, x⟩
          have hq2 := hap2 ⟨0, a 0, b 0, x⟩
          have hq3 := hap ⟨0, a 0, b 0, x⟩
          have hq4 := hst1 0 (by decide) g3
          cbv
          refine .idx i hz hil (.nth _ hr ?_)
          cbv
          refine .most hq1 hq2 ?_
          cbv
          exact hnext _ _ (24 - (i + 1)) [0, 1, 5] [] [0, 1, 2, 7, 8, 9, 10] _ _ (by omega) (by decide) rfl rfl rfl ⟨i + 1, _, _, _, _, _, rfl, hz1, hi2, hq3, hq4, hel2 _, rfl, rfl⟩
        · have hq1 := hap1 ⟨0, a 0, b 0, 0⟩
          have hq2 := hap2 ⟨0, a 0, b 0, 0⟩
          have hq3 := hap ⟨0, a 0, b 0, 0⟩
          have hq4 := hst0 0 (by decide) g3
          cbv
          refine .most hq1 hq2 ?_
          cbv
          exact hnext _ _ (24 - (i + 1)) [0, 1, 5] [] [0, 1, 2, 7, 8, 9, 10] _ _ (by omega) (by decide) rfl rfl rfl ⟨i + 1, _, _, _, _, _, rfl, hz1, hi2, hq3, hq4, hel2 _, rfl, rfl⟩
      · cbv
        refine .drawn [] ?_
        cbv
        refine .br (fun g3 => ?_) (fun g3 => ?_)
        · have hq1 := hap1 ⟨1, a 1, b 1, x⟩
          have hq2 := hap2 ⟨1, a 1, b 1, x⟩
          have hq3 := hap ⟨1, a 1, b 1, x⟩
          have hq4 := hst1 1 (by decide) g3
          cbv
          refine .idx i hz hil (.nth _ hr ?_)
          cbv
          refine .most hq1 hq2 ?_
          cbv
          exact hnext _ _ (24 - (i + 1)) [0, 1, 5] [] [0, 1, 2, 7, 8, 9, 10] _ _ (by omega) (by decide) rfl rfl rfl ⟨i + 1, _, _, _, _, _, rfl, hz1, hi2, hq3, hq4, hel2 _, rfl, rfl⟩
        · have hq1 := hap1 ⟨1, a 1, b 1, 0⟩
          have hq2 := hap2 ⟨1, a 1, b 1, 0⟩
          have hq3 := hap ⟨1, a 1, b 1, 0⟩
          have hq4 := hst0 1 (by decide) g3
          cbv
          refine .most hq1 hq2 ?_
          cbv
          exact hnext _ _ (24 - (i + 1)) [0, 1, 5] [] [0, 1, 2, 7, 8, 9, 10] _ _ (by omega) (by decide) rfl rfl rfl ⟨i + 1, _, _, _, _, _, rfl, hz1, hi2, hq3, hq4, hel2 _, rfl, rfl⟩
      · cbv
        refine .drawn [] ?_
        cbv
        refine .br (fun g3 => ?_) (fun g3 => ?_)
        · have hq1 := hap1 ⟨2, a 2, b 2, x⟩
          have hq2 := hap2 ⟨2, a 2, b 2, x⟩
          have hq3 := hap ⟨2, a 2, b 2, x⟩
          have hq4 := hst1 2 (by decide) g3
          cbv
          refine .idx i hz hil (.nth _ hr ?_)
          cbv
          refine .most hq1 hq2 ?_
          cbv
          exact hnext _ _ (24 - (i + 1)) [0, 1, 5] [] [0, 1, 2, 7, 8, 9, 10] _ _ (by omega) (by decide) rfl rfl rfl ⟨i + 1, _, _, _, _, _, rfl, hz1, hi2, hq3, hq4, hel2 _, rfl, rfl⟩
        · have hq1 := hap1 ⟨2, a 2, b 2, 0⟩
          have hq2 := hap2 ⟨2, a 2, b 2, 0⟩
          have hq3 := hap ⟨2, a 2, b 2, 0⟩
          have hq4 := hst0 2 (by decide) g3
          cbv
          refine .most hq1 hq2 ?_
          cbv
          exact hnext _ _ (24 - (i + 1)) [0, 1, 5] [] [0, 1, 2, 7, 8, 9, 10] _ _ (by omega) (by decide) rfl rfl rfl ⟨i + 1, _, _, _, _, _, rfl, hz1, hi2, hq3, hq4, hel2 _, rfl, rfl⟩
      · cbv
        refine .drawn [] ?_
        cbv
        refine .br (fun g3 => ?_) (fun g3 => ?_)
        · have hq1 := hap1 ⟨3, a 3, b 3, x⟩
          have hq2 := hap2 ⟨3, a 3, b 3, x⟩
          have hq3 := hap ⟨3, a 3, b 3, x⟩
          have hq4 := hst1 3 (by decide) g3
          cbv
          refine .idx i hz hil (.nth _ hr ?_)
          cbv
          refine .most hq1 hq2 ?_
          cbv
          exact hnext _ _ (24 - (i + 1)) [0, 1, 5] [] [0, 1, 2, 7, 8, 9, 10] _ _ (by omega) (by decide) rfl rfl rfl ⟨i + 1, _, _, _, _, _, rfl, hz1, hi2, hq3, hq4, hel2 _, rfl, rfl⟩
        · have hq1 := hap1 ⟨3, a 3, b 3, 0⟩
          have hq2 := hap2 ⟨3, a 3, b 3, 0⟩
          have hq3 := hap ⟨3, a 3, b 3, 0⟩
          have hq4 := hst0 3 (by decide) g3
          cbv
          refine .most hq1 hq2 ?_
          cbv
          exact hnext _ _ (24 - (i + 1)) [0, 1, 5] [] [0, 1, 2, 7, 8, 9, 10] _ _ (by omega) (by decide) rfl rfl rfl ⟨i + 1, _, _, _, _, _, rfl, hz1, hi2, hq3, hq4, hel2 _, rfl, rfl⟩
    · have hn24 : es.length ≤ 1000 := by omega
      cbv
      refine .go [] [] [.keep, .bor 4] (right_ hp (.lit 4) L es hL (by omega)) rfl rfl rfl rfl rfl rfl ?_
      rintro r m1 ⟨t1, ht1, rfl, rfl⟩
      have ht1 : t1 = true := ht1.trans hC.1
      cbv
      refine br_f (by rw [hI, ht1]; rfl) ?_
      cbv
      refine .go [] [] [] (within hp _ _) rfl rfl rfl rfl rfl rfl ?_
      rintro r m1 ⟨w, hw, rfl, rfl⟩
      have hw : w = win cut (I.bin .add .i64 (I.ofNat (I.len L)) 1) := hw
      have hadd : I.bin .add .i64 (I.ofNat (I.len L)) 1 = (es.length : Int) + 1 := by
        rw [hLl, hI]
        show IntKind.i64.wrap ((es.length : Int) + 1) = _
        rw [wrap_in] <;> omega
      obtain ⟨wn, hwn, hwl⟩ : ∃ wn : Nat, isN w wn ∧ wn ≤ es.length := by
        have := win_in cut ((es.length : Int) + 1) (by omega) (by omega)
        rw [← hadd, ← hw] at this
        rw [hadd] at this
        exact ⟨w.toNat, by unfold isN; omega, by omega⟩
      have hE1 : isE (I.ext L 0 wn) (es.take wn) := by rw [hI]; exact hL.take wn
      have hwl2 : wn ≤ I.len L := by rw [hLl]; exact hwl
      have hr1 : rightL 4 [] (es.take wn) = true := right_take 4 es wn hC.1
      have htl1 : (es.take wn).length ≤ 1000000 := by rw [List.length_take]; omega
      generalize hx1 : I.ext L 0 wn = L1 at hE1
      clear hw hadd
      cbv
      refine .rng 0 wn rfl hwn (Nat.zero_le _) hwl2 ?_
      cbv
      refine .go [] [] [.keep, .bor 4] (right_ hp (.lit 4) L1 _ hE1 htl1) rfl rfl rfl rfl (by rw [← hx1]; rfl) rfl ?_
      rintro r m1 ⟨t2, ht2, rfl, rfl⟩
      have ht2 : t2 = true := ht2.trans hr1
      cbv
      refine br_f (by rw [hI, ht2]; rfl) ?_
      cbv
      refine .br (fun q1 => ?_) (fun q1 => ?_)
      · cbv
        refine .go [] [] [] (wakes hp) rfl rfl rfl rfl rfl rfl ?_
        rintro v m1 ⟨rfl, rfl⟩
        cbv
        exact hP _ _ [] [] _ _ .nil rfl rfl rfl rfl rfl ⟨_, rfl, rfl⟩
      have h0l : 1 ≤ es.length := by
        have h' : rCmp .eql ((I.len L : Nat) : Int) 0 = false := by rw [hI] at q1 ⊢; exact q1
        rw [hLl] at h'
        have : ¬ ((es.length : Nat) : Int) = 0 := by simpa [rCmp] using h'
        omega
      cbv
      refine .go [] [] [] (within hp _ _) rfl rfl rfl rfl rfl rfl ?_
      rintro r m1 ⟨y, hy, rfl, rfl⟩
      have hy : y = win out (I.ofNat (I.len L)) := hy
      have hofn : I.ofNat (I.len L) = (es.length : Int) := by rw [hLl, hI]; rfl
      obtain ⟨k, hk, hkl⟩ : ∃ k : Nat, isN y k ∧ k < es.length := by
        have := win_in out (es.length : Int) (by omega) (by omega)
        rw [← hofn, ← hy, hofn] at this
        exact ⟨y.toNat, by unfold isN; omega, by omega⟩
      have hk1 : isN (I.bin .add .i64 y 1) (k + 1) := by unfold isN at hk ⊢; rw [hI]; simp only [ints, rBin]; rw [wrap_in] <;> omega
      obtain ⟨x0, hx0⟩ : ∃ x, es[k]? = some x := ⟨_, List.getElem?_eq_getElem hkl⟩
      have hrx := hL.get hx0
      have hkl2 : k < I.len L := by rw [hLl]; exact hkl
      have hkl3 : k + 1 ≤ I.len L := by rw [hLl]; omega
      have hsub : isN (I.ofNat (I.sub (I.len L) (k + 1))) (es.length - (k + 1)) := by rw [hLl, hI]; rfl
      obtain ⟨k1, hk1e⟩ : ∃ k1, k1 = k + 1 := ⟨_, rfl⟩
      rw [← hk1e] at hk1 hkl3 hsub
      clear hy hofn
      cbv
      refine .rng k1 (I.len L) hk1 rfl hkl3 (Nat.le_refl _) ?_
      cbv
      refine .loop_next (fun n ts m => ∃ (j : Nat) (u c : Int) (lt : Bool), n = es.length - k1 - j ∧ isN u j ∧ isN c (es.length - k1) ∧ j ≤ es.length - k1 ∧ lt = ((es.drop k1).take j).any (fun e => e.n == x0.n) ∧
          ts = fr 124 [(0, .one (.c (.g (.rows 1 W0)))), (9, .one (.c (.row 0 4 none))), (13, i64 y), (14, boo lt), (89, .one (.c (.sl 0 (.sym k1) 4 (.sym (I.sub (I.len L) k1)) none))), (90, i64 c), (91, i64 u)] ∧ m = [.sym 4 L])
        (es.length - k1) _ _ [2] [] [0, 9, 13, 14, 89, 90, 91] (by decide) rfl rfl rfl ⟨0, 0, _, false, rfl, rfl, hsub, Nat.zero_le _, rfl, rfl, rfl⟩ ?_
      rintro next2 n2 hnext2 ts m ⟨j, u, c, lt, hn2, hu, hc, hj, hlt, rfl, rfl⟩
      cbv
      refine .br (fun q2 => ?_) (fun q2 => ?_)
      · have hj1 : j < es.length - k1 := by
          have : u < c := by simpa [hI, ints, rCmp] using q2
          unfold isN at hu hc
          omega
        have hu1 : isN (I.bin .add .i64 u 1) (j + 1) := by unfold isN at hu ⊢; rw [hI]; simp only [ints, rBin]; rw [wrap_in] <;> omega
        obtain ⟨e, he⟩ : ∃ e, es[k1 + j]? = some e := ⟨_, List.getElem?_eq_getElem (by omega)⟩
        have hre : L[I.add k1 j]? = some e.row := by rw [hI]; exact hL.get he
        have hjs : j < I.sub (I.len L) k1 := by rw [hLl, hI]; exact hj1
        have hany : ∀ q : Bool, lt = q → ((es.drop k1).take (j + 1)).any (fun e => e.n == x0.n) = (q || (e.n == x0.n)) := fun q hq => by
          rw [List.take_add_one, List.any_append, ← hlt, hq, List.getElem?_drop, he]
          simp
        have hce : I.cmp .eql e.n x0.n = (e.n == x0.n) := by rw [hI]; rfl
        obtain ⟨en, ei, ed, ev⟩ := e
        obtain ⟨xn, xi, xd, xv⟩ := x0
        cbv
        refine .idx j hu hjs ?_
        cbv
        refine .nth _ hre ?_
        cbv
        refine .drawn [] ?_
        cbv
        refine .br (fun q3 => ?_) (fun q3 => ?_)
        · have := (hany _ q3).symm
          cbv
          exact hnext2 _ _ (es.length - k1 - (j + 1)) [0] [] [0, 9, 13, 14, 89, 90, 91] _ _ (by omega) (by decide) rfl rfl rfl ⟨j + 1, _, c, true, rfl, hu1, hc, hj1, this, rfl, rfl⟩
        · have := (hany _ q3).symm
          rw [Bool.false_or, ← hce] at this
          cbv
          refine .idx k hk hkl2 ?_
          cbv
          refine .nth _ hrx ?_
          cbv
          exact hnext2 _ _ (es.length - k1 - (j + 1)) [0] [] [0, 9, 13, 14, 89, 90, 91] _ _ (by omega) (by decide) rfl rfl rfl ⟨j + 1, _, c, _, rfl, hu1, hc, hj1, this, rfl, rfl⟩
      have hjN : j = es.length - k1 := by
        have : ¬ u < c := by simpa [hI, ints, rCmp] using q2
        unfold isN at hu hc
        omega
      have hlt2 : lt = (es.drop k1).any (fun e => e.n == x0.n) := by rw [hlt, hjN, List.take_of_length_le (by rw [List.length_drop]; omega)]
      have hE2 : isE (I.ext L 0 k) (es.take k) := by rw [hI]; exact hL.take k
      have hE3 : isE (I.ext L k1 (I.add k1 (I.sub (I.len L) k1))) (es.drop k1) := by
        have e1 : I.add k1 (I.sub (I.len L) k1) = es.length := by rw [hLl, hI]; show k1 + (es.length - k1) = _; omega
        rw [e1, hI]
        show isE ((L.take es.length).drop k1) _
        rw [List.take_of_length_le (by rw [hL.len]; omega)]
        exact hL.drop k1
      have hE4 : isE (I.app (I.ext L 0 k) (I.ext L k1 (I.add k1 (I.sub (I.len L) k1)))) (es.take k ++ es.drop k1) := by
        unfold isE at hE2 hE3 ⊢
        rw [hE2, hE3, hI]
        show _ ++ _ = _
        rw [List.map_append]
      have hcut := cut_right 4 es k x0 hx0 hC.1
      rw [← hk1e, ← hlt2] at hcut
      have hl4 : (es.take k ++ es.drop k1).length ≤ 1000000 := by rw [List.length_append, List.length_take, List.length_drop]; omega
      have hl2 : (I.ext L 0 k).length ≤ 1000000 := by rw [hE2.len, List.length_take]; omega
      have hm4 : I.len (I.app (I.ext L 0 k) (I.ext L k1 (I.add k1 (I.sub (I.len L) k1)))) * 32 ≤ 140737488355328 := by
        have := hE4.len
        have e2 : I.len (I.app (I.ext L 0 k) (I.ext L k1 (I.add k1 (I.sub (I.len L) k1)))) = (es.take k ++ es.drop k1).length := by rw [← this, hI]; rfl
        rw [e2]
        omega
      have hm5 : I.len (I.app (I.ext L 0 k) (I.ext L k1 (I.add k1 (I.sub (I.len L) k1)))) ≤ 140737488355328 := by omega
      have hkl4 : k ≤ I.len L := by rw [hLl]; omega
      generalize es.take k ++ es.drop k1 = es4 at hE4 hcut hl4
      clear hE3 hlt hk1e
      cbv
      refine .drawn [] ?_
      cbv
      refine .rng 0 k rfl hk (Nat.zero_le _) hkl4 ?_
      cbv
      refine .rng k1 (I.len L) hk1 rfl hkl3 (Nat.le_refl _) ?_
      cbv
      refine .go [] [] [.bor 4] (copyE hp (I.ext L 0 k) hl2) rfl rfl rfl rfl rfl rfl ?_
      rintro r m1 ⟨rfl, rfl⟩
      cbv
      refine .most hm4 hm5 ?_
      cbv
      refine .go [] [] [.keep, .bor 4] (right_ hp (.lit 4) _ es4 hE4 hl4) rfl rfl rfl rfl rfl rfl ?_
      rintro r m1 ⟨t5, ht5, rfl, rfl⟩
      have ht5 : t5 = !lt := ht5.trans hcut
      have hq5 : I.beq t5 (I.not lt) = true := by rw [ht5, hI]; simp [ints]
      cbv
      refine br_t hq5 ?_
      cbv
      refine .go [] [] [] (wakes hp) rfl rfl rfl rfl rfl rfl ?_
      rintro v m1 ⟨rfl, rfl⟩
      cbv
      exact hP _ _ [] [] _ _ .nil rfl rfl rfl rfl rfl ⟨_, rfl, rfl⟩
  · have hn24 : es.length ≤ 1000 := by omega
    cbv
    refine .go [] [] [.keep, .bor 4] (right_ hp (.lit 4) L es hL (by omega)) rfl rfl rfl rfl rfl rfl ?_
    rintro r m1 ⟨t1, ht1, rfl, rfl⟩
    have ht1 : t1 = true := ht1.trans hC.1
    cbv
    refine br_f (by rw [hI, ht1]; rfl) ?_
    cbv
    refine .go [] [] [] (within hp _ _) rfl rfl rfl rfl rfl rfl ?_
    rintro r m1 ⟨w, hw, rfl, rfl⟩
    have hw : w = win cut (I.bin .add .i64 (I.ofNat (I.len L)) 1) := hw
    have hadd : I.bin .add .i64 (I.ofNat (I.len L)) 1 = (es.length : Int) + 1 := by
      rw [hLl, hI]
      show IntKind.i64.wrap ((es.length : Int) + 1) = _
      rw [wrap_in] <;> omega
    obtain ⟨wn, hwn, hwl⟩ : ∃ wn : Nat, isN w wn ∧ wn ≤ es.length := by
      have := win_in cut ((es.length : Int) + 1) (by omega) (by omega)
      rw [← hadd, ← hw] at this
      rw [hadd] at this
      exact ⟨w.toNat, by unfold isN; omega, by omega⟩
    have hE1 : isE (I.ext L 0 wn) (es.take wn) := by rw [hI]; exact hL.take wn
    have hwl2 : wn ≤ I.len L := by rw [hLl]; exact hwl
    have hr1 : rightL 4 [] (es.take wn) = true := right_take 4 es wn hC.1
    have htl1 : (es.take wn).length ≤ 1000000 := by rw [List.length_take]; omega
    generalize hx1 : I.ext L 0 wn = L1 at hE1
    clear hw hadd
    cbv
    refine .rng 0 wn rfl hwn (Nat.zero_le _) hwl2 ?_
    cbv
    refine .go [] [] [.keep, .bor 4] (right_ hp (.lit 4) L1 _ hE1 htl1) rfl rfl rfl rfl (by rw [← hx1]; rfl) rfl ?_
    rintro r m1 ⟨t2, ht2, rfl, rfl⟩
    have ht2 : t2 = true := ht2.trans hr1
    cbv
    refine br_f (by rw [hI, ht2]; rfl) ?_
    cbv
    refine .br (fun q1 => ?_) (fun q1 => ?_)
    · cbv
      refine .go [] [] [] (wakes hp) rfl rfl rfl rfl rfl rfl ?_
      rintro v m1 ⟨rfl, rfl⟩
      cbv
      exact hP _ _ [] [] _ _ .nil rfl rfl rfl rfl rfl ⟨_, rfl, rfl⟩
    have h0l : 1 ≤ es.length := by
      have h' : rCmp .eql ((I.len L : Nat) : Int) 0 = false := by rw [hI] at q1 ⊢; exact q1
      rw [hLl] at h'
      have : ¬ ((es.length : Nat) : Int) = 0 := by simpa [rCmp] using h'
      omega
    cbv
    refine .go [] [] [] (within hp _ _) rfl rfl rfl rfl rfl rfl ?_
    rintro r m1 ⟨y, hy, rfl, rfl⟩
    have hy : y = win out (I.ofNat (I.len L)) := hy
    have hofn : I.ofNat (I.len L) = (es.length : Int) := by rw [hLl, hI]; rfl
    obtain ⟨k, hk, hkl⟩ : ∃ k : Nat, isN y k ∧ k < es.length := by
      have := win_in out (es.length : Int) (by omega) (by omega)
      rw [← hofn, ← hy, hofn] at this
      exact ⟨y.toNat, by unfold isN; omega, by omega⟩
    have hk1 : isN (I.bin .add .i64 y 1) (k + 1) := by unfold isN at hk ⊢; rw [hI]; simp only [ints, rBin]; rw [wrap_in] <;> omega
    obtain ⟨x0, hx0⟩ : ∃ x, es[k]? = some x := ⟨_, List.getElem?_eq_getElem hkl⟩
    have hrx := hL.get hx0
    have hkl2 : k < I.len L := by rw [hLl]; exact hkl
    have hkl3 : k + 1 ≤ I.len L := by rw [hLl]; omega
    have hsub : isN (I.ofNat (I.sub (I.len L) (k + 1))) (es.length - (k + 1)) := by rw [hLl, hI]; rfl
    obtain ⟨k1, hk1e⟩ : ∃ k1, k1 = k + 1 := ⟨_, rfl⟩
    rw [← hk1e] at hk1 hkl3 hsub
    clear hy hofn
    cbv
    refine .rng k1 (I.len L) hk1 rfl hkl3 (Nat.le_refl _) ?_
    cbv
    refine .loop_next (fun n ts m => ∃ (j : Nat) (u c : Int) (lt : Bool), n = es.length - k1 - j ∧ isN u j ∧ isN c (es.length - k1) ∧ j ≤ es.length - k1 ∧ lt = ((es.drop k1).take j).any (fun e => e.n == x0.n) ∧
        ts = fr 124 [(0, .one (.c (.g (.rows 1 W0)))), (9, .one (.c (.row 0 4 none))), (13, i64 y), (14, boo lt), (89, .one (.c (.sl 0 (.sym k1) 4 (.sym (I.sub (I.len L) k1)) none))), (90, i64 c), (91, i64 u)] ∧ m = [.sym 4 L])
      (es.length - k1) _ _ [2] [] [0, 9, 13, 14, 89, 90, 91] (by decide) rfl rfl rfl ⟨0, 0, _, false, rfl, rfl, hsub, Nat.zero_le _, rfl, rfl, rfl⟩ ?_
    rintro next2 n2 hnext2 ts m ⟨j, u, c, lt, hn2, hu, hc, hj, hlt, rfl, rfl⟩
    cbv
    refine .br (fun q2 => ?_) (fun q2 => ?_)
    · have hj1 : j < es.length - k1 := by
        have : u < c := by simpa [hI, ints, rCmp] using q2
        unfold isN at hu hc
        omega
      have hu1 : isN (I.bin .add .i64 u 1) (j + 1) := by unfold isN at hu ⊢; rw [hI]; simp only [ints, rBin]; rw [wrap_in] <;> omega
      obtain ⟨e, he⟩ : ∃ e, es[k1 + j]? = some e := ⟨_, List.getElem?_eq_getElem (by omega)⟩
      have hre : L[I.add k1 j]? = some e.row := by rw [hI]; exact hL.get he
      have hjs : j < I.sub (I.len L) k1 := by rw [hLl, hI]; exact hj1
      have hany : ∀ q : Bool, lt = q → ((es.drop k1).take (j + 1)).any (fun e => e.n == x0.n) = (q || (e.n == x0.n)) := fun q hq => by
        rw [List.take_add_one, List.any_append, ← hlt, hq, List.getElem?_drop, he]
        simp
      have hce : I.cmp .eql e.n x0.n = (e.n == x0.n) := by rw [hI]; rfl
      obtain ⟨en, ei, ed, ev⟩ := e
      obtain ⟨xn, xi, xd, xv⟩ := x0
      cbv
      refine .idx j hu hjs ?_
      cbv
      refine .nth _ hre ?_
      cbv
      refine .drawn [] ?_
      cbv
      refine .br (fun q3 => ?_) (fun q3 => ?_)
      · have := (hany _ q3).symm
        cbv
        exact hnext2 _ _ (es.length - k1 - (j + 1)) [0] [] [0, 9, 13, 14, 89, 90, 91] _ _ (by omega) (by decide) rfl rfl rfl ⟨j + 1, _, c, true, rfl, hu1, hc, hj1, this, rfl, rfl⟩
      · have := (hany _ q3).symm
        rw [Bool.false_or, ← hce] at this
        cbv
        refine .idx k hk hkl2 ?_
        cbv
        refine .nth _ hrx ?_
        cbv
        exact hnext2 _ _ (es.length - k1 - (j + 1)) [0] [] [0, 9, 13, 14, 89, 90, 91] _ _ (by omega) (by decide) rfl rfl rfl ⟨j + 1, _, c, _, rfl, hu1, hc, hj1, this, rfl, rfl⟩
    have hjN : j = es.length - k1 := by
      have : ¬ u < c := by simpa [hI, ints, rCmp] using q2
      unfold isN at hu hc
      omega
    have hlt2 : lt = (es.drop k1).any (fun e => e.n == x0.n) := by rw [hlt, hjN, List.take_of_length_le (by rw [List.length_drop]; omega)]
    have hE2 : isE (I.ext L 0 k) (es.take k) := by rw [hI]; exact hL.take k
    have hE3 : isE (I.ext L k1 (I.add k1 (I.sub (I.len L) k1))) (es.drop k1) := by
      have e1 : I.add k1 (I.sub (I.len L) k1) = es.length := by rw [hLl, hI]; show k1 + (es.length - k1) = _; omega
      rw [e1, hI]
      show isE ((L.take es.length).drop k1) _
      rw [List.take_of_length_le (by rw [hL.len]; omega)]
      exact hL.drop k1
    have hE4 : isE (I.app (I.ext L 0 k) (I.ext L k1 (I.add k1 (I.sub (I.len L) k1)))) (es.take k ++ es.drop k1) := by
      unfold isE at hE2 hE3 ⊢
      rw [hE2, hE3, hI]
      show _ ++ _ = _
      rw [List.map_append]
    have hcut := cut_right 4 es k x0 hx0 hC.1
    rw [← hk1e, ← hlt2] at hcut
    have hl4 : (es.take k ++ es.drop k1).length ≤ 1000000 := by rw [List.length_append, List.length_take, List.length_drop]; omega
    have hl2 : (I.ext L 0 k).length ≤ 1000000 := by rw [hE2.len, List.length_take]; omega
    have hm4 : I.len (I.app (I.ext L 0 k) (I.ext L k1 (I.add k1 (I.sub (I.len L) k1)))) * 32 ≤ 140737488355328 := by
      have := hE4.len
      have e2 : I.len (I.app (I.ext L 0 k) (I.ext L k1 (I.add k1 (I.sub (I.len L) k1)))) = (es.take k ++ es.drop k1).length := by rw [← this, hI]; rfl
      rw [e2]
      omega
    have hm5 : I.len (I.app (I.ext L 0 k) (I.ext L k1 (I.add k1 (I.sub (I.len L) k1)))) ≤ 140737488355328 := by omega
    have hkl4 : k ≤ I.len L := by rw [hLl]; omega
    generalize es.take k ++ es.drop k1 = es4 at hE4 hcut hl4
    clear hE3 hlt hk1e
    cbv
    refine .drawn [] ?_
    cbv
    refine .rng 0 k rfl hk (Nat.zero_le _) hkl4 ?_
    cbv
    refine .rng k1 (I.len L) hk1 rfl hkl3 (Nat.le_refl _) ?_
    cbv
    refine .go [] [] [.bor 4] (copyE hp (I.ext L 0 k) hl2) rfl rfl rfl rfl rfl rfl ?_
    rintro r m1 ⟨rfl, rfl⟩
    cbv
    refine .most hm4 hm5 ?_
    cbv
    refine .go [] [] [.keep, .bor 4] (right_ hp (.lit 4) _ es4 hE4 hl4) rfl rfl rfl rfl rfl rfl ?_
    rintro r m1 ⟨t5, ht5, rfl, rfl⟩
    have ht5 : t5 = !lt := ht5.trans hcut
    have hq5 : I.beq t5 (I.not lt) = true := by rw [ht5, hI]; simp [ints]
    cbv
    refine br_t hq5 ?_
    cbv
    refine .go [] [] [] (wakes hp) rfl rfl rfl rfl rfl rfl ?_
    rintro v m1 ⟨rfl, rfl⟩
    cbv
    exact hP _ _ [] [] _ _ .nil rfl rfl rfl rfl rfl ⟨_, rfl, rfl⟩
end
end Go.Proofs.Ytbfolphodlkmkaa.E
