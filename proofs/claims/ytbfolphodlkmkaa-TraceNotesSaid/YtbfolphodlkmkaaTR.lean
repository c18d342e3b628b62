/- Contract: may events be, by the document. -/
import Derived.Test.YtbfolphodlkmkaaTC
namespace Go.Proofs.Ytbfolphodlkmkaa.E
open Go
set_option linter.unusedVariables false
set_option maxRecDepth 100000

/-- Of each node, how many operations were done; whether one is begun. -/
def isAt (A : List (List G)) (N : Nat) (pre : List EV) : Prop := A.length = N ∧ ∀ j : Nat, j < N → A[j]? = some [.int .i64 (.sym ((cnt pre (j : Int) / 2 : Nat) : Int))]
def isBg (B : List (List G)) (N : Nat) (pre : List EV) : Prop := B.length = N ∧ ∀ j : Nat, j < N → B[j]? = some [.bool (.sym (cnt pre (j : Int) % 2 == 1))]
theorem isAt_nil (N : Nat) : isAt (List.replicate N [.int .i64 (.sym 0)]) N [] := ⟨by simp, fun j hj => by rw [List.getElem?_replicate, if_pos hj, cnt_nil]; rfl⟩
theorem isBg_nil (N : Nat) : isBg (List.replicate N [.bool (.sym false)]) N [] := ⟨by simp, fun j hj => by rw [List.getElem?_replicate, if_pos hj]; rfl⟩
theorem isBg_step {B : List (List G)} {N : Nat} {pre : List EV} (h : isBg B N pre) (x : EV) (j : Nat) (hj : x.n = (j : Int)) (hjN : j < N) (hd : x.d = (cnt pre x.n % 2 == 1)) : isBg (B.set j [.bool (.sym (!x.d))]) N (pre ++ [x]) := by
  refine ⟨by simpa using h.1, fun k hk => ?_⟩
  rw [List.getElem?_set, cnt_app]
  by_cases e : j = k
  · subst e
    rw [if_pos rfl, if_pos (by rw [h.1]; exact hk), if_pos hj, hd, hj]
    congr 5
    generalize cnt pre (j : Int) = c
    rcases Nat.mod_two_eq_zero_or_one c with h1 | h1
    · have h2 : (c + 1) % 2 = 1 := by omega
      rw [h1, h2]; rfl
    · have h2 : (c + 1) % 2 = 0 := by omega
      rw [h1, h2]; rfl
  · rw [if_neg e, if_neg (by omega)]
    exact h.2 k hk
theorem isAt_step {A : List (List G)} {N : Nat} {pre : List EV} (h : isAt A N pre) (x : EV) (j : Nat) (hj : x.n = (j : Int)) (hjN : j < N) (hd : true = (cnt pre x.n % 2 == 1)) : isAt (A.set j [.int .i64 (.sym (((cnt pre x.n / 2 : Nat) : Int) + 1))]) N (pre ++ [x]) := by
  refine ⟨by simpa using h.1, fun k hk => ?_⟩
  rw [List.getElem?_set, cnt_app]
  by_cases e : j = k
  · subst e
    rw [if_pos rfl, if_pos (by rw [h.1]; exact hk), if_pos hj, hj]
    rw [hj] at hd
    congr 5
    have hd := (eq_of_beq hd.symm)
    omega
  · rw [if_neg e, if_neg (by omega)]
    exact h.2 k hk
theorem isAt_same {A : List (List G)} {N : Nat} {pre : List EV} (h : isAt A N pre) (x : EV) (hd : false = (cnt pre x.n % 2 == 1)) : isAt A N (pre ++ [x]) := by
  refine ⟨h.1, fun k hk => ?_⟩
  rw [h.2 k hk, cnt_app]
  by_cases e : x.n = (k : Int)
  · rw [if_pos e]
    rw [e] at hd
    have hd : cnt pre (k : Int) % 2 ≠ 1 := fun e2 => by rw [e2] at hd; cases hd
    congr 5
    omega
  · rw [if_neg e]
section
variable {P : Program} (hp : P = Try.prog)
include hp
set_option maxHeartbeats 8000000 in
theorem rright (N : Nat) (hN : N ≤ 1000) (zN : Z) (hzN : isN zN.val N) (L : List (List G)) (es : List EV) (hL : isE L es) (hn : es.length ≤ 1000000) : LValid P 17 [.c (.g (.int .i64 zN)), .c (.bor 4 L)] [] (fun v m1 => ∃ t, t = rightL zN.val [] es ∧ v = boo t ∧ m1 = []) := by
  refine bx (LValid.boo (LValid.sy ?_))
  show LValid P 17 [.c (.g (.int .i64 (.sym zN.val))), .c (.bor 4 L)] [] _
  generalize zN.val = zn at hzN ⊢
  obtain ⟨I, hI⟩ := ref
  have hle : I.len L = es.length := by rw [hI]; exact hL.len
  have hcl : isN (I.ofNat (I.len L)) es.length := by rw [hle, hI]; rfl
  have hmx : I.mx zn 0 = (N : Int) := by
    unfold isN at hzN
    rw [hI, hzN]
    show (if (0 : Int) > (N : Int) then (0 : Int) else (N : Int)) = _
    rw [if_neg (by omega)]
  have hA0 : isAt (I.rep N [.int .i64 (.sym 0)]) N [] := by rw [hI]; exact isAt_nil N
  have hB0 : isBg (I.rep N [.bool (.sym false)]) N [] := by rw [hI]; exact isBg_nil N
  refine fn_sim hI (mo hp) (cc hp c17) fun Post hP => ?_
  cbv
  refine .size N hmx (by omega) ?_
  cbv
  refine .size N hmx (by omega) ?_
  cbv
  refine .loop_next (fun n ts m => ∃ (i : Nat) (z c : Int) (A B : List (List G)), n = es.length - i ∧ isN z i ∧ isN c es.length ∧ i ≤ es.length ∧ isAt A N (es.take i) ∧ isBg B N (es.take i) ∧ rightL zn [] es = rightL zn (es.take i) (es.drop i) ∧
      ts = fr 77 [(0, i64 zn), (5, .one (.c (.row 0 1 (some (.sym N))))), (6, .one (.c (.row 1 1 (some (.sym N))))), (15, .one (.c (.bor 4 L))), (16, i64 c), (17, i64 z)] ∧ m = [.sym 1 A, .sym 1 B])
    es.length _ _ [0, 1] [] [0, 5, 6, 15, 16, 17] (by decide) rfl rfl rfl ⟨0, 0, _, _, _, rfl, rfl, hcl, Nat.zero_le _, hA0, hB0, rfl, rfl, rfl⟩ ?_
  clear hA0 hB0 hcl hmx
  rintro next n hnext ts m ⟨i, z, c, A, B, hn2, hz, hc, hi, hA, hB, hR, rfl, rfl⟩
  cbv
  refine .br (fun g0 => ?_) (fun g0 => ?_)
  rotate_left
  · have hi1 : i = es.length := by
      have g0 : I.cmp .lss z c = false := g0
      rw [hI] at g0
      have := of_decide_eq_false (show decide (z < c) = false from g0)
      unfold isN at hz hc
      omega
    have hend : rightL zn [] es = true := by rw [hR, hi1, List.drop_length]; rfl
    cbv
    exact hP _ _ [] [] _ _ .nil rfl rfl rfl rfl rfl ⟨.lit true, rfl, hend.symm, rfl⟩
  have hi1 : i < es.length := by
    have g0 : I.cmp .lss z c = true := g0
    rw [hI] at g0
    have := of_decide_eq_true (show decide (z < c) = true from g0)
    unfold isN at hz hc
    omega
  have hz1 : isN (I.bin .add .i64 z 1) (i + 1) := by unfold isN at hz ⊢; rw [hI]; simp only [ints, rBin]; rw [wrap_in] <;> omega
  have h9 : ∃ x, es[i]? = some x := ⟨_, List.getElem?_eq_getElem hi1⟩
  obtain ⟨x, hx⟩ := h9
  have hr := hL.get hx
  rw [rightL_step zn es i x hx] at hR
  have htk : es.take (i + 1) = es.take i ++ [x] := by rw [List.take_add_one, hx]; rfl
  have hcl : cnt (es.take i) x.n ≤ 1000000 := by have := cnt_le (es.take i) x.n; rw [List.length_take] at this; omega
  have hil : i < I.len L := by rw [hle]; exact hi1
  have hbad : okAt zn (es.take i) x = false → false = rightL zn [] es := fun h => by rw [hR, h]; rfl
  have hgood : okAt zn (es.take i) x = true → rightL zn [] es = rightL zn (es.take (i + 1)) (es.drop (i + 1)) := fun h => by rw [hR, h]; rfl
  rw [htk] at hgood
  have hB2 := fun j h1 h2 h3 => isBg_step hB x j h1 h2 h3
  have hA2 := fun j h1 h2 h3 => isAt_step hA x j h1 h2 h3
  have hA3 := fun h3 => isAt_same hA x h3
  have hok : okAt zn (es.take i) x = (decide (0 ≤ x.n) && decide (x.n < zn) && (x.i == ((cnt (es.take i) x.n / 2 : Nat) : Int)) && (x.d == (cnt (es.take i) x.n % 2 == 1)) && (x.d || x.v == 0)) := rfl
  generalize okAt zn (es.take i) x = ok at hok hbad hgood
  generalize hcx : cnt (es.take i) x.n = cx at hok hB2 hA2 hA3 hcl
  have hAl := hA.1
  have hBl := hB.1
  have hAg : ∀ j : Nat, x.n = (j : Int) → j < N → A[j]? = some [.int .i64 (.sym ((cx / 2 : Nat) : Int))] := fun j h1 h2 => by rw [hA.2 j h2, ← h1, hcx]
  have hBg : ∀ j : Nat, x.n = (j : Int) → j < N → B[j]? = some [.bool (.sym (cx % 2 == 1))] := fun j h1 h2 => by rw [hB.2 j h2, ← h1, hcx]
  have hidx : ¬ x.n < 0 → ¬ zn ≤ x.n → ∃ j : Nat, isN x.n j ∧ j < N := fun h1 h2 => ⟨x.n.toNat, by unfold isN; omega, by unfold isN at hzN; omega⟩
  rw [← htk] at hB2 hA2 hA3 hgood
  have hadd : I.bin .add .i64 ((cx / 2 : Nat) : Int) 1 = ((cx / 2 : Nat) : Int) + 1 := by rw [hI]; simp only [ints, rBin]; rw [wrap_in] <;> omega
  generalize hb2 : (cx % 2 == 1) = od at hok hB2 hA2 hA3 hBg
  generalize hc2 : ((cx / 2 : Nat) : Int) = cd at hok hA2 hAg hadd
  clear hA hB hx hR htk hcx hcl hb2 hc2 g0
  obtain ⟨xn, xi, xd, xv⟩ := x
  have hok : ok = (decide (0 ≤ xn) && decide (xn < zn) && (xi == cd) && (xd == od) && (xd || xv == 0)) := hok
  have hidx : ¬ xn < 0 → ¬ zn ≤ xn → ∃ j : Nat, isN xn j ∧ j < N := hidx
  cbv
  refine .idx i hz hil (.nth _ hr ?_)
  cbv
  refine .drawn [] ?_
  cbv
  refine .br (fun g1 => ?_) (fun g1 => ?_)
  · have h1 : xn < 0 := by
      have g1 : I.cmp .lss xn 0 = true := g1
      rw [hI] at g1
      exact of_decide_eq_true (show decide (xn < 0) = true from g1)
    have he := hbad (by rw [hok, decide_eq_false (by omega)]; rfl)
    cbv
    exact hP _ _ [] [] _ _ .nil rfl rfl rfl rfl rfl ⟨.lit false, rfl, he, rfl⟩
  have h1 : ¬ xn < 0 := by
    have g1 : I.cmp .lss xn 0 = false := g1
    rw [hI] at g1
    exact of_decide_eq_false (show decide (xn < 0) = false from g1)
  clear g1
  cbv
  refine .br (fun g2 => ?_) (fun g2 => ?_)
  · have h2 : zn ≤ xn := by
      have g2 : I.cmp .geq xn zn = true := g2
      rw [hI] at g2
      exact of_decide_eq_true (show decide (xn ≥ zn) = true from g2)
    have he := hbad (by rw [hok, decide_eq_false (show ¬ xn < zn by omega)]; simp)
    cbv
    exact hP _ _ [] [] _ _ .nil rfl rfl rfl rfl rfl ⟨.lit false, rfl, he, rfl⟩
  have h2 : ¬ zn ≤ xn := by
    have g2 : I.cmp .geq xn zn = false := g2
    rw [hI] at g2
    have := of_decide_eq_false (show decide (xn ≥ zn) = false from g2)
    omega
  clear g2
  have h9 := hidx h1 h2
  obtain ⟨j, hj, hjN⟩ := h9
  have hra := hAg j hj hjN
  have hrb := hBg j hj hjN
  have hja : j < I.len A := by rw [hI]; show j < A.length; omega
  have hjb : j < I.len B := by rw [hI]; show j < B.length; omega
  have hB2 := hB2 j hj hjN
  have hA5 := hA2 j hj hjN
  have hok2 : ok = ((xi == cd) && (xd == od) && (xd || xv == 0)) := by
    rw [hok, decide_eq_true (show 0 ≤ xn by omega), decide_eq_true (show xn < zn by omega)]
    rfl
  clear hok hidx hAg hBg h1 h2
  cbv
  refine .idx j hj hja (.nth _ hra ?_)
  cbv
  refine .br (fun g3 => ?_) (fun g3 => ?_)
  · have g3 : I.cmp .neq xi cd = true := g3
    rw [hI] at g3
    have g3 : (xi != cd) = true := g3
    have he := hbad (by rw [hok2, beq_eq_false_iff_ne.2 (by simpa using g3)]; rfl)
    cbv
    exact hP _ _ [] [] _ _ .nil rfl rfl rfl rfl rfl ⟨.lit false, rfl, he, rfl⟩
  have h3 : xi = cd := by
    have g3 : I.cmp .neq xi cd = false := g3
    rw [hI] at g3
    have g3 : (xi != cd) = false := g3
    simpa using g3
  clear g3
  cbv
  refine .idx j hj hjb (.nth _ hrb ?_)
  cbv
  refine .br (fun g4 => ?_) (fun g4 => ?_)
  · have g4 : I.not (I.beq xd od) = true := g4
    rw [hI] at g4
    have g4 : (!(xd == od)) = true := g4
    have he := hbad (by rw [hok2, show (xd == od) = false from by simpa using g4]; simp)
    cbv
    exact hP _ _ [] [] _ _ .nil rfl rfl rfl rfl rfl ⟨.lit false, rfl, he, rfl⟩
  have h4 : xd = od := by
    have g4 : I.not (I.beq xd od) = false := g4
    rw [hI] at g4
    have g4 : (!(xd == od)) = false := g4
    simpa using g4
  clear g4
  have hnot : I.not xd = !xd := by rw [hI]; rfl
  have hsb : I.set B j [.bool (.sym (I.not xd))] = B.set j [.bool (.sym (!xd))] := by rw [hnot, hI]; rfl
  have hB2 := hB2 h4
  have hB2 : isBg (I.set B j [.bool (.sym (I.not xd))]) N (es.take (i + 1)) := by rw [hsb]; exact hB2
  have hok3 : ok = (xd || xv == 0) := by rw [hok2, h3, h4]; simp
  clear hok2 h3 hsb
  cbv
  refine .br (fun g5 => ?_) (fun g5 => ?_)
  · have h5 : xd = false := by
      have g5 : I.not xd = true := g5
      rw [hnot] at g5
      simpa using g5
    subst h5
    cbv
    refine .br (fun g6 => ?_) (fun g6 => ?_)
    · have g6 : I.cmp .neq xv 0 = true := g6
      rw [hI] at g6
      have g6 : (xv != 0) = true := g6
      have he := hbad (by rw [hok3]; simpa using g6)
      cbv
      exact hP _ _ [] [] _ _ .nil rfl rfl rfl rfl rfl ⟨.lit false, rfl, he, rfl⟩
    have he := hgood (by
      have g6 : I.cmp .neq xv 0 = false := g6
      rw [hI] at g6
      have g6 : (xv != 0) = false := g6
      rw [hok3]
      simpa using g6)
    have hA3 := hA3 h4
    clear g5 g6
    cbv
    refine .idx j hj hjb (.nth _ hrb ?_)
    cbv
    refine .br (fun g => (by cases g)) (fun _ => ?_)
    cbv
    exact hnext _ _ (es.length - (i + 1)) [0, 1] [] [0, 5, 6, 15, 16, 17] _ _ (by omega) (by decide) rfl rfl rfl ⟨i + 1, _, c, _, _, rfl, hz1, hc, hi1, hA3, hB2, he, rfl, rfl⟩
  · have h5 : xd = true := by
      have g5 : I.not xd = false := g5
      rw [hnot] at g5
      simpa using g5
    subst h5
    have he := hgood (by rw [hok3]; rfl)
    have hA4 := hA5 h4
    have hA4 : isAt (I.set A j [.int .i64 (.sym (I.bin .add .i64 cd 1))]) N (es.take (i + 1)) := by rw [hadd, hI]; exact hA4
    clear g5
    cbv
    refine .idx j hj hjb (.nth _ hrb ?_)
    cbv
    refine .br (fun _ => ?_) (fun g => (by cases g))
    cbv
    refine .idx j hj hja (.nth _ hra ?_)
    cbv
    refine .idx j hj hja (.nth _ hra ?_)
    cbv
    exact hnext _ _ (es.length - (i + 1)) [0, 1] [] [0, 5, 6, 15, 16, 17] _ _ (by omega) (by decide) rfl rfl rfl ⟨i + 1, _, c, _, _, rfl, hz1, hc, hi1, hA4, hB2, he, rfl, rfl⟩
end
end Go.Proofs.Ytbfolphodlkmkaa.E
