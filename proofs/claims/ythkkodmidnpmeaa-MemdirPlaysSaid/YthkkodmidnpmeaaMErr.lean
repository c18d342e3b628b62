/- MemdirErrors. -/
import Derived.Test.YthkkodmidnpmeaaMD
namespace Go.Proofs.Ythkkodmidnpmeaa.E
open Go
set_option linter.unusedVariables false
set_option maxRecDepth 100000

theorem ngood (q : CF) (st hd : Int) (h1 : 0 ≤ st ∧ st ≤ 2) (h2 : -1 ≤ hd) (h3 : hd < q.a) : ¬ (st < 0 ∨ 2 < st ∨ hd < -1 ∨ q.a ≤ hd) := by omega
section
variable {P : Program} {I : Ints} {p : Nat}
theorem br2 {b : Bool} {t e : Unit → Tree} {Q : Prop} (h1 : b = true → Q → Holds P I p (t ())) (h2 : b = false → Q → Holds P I p (e ())) (h : Q) : Holds P I p (.br b t e) := .br (fun g => h1 g h) (fun g => h2 g h)
end
section
variable {P : Program} (hp : P = Try.prog)
include hp
theorem mset2 (q : CF) (L M : List (List G)) (f : Int → Option RW) (hM : isD M f) (zl zs zh : Z) (X : List (List G)) (x : List Int) (hX : isL .i64 X x) (hx : x.length ≤ 1000) :
    LValid P 13 [.c (.ptr 0 (.lit 0) 9 0), .c (.g (.int .i64 zl)), .c (.g (.int .i64 zs)), .c (.g (.int .i64 zh)), .c (.bor 1 X)] [dirB q L, .mp (some 3) M]
    (fun v m1 => ∃ (e : Int) (f2 : Int → Option RW) (M' : List (List G)), e = setErr q f zl.val zs.val zh.val x ∧ f2 = setDir q f zl.val zs.val zh.val x ∧ isD M' f2 ∧ v = i64 e ∧ m1 = [dirB q L, .mp (some 3) M']) :=
  (mset_ hp q L M f hM zl zs zh X x hX hx).mono fun v m1 ⟨h1, M', h2, h3⟩ => ⟨_, _, M', rfl, rfl, h2, h1, h3⟩
set_option maxHeartbeats 4000000 in
theorem wakes9 : LValid P 11 [] [] (fun v m1 => v = boo true ∧ m1 = []) := by
  refine LValid.boo ?_
  obtain ⟨I, hI⟩ := ref
  have hq : CF.ok ⟨2, 2, 1, 1, 1, 1, 1, []⟩ := ⟨⟨by decide, by decide⟩, ⟨by decide, by decide⟩, ⟨by decide, by decide⟩, ⟨by decide, by decide⟩, ⟨by decide, by decide⟩⟩
  obtain ⟨f, hf⟩ : ∃ f, f = dir0 [] 2 1 0 2 := ⟨_, rfl⟩
  have hf1 : f 1 = none := by rw [hf]; rfl
  have hf0 : f 0 = some ⟨0, -1, [0]⟩ := by rw [hf]; rfl
  have hs : small f := fun z r h => by
    rw [hf] at h
    unfold dir0 at h
    split at h
    · cases h
      rw [wordsL_len]
      decide
    · cases h
  refine fn_sim hI (mo hp) (cc hp c11) fun Post hP => ?_
  cbv
  refine .go [] [] [.rows 1] (show LValid P 8 [.agg (cfg (.lit 2) (.lit 2) (.lit 1) (.lit 1) (.lit 1) (.lit 1) (.lit 1) (.g (.rows 1 []))), .c (.g (.int .i64 (.lit 0)))] [] _ from LValid.sy (mnew hp ⟨2, 2, 1, 1, 1, 1, 1, []⟩ hq [] rfl (.sym 0))) rfl rfl rfl rfl rfl rfl ?_
  rintro v m1 ⟨M, hM, rfl, rfl⟩
  have hM : isD M f := by rw [hf]; exact hM
  clear hf
  cbv
  refine .go [0, 1] [] [] (mrow hp ⟨2, 2, 1, 1, 1, 1, 1, []⟩ [] M f hM hs (.lit 1)) rfl rfl rfl rfl rfl rfl ?_
  rintro v m1 (⟨h1, rfl, rfl⟩ | ⟨r, D, h1, _⟩)
  · cbv
    refine .go [0, 1] [] [] (mrow hp ⟨2, 2, 1, 1, 1, 1, 1, []⟩ [] M f hM hs (.lit 0)) rfl rfl rfl rfl rfl rfl ?_
    rintro v m1 (⟨h2, _⟩ | ⟨r, D, h2, hD, rfl, rfl⟩)
    · rw [show f (Z.lit 0).val = f 0 from rfl, hf0] at h2
      cases h2
    · obtain rfl : r = ⟨0, -1, [0]⟩ := Option.some.inj (h2.symm.trans hf0)
      have hDl : I.len D = 1 := by rw [hI]; exact hD.len
      cbv
      refine br_t (show I.not false = true from by rw [hI]; rfl) ?_
      cbv
      refine br_t rfl ?_
      cbv
      refine br_t (show I.cmp .eql 0 0 = true from by rw [hI]; rfl) ?_
      cbv
      refine br_t (show I.cmp .eql (-1) (-1) = true from by rw [hI]; rfl) ?_
      cbv
      exact hP _ _ [] [] _ _ .nil rfl rfl rfl rfl rfl ⟨_, rfl, (show I.cmp .eql (I.ofNat (I.len D)) 1 = true from by rw [hDl, hI]; rfl), rfl⟩
  · rw [show f (Z.lit 1).val = f 1 from rfl, hf1] at h1
    cases h1
set_option maxHeartbeats 20000000 in
theorem errs (s1 s2 s3 s4 s5 s6 s7 n : Int) (l0 l1 l2 l3 l4 : List (List G)) (xs : List Int) (h0 : isL .i64 l0 xs) : LValid P 4 [.agg [.g (.int .i64 (.sym s1)), .g (.int .i64 (.sym s2)), .g (.int .i64 (.sym s3)), .g (.int .i64 (.sym s4)), .g (.int .i64 (.sym s5)), .g (.int .i64 (.sym s6)), .g (.int .i64 (.sym s7)), .g (.rows 1 l0), .g (.rows 1 l1), .g (.rows 1 l2), .g (.rows 1 l3), .g (.rows 1 l4)], gi .i64 n] [] (fun v _ => ∃ b : BB, b.val = true ∧ v = .one (.c (.g (.bool b)))) := by
  obtain ⟨I, hI⟩ := ref
  refine fn_sim hI (mo hp) (ccj hp c4) fun Post hP => ?_
  cbv
  refine .go [] [] [.bor 1] (configF hp s1 s2 s3 s4 s5 s6 s7 l0 l1 l2 l3 l4 xs h0) rfl rfl rfl rfl rfl rfl ?_
  rintro v m1 ⟨q, L, hq, hL, rfl, rfl⟩
  have hq0 := hq
  obtain ⟨qa, qb, qc, qd, qe, qf, qg, ini⟩ := q
  obtain ⟨ha, hb, hc, -, -, -⟩ := hq
  have ha : 1 ≤ qa ∧ qa ≤ 4 := ha
  have hb : 1 ≤ qb ∧ qb ≤ 4 := hb
  have hc : 1 ≤ qc ∧ qc ≤ 2 := hc
  have h9 : ∃ w1 : Nat, isN (I.bin .add .i64 qc 1) w1 ∧ isN qc (w1 - 1) ∧ 2 ≤ w1 ∧ w1 ≤ 3 := by
    refine ⟨(qc + 1).toNat, ?_, ?_, by omega, by omega⟩
    · unfold isN
      rw [hI]
      show IntKind.i64.wrap (qc + 1) = _
      rw [wrap_in] <;> omega
    · unfold isN
      omega
  obtain ⟨w1, hw1, hw1q, hw2, hw3⟩ := h9
  have h9 : ∃ f, f = dir0 ini qa qc 0 qb.toNat := ⟨_, rfl⟩
  obtain ⟨f, hf⟩ := h9
  have h9 : ∃ W, W = wordsL ini qc.toNat 0 := ⟨_, rfl⟩
  obtain ⟨W, hW⟩ := h9
  have hf0 : f 0 = some ⟨0, -1, W⟩ := by
    rw [hf, hW]
    unfold dir0
    rw [if_pos ⟨by omega, by omega, Int.zero_tmod _⟩]
    rfl
  have hfm : f (-1) = none := by rw [hf]; unfold dir0; rw [if_neg (by omega)]
  have hfb : f qb = none := by rw [hf]; unfold dir0; rw [if_neg (by omega)]
  have hf1 : 1 < qa → f 1 = none := fun h => by
    rw [hf]
    unfold dir0
    rw [if_neg (fun h' => ?_)]
    have : (1 : Int).tmod qa = 1 := by rw [Int.tmod_eq_emod_of_nonneg (by omega)]; exact Int.emod_eq_of_lt (by omega) h
    rw [this] at h'
    exact absurd h'.2.2 (by omega)
  have hWl : W.length ≤ 2 := by rw [hW, wordsL_len]; omega
  have hs : small f := fun z r h => by
    rw [hf] at h
    unfold dir0 at h
    split at h
    · cases h
      rw [wordsL_len]
      omega
    · cases h
  cbv
  refine .go [] [] [] (mnew hp ⟨qa, qb, qc, qd, qe, qf, qg, ini⟩ hq0 L hL (.lit 0)) rfl rfl rfl rfl rfl rfl ?_
  rintro v m1 ⟨M, hM, rfl, rfl⟩
  have hM : isD M f := by rw [hf]; exact hM
  clear hf hW hq0
  cbv
  refine .go [] [] [] (within hp _ _) rfl rfl rfl rfl rfl rfl ?_
  rintro r m1 ⟨y, hy, rfl, rfl⟩
  have hy2 : 0 ≤ y ∧ y < qa := by
    rw [hy]
    exact win_in n qa (by omega) (by omega)
  obtain ⟨hy0, hya⟩ := hy2
  have hma : -1 < qa := by omega
  clear hy
  have hw8 : w1 * 8 ≤ 140737488355328 := by omega
  have hFEW : isL .i64 (I.rep w1 [.int .i64 (.sym 0)]) (List.replicate w1 0) := by rw [hI]; unfold isL nrow; simp [ints]
  have hw1s : (List.replicate w1 (0 : Int)).length ≤ 1000 := by rw [List.length_replicate]; omega
  have hw1n : List.replicate w1 (0 : Int) ≠ [] := fun e => by have := congrArg List.length e; rw [List.length_replicate] at this; simp at this; omega
  have hw1c : ((List.replicate w1 (0 : Int)).length : Int) ≠ (CF.c ⟨qa, qb, qc, qd, qe, qf, qg, ini⟩) := by
    rw [List.length_replicate]
    show (w1 : Int) ≠ qc
    unfold isN at hw1q
    omega
  cbv
  refine .size w1 hw1 hw8 ?_
  cbv
  refine .drawn [2, 3] ?_
  cbv
  refine .go [2, 3] [] [.keep, .keep, .keep, .keep, .bor 1] (mset2 hp ⟨qa, qb, qc, qd, qe, qf, qg, ini⟩ L M f hM (.lit 0) (.lit 3) (.sym y) [] [] rfl (by simp)) rfl rfl rfl rfl rfl rfl ?_
  rintro v m1 ⟨e1, f2, M1, he1, hf2, hM1, rfl, rfl⟩
  have he1 : e1 = 1 := he1.trans (err1a (q := ⟨qa, qb, qc, qd, qe, qf, qg, ini⟩) (z := 0) (st := 3) (hd := y) (x := []) hf0 (.inr (.inl (by omega)))).1
  replace hf2 : f2 = f := hf2.trans (err1a (q := ⟨qa, qb, qc, qd, qe, qf, qg, ini⟩) (z := 0) (st := 3) (hd := y) (x := []) hf0 (.inr (.inl (by omega)))).2
  rw [hf2] at hM1
  clear hf2 f2
  cbv
  refine .go [2, 3] [] [.keep, .keep, .keep, .keep, .bor 1] (mset2 hp ⟨qa, qb, qc, qd, qe, qf, qg, ini⟩ L M1 f hM1 (.lit 0) (.lit (-1)) (.lit (-1)) [] [] rfl (by simp)) rfl rfl rfl rfl rfl rfl ?_
  rintro v m1 ⟨e2, f2, M2, he2, hf2, hM2, rfl, rfl⟩
  have he2 : e2 = 1 := he2.trans (err1a (q := ⟨qa, qb, qc, qd, qe, qf, qg, ini⟩) (z := 0) (st := -1) (hd := -1) (x := []) hf0 (.inl (by omega))).1
  replace hf2 : f2 = f := hf2.trans (err1a (q := ⟨qa, qb, qc, qd, qe, qf, qg, ini⟩) (z := 0) (st := -1) (hd := -1) (x := []) hf0 (.inl (by omega))).2
  rw [hf2] at hM2
  clear hf2 f2
  cbv
  refine .go [2, 3] [] [.keep, .keep, .keep, .keep, .bor 1] (mset2 hp ⟨qa, qb, qc, qd, qe, qf, qg, ini⟩ L M2 f hM2 (.lit 0) (.lit 1) (.sym qa) [] [] rfl (by simp)) rfl rfl rfl rfl rfl rfl ?_
  rintro v m1 ⟨e3, f2, M3, he3, hf2, hM3, rfl, rfl⟩
  have he3 : e3 = 1 := he3.trans (err1a (q := ⟨qa, qb, qc, qd, qe, qf, qg, ini⟩) (z := 0) (st := 1) (hd := qa) (x := []) hf0 (.inr (.inr (.inr (Int.le_refl _))))).1
  replace hf2 : f2 = f := hf2.trans (err1a (q := ⟨qa, qb, qc, qd, qe, qf, qg, ini⟩) (z := 0) (st := 1) (hd := qa) (x := []) hf0 (.inr (.inr (.inr (Int.le_refl _))))).2
  rw [hf2] at hM3
  clear hf2 f2
  cbv
  refine .go [2, 3] [] [.keep, .keep, .keep, .keep, .bor 1] (mset2 hp ⟨qa, qb, qc, qd, qe, qf, qg, ini⟩ L M3 f hM3 (.lit 0) (.lit 2) (.lit (-2)) [] [] rfl (by simp)) rfl rfl rfl rfl rfl rfl ?_
  rintro v m1 ⟨e4, f2, M4, he4, hf2, hM4, rfl, rfl⟩
  have he4 : e4 = 1 := he4.trans (err1a (q := ⟨qa, qb, qc, qd, qe, qf, qg, ini⟩) (z := 0) (st := 2) (hd := -2) (x := []) hf0 (.inr (.inr (.inl (by omega))))).1
  replace hf2 : f2 = f := hf2.trans (err1a (q := ⟨qa, qb, qc, qd, qe, qf, qg, ini⟩) (z := 0) (st := 2) (hd := -2) (x := []) hf0 (.inr (.inr (.inl (by omega))))).2
  rw [hf2] at hM4
  clear hf2 f2
  cbv
  refine .go [2, 3] [] [.keep, .keep, .keep, .keep, .bor 1] (mset2 hp ⟨qa, qb, qc, qd, qe, qf, qg, ini⟩ L M4 f hM4 (.lit 0) (.lit 0) (.sym y) [] [] rfl (by simp)) rfl rfl rfl rfl rfl rfl ?_
  rintro v m1 ⟨e5, f2, M5, he5, hf2, hM5, rfl, rfl⟩
  have he5 : e5 = 1 := he5.trans (err1b (q := ⟨qa, qb, qc, qd, qe, qf, qg, ini⟩) (z := 0) (st := 0) (hd := y) (x := []) hf0 (ngood ⟨qa, qb, qc, qd, qe, qf, qg, ini⟩ 0 y ⟨by omega, by omega⟩ (by omega) hya) (.inl (fun h => by have := h.2 rfl; omega))).1
  replace hf2 : f2 = f := hf2.trans (err1b (q := ⟨qa, qb, qc, qd, qe, qf, qg, ini⟩) (z := 0) (st := 0) (hd := y) (x := []) hf0 (ngood ⟨qa, qb, qc, qd, qe, qf, qg, ini⟩ 0 y ⟨by omega, by omega⟩ (by omega) hya) (.inl (fun h => by have := h.2 rfl; omega))).2
  rw [hf2] at hM5
  clear hf2 f2
  cbv
  refine .go [2, 3] [] [.keep, .keep, .keep, .keep, .bor 1] (mset2 hp ⟨qa, qb, qc, qd, qe, qf, qg, ini⟩ L M5 f hM5 (.lit 0) (.lit 1) (.lit (-1)) [] [] rfl (by simp)) rfl rfl rfl rfl rfl rfl ?_
  rintro v m1 ⟨e6, f2, M6, he6, hf2, hM6, rfl, rfl⟩
  have he6 : e6 = 1 := he6.trans (err1b (q := ⟨qa, qb, qc, qd, qe, qf, qg, ini⟩) (z := 0) (st := 1) (hd := -1) (x := []) hf0 (ngood ⟨qa, qb, qc, qd, qe, qf, qg, ini⟩ 1 (-1) ⟨by omega, by omega⟩ (by omega) hma) (.inl (fun h => by have := h.1 rfl; omega))).1
  replace hf2 : f2 = f := hf2.trans (err1b (q := ⟨qa, qb, qc, qd, qe, qf, qg, ini⟩) (z := 0) (st := 1) (hd := -1) (x := []) hf0 (ngood ⟨qa, qb, qc, qd, qe, qf, qg, ini⟩ 1 (-1) ⟨by omega, by omega⟩ (by omega) hma) (.inl (fun h => by have := h.1 rfl; omega))).2
  rw [hf2] at hM6
  clear hf2 f2
  cbv
  refine .go [2, 3] [] [.keep, .keep, .keep, .keep, .bor 1] (mset2 hp ⟨qa, qb, qc, qd, qe, qf, qg, ini⟩ L M6 f hM6 (.lit 0) (.lit 2) (.lit (-1)) [] [] rfl (by simp)) rfl rfl rfl rfl rfl rfl ?_
  rintro v m1 ⟨e7, f2, M7, he7, hf2, hM7, rfl, rfl⟩
  have he7 : e7 = 1 := he7.trans (err1b (q := ⟨qa, qb, qc, qd, qe, qf, qg, ini⟩) (z := 0) (st := 2) (hd := -1) (x := []) hf0 (ngood ⟨qa, qb, qc, qd, qe, qf, qg, ini⟩ 2 (-1) ⟨by omega, by omega⟩ (by omega) hma) (.inl (fun h => by have := h.1 rfl; omega))).1
  replace hf2 : f2 = f := hf2.trans (err1b (q := ⟨qa, qb, qc, qd, qe, qf, qg, ini⟩) (z := 0) (st := 2) (hd := -1) (x := []) hf0 (ngood ⟨qa, qb, qc, qd, qe, qf, qg, ini⟩ 2 (-1) ⟨by omega, by omega⟩ (by omega) hma) (.inl (fun h => by have := h.1 rfl; omega))).2
  rw [hf2] at hM7
  clear hf2 f2
  cbv
  refine .go [2, 3] [] [.keep, .keep, .keep, .keep, .bor 1] (mset2 hp ⟨qa, qb, qc, qd, qe, qf, qg, ini⟩ L M7 f hM7 (.lit 0) (.lit 1) (.sym y) (I.rep w1 [.int .i64 (.sym 0)]) (List.replicate w1 0) hFEW hw1s) rfl rfl rfl rfl rfl rfl ?_
  rintro v m1 ⟨e8, f2, M8, he8, hf2, hM8, rfl, rfl⟩
  have he8 : e8 = 1 := he8.trans (err1b (q := ⟨qa, qb, qc, qd, qe, qf, qg, ini⟩) (z := 0) (st := 1) (hd := y) (x := List.replicate w1 0) hf0 (ngood ⟨qa, qb, qc, qd, qe, qf, qg, ini⟩ 1 y ⟨by omega, by omega⟩ (by omega) hya) (.inr ⟨hw1n, hw1c⟩)).1
  replace hf2 : f2 = f := hf2.trans (err1b (q := ⟨qa, qb, qc, qd, qe, qf, qg, ini⟩) (z := 0) (st := 1) (hd := y) (x := List.replicate w1 0) hf0 (ngood ⟨qa, qb, qc, qd, qe, qf, qg, ini⟩ 1 y ⟨by omega, by omega⟩ (by omega) hya) (.inr ⟨hw1n, hw1c⟩)).2
  rw [hf2] at hM8
  clear hf2 f2
  cbv
  clear hM hM1 hM2 hM3 hM4 hM5 hM6 hM7 hw1n hw1c hw1s
  refine .loop_next (fun n ts m => ∃ (k : Nat) (z c2 : Int), n = 8 - k ∧ isN z k ∧ k ≤ 8 ∧ isN c2 8 ∧ ts = fr 133 [(1, i64 y), (5, .one (.c (.ptr 0 (.lit 0) 8 0))), (6, .one (.c (.ptr 1 (.lit 0) 9 0))), (7, .one (.c (.row 3 1 (some (.sym w1))))), (49, .one (.c (.row 4 1 (some (.lit 8))))), (50, i64 c2), (51, i64 z)] ∧
      m = [.lit 8 [cfg (.sym qa) (.sym qb) (.sym qc) (.sym qd) (.sym qe) (.sym qf) (.sym qg) (.g (.rows 1 L))], .lit 9 [cfg (.sym qa) (.sym qb) (.sym qc) (.sym qd) (.sym qe) (.sym qf) (.sym qg) (.g (.rows 1 L)) ++ [.map 2]], .mp (some 3) M8, .sym 1 (I.rep w1 [.int .i64 (.sym 0)]), .lit 1 [[.g (.int .i64 (.sym e1))], [.g (.int .i64 (.sym e2))], [.g (.int .i64 (.sym e3))], [.g (.int .i64 (.sym e4))], [.g (.int .i64 (.sym e5))], [.g (.int .i64 (.sym e6))], [.g (.int .i64 (.sym e7))], [.g (.int .i64 (.sym e8))]]])
    8 _ _ [1, 2, 3, 4, 5] [] [1, 5, 6, 7, 49, 50, 51] (by decide) rfl rfl rfl ⟨0, 0, 8, rfl, rfl, by omega, rfl, rfl, rfl⟩ ?_
  rintro next n2 hnext ts m ⟨k, z, c2, hn, hz, hk, hc2, rfl, rfl⟩
  have hz1 : isN (I.bin .add .i64 z 1) (k + 1) := by unfold isN at hz ⊢; rw [hI]; simp only [ints, rBin]; rw [wrap_in] <;> omega
  cbv
  refine .br (fun g1 => ?_) (fun g1 => ?_)
  · have hk1 : k < 8 := by
      have : z < c2 := by simpa [hI, ints, rCmp] using g1
      unfold isN at hz hc2
      omega
    clear hk g1
    match k, hk1 with
    | 0, _ =>
      cbv
      refine .idx 0 hz (by decide) ?_
      cbv
      refine br_f (show I.cmp .neq e1 1 = false from by rw [he1, hI]; rfl) ?_
      cbv
      exact hnext _ _ (8 - (0 + 1)) [0, 1, 2, 3, 4] [] [1, 5, 6, 7, 49, 50, 51] _ _ (by omega) (by decide) rfl rfl rfl ⟨0 + 1, _, c2, rfl, hz1, by omega, hc2, rfl, rfl⟩
    | 1, _ =>
      cbv
      refine .idx 1 hz (by decide) ?_
      cbv
      refine br_f (show I.cmp .neq e2 1 = false from by rw [he2, hI]; rfl) ?_
      cbv
      exact hnext _ _ (8 - (1 + 1)) [0, 1, 2, 3, 4] [] [1, 5, 6, 7, 49, 50, 51] _ _ (by omega) (by decide) rfl rfl rfl ⟨1 + 1, _, c2, rfl, hz1, by omega, hc2, rfl, rfl⟩
    | 2, _ =>
      cbv
      refine .idx 2 hz (by decide) ?_
      cbv
      refine br_f (show I.cmp .neq e3 1 = false from by rw [he3, hI]; rfl) ?_
      cbv
      exact hnext _ _ (8 - (2 + 1)) [0, 1, 2, 3, 4] [] [1, 5, 6, 7, 49, 50, 51] _ _ (by omega) (by decide) rfl rfl rfl ⟨2 + 1, _, c2, rfl, hz1, by omega, hc2, rfl, rfl⟩
    | 3, _ =>
      cbv
      refine .idx 3 hz (by decide) ?_
      cbv
      refine br_f (show I.cmp .neq e4 1 = false from by rw [he4, hI]; rfl) ?_
      cbv
      exact hnext _ _ (8 - (3 + 1)) [0, 1, 2, 3, 4] [] [1, 5, 6, 7, 49, 50, 51] _ _ (by omega) (by decide) rfl rfl rfl ⟨3 + 1, _, c2, rfl, hz1, by omega, hc2, rfl, rfl⟩
    | 4, _ =>
      cbv
      refine .idx 4 hz (by decide) ?_
      cbv
      refine br_f (show I.cmp .neq e5 1 = false from by rw [he5, hI]; rfl) ?_
      cbv
      exact hnext _ _ (8 - (4 + 1)) [0, 1, 2, 3, 4] [] [1, 5, 6, 7, 49, 50, 51] _ _ (by omega) (by decide) rfl rfl rfl ⟨4 + 1, _, c2, rfl, hz1, by omega, hc2, rfl, rfl⟩
    | 5, _ =>
      cbv
      refine .idx 5 hz (by decide) ?_
      cbv
      refine br_f (show I.cmp .neq e6 1 = false from by rw [he6, hI]; rfl) ?_
      cbv
      exact hnext _ _ (8 - (5 + 1)) [0, 1, 2, 3, 4] [] [1, 5, 6, 7, 49, 50, 51] _ _ (by omega) (by decide) rfl rfl rfl ⟨5 + 1, _, c2, rfl, hz1, by omega, hc2, rfl, rfl⟩
    | 6, _ =>
      cbv
      refine .idx 6 hz (by decide) ?_
      cbv
      refine br_f (show I.cmp .neq e7 1 = false from by rw [he7, hI]; rfl) ?_
      cbv
      exact hnext _ _ (8 - (6 + 1)) [0, 1, 2, 3, 4] [] [1, 5, 6, 7, 49, 50, 51] _ _ (by omega) (by decide) rfl rfl rfl ⟨6 + 1, _, c2, rfl, hz1, by omega, hc2, rfl, rfl⟩
    | 7, _ =>
      cbv
      refine .idx 7 hz (by decide) ?_
      cbv
      refine br_f (show I.cmp .neq e8 1 = false from by rw [he8, hI]; rfl) ?_
      cbv
      exact hnext _ _ (8 - (7 + 1)) [0, 1, 2, 3, 4] [] [1, 5, 6, 7, 49, 50, 51] _ _ (by omega) (by decide) rfl rfl rfl ⟨7 + 1, _, c2, rfl, hz1, by omega, hc2, rfl, rfl⟩
  · clear hnext hz hk hn hz1 g1 he1 he2 he3 he4 he5 he6 he7 he8
    cbv
    refine .go [1, 2] [] [.keep, .keep, .keep, .keep, .bor 1] (mset2 hp ⟨qa, qb, qc, qd, qe, qf, qg, ini⟩ L M8 f hM8 (.lit (-1)) (.lit 1) (.sym y) [] [] rfl (by simp)) rfl rfl rfl rfl rfl rfl ?_
    rintro v m1 ⟨e9, f2, M9, he9, hf2, hM9, rfl, rfl⟩
    have he9 : e9 = 3 := he9.trans (err3 (q := ⟨qa, qb, qc, qd, qe, qf, qg, ini⟩) (z := -1) (st := 1) (hd := y) (x := []) hfm).1
    replace hf2 : f2 = f := hf2.trans (err3 (q := ⟨qa, qb, qc, qd, qe, qf, qg, ini⟩) (z := -1) (st := 1) (hd := y) (x := []) hfm).2
    rw [hf2] at hM9
    clear hf2 f2
    cbv
    refine br_f (show I.cmp .neq e9 3 = false from by rw [he9, hI]; rfl) ?_
    cbv
    refine .go [1, 2] [] [.keep, .keep, .keep, .keep, .bor 1] (mset2 hp ⟨qa, qb, qc, qd, qe, qf, qg, ini⟩ L M9 f hM9 (.sym qb) (.lit 1) (.sym y) [] [] rfl (by simp)) rfl rfl rfl rfl rfl rfl ?_
    rintro v m1 ⟨e10, f2, M10, he10, hf2, hM10, rfl, rfl⟩
    have he10 : e10 = 3 := he10.trans (err3 (q := ⟨qa, qb, qc, qd, qe, qf, qg, ini⟩) (z := qb) (st := 1) (hd := y) (x := []) hfb).1
    replace hf2 : f2 = f := hf2.trans (err3 (q := ⟨qa, qb, qc, qd, qe, qf, qg, ini⟩) (z := qb) (st := 1) (hd := y) (x := []) hfb).2
    rw [hf2] at hM10
    clear hf2 f2
    cbv
    refine br_f (show I.cmp .neq e10 3 = false from by rw [he10, hI]; rfl) ?_
    clear hM8 hM9
    cbv
    apply br2
    case h1 =>
      intro g1 hq9
      have h1a : 1 < qa := by simpa [hI, ints, rCmp] using g1
      clear g1
      cbv
      refine .go [1, 2] [] [.keep, .keep, .keep, .keep, .bor 1] (mset2 hp ⟨qa, qb, qc, qd, qe, qf, qg, ini⟩ L M10 f hM10 (.lit 1) (.lit 1) (.sym y) [] [] rfl (by simp)) rfl rfl rfl rfl rfl rfl ?_
      rintro v m1 ⟨e11, f2, M11, he11, hf2, hM11, rfl, rfl⟩
      have he11 : e11 = 3 := he11.trans (err3 (q := ⟨qa, qb, qc, qd, qe, qf, qg, ini⟩) (z := 1) (st := 1) (hd := y) (x := []) (hf1 h1a)).1
      replace hf2 : f2 = f := hf2.trans (err3 (q := ⟨qa, qb, qc, qd, qe, qf, qg, ini⟩) (z := 1) (st := 1) (hd := y) (x := []) (hf1 h1a)).2
      rw [hf2] at hM11
      clear hf2 f2
      cbv
      refine .join_next (fun ts m => ∃ M, isD M f ∧ ts = fr 133 [(1, i64 y), (5, .one (.c (.ptr 0 (.lit 0) 8 0))), (6, .one (.c (.ptr 1 (.lit 0) 9 0))), (7, .one (.c (.row 3 1 (some (.sym w1)))))] ∧ m = [.lit 8 [cfg (.sym qa) (.sym qb) (.sym qc) (.sym qd) (.sym qe) (.sym qf) (.sym qg) (.g (.rows 1 L))], .lit 9 [cfg (.sym qa) (.sym qb) (.sym qc) (.sym qd) (.sym qe) (.sym qf) (.sym qg) (.g (.rows 1 L)) ++ [.map 2]], .mp (some 3) M, .sym 1 (I.rep w1 [.int .i64 (.sym 0)])]) ?_ hq9
      intro next hnx
      cbv
      refine br_f (show I.cmp .neq e11 3 = false from by rw [he11, hI]; rfl) ?_
      cbv
      exact hnx _ _ [0, 1, 2, 3] [] [1, 5, 6, 7] _ _ (by decide) rfl rfl rfl ⟨M11, hM11, rfl, rfl⟩
    case h2 =>
      intro g1 hq9
      clear g1
      cbv
      refine .join_next (fun ts m => ∃ M, isD M f ∧ ts = fr 133 [(1, i64 y), (5, .one (.c (.ptr 0 (.lit 0) 8 0))), (6, .one (.c (.ptr 1 (.lit 0) 9 0))), (7, .one (.c (.row 3 1 (some (.sym w1)))))] ∧ m = [.lit 8 [cfg (.sym qa) (.sym qb) (.sym qc) (.sym qd) (.sym qe) (.sym qf) (.sym qg) (.g (.rows 1 L))], .lit 9 [cfg (.sym qa) (.sym qb) (.sym qc) (.sym qd) (.sym qe) (.sym qf) (.sym qg) (.g (.rows 1 L)) ++ [.map 2]], .mp (some 3) M, .sym 1 (I.rep w1 [.int .i64 (.sym 0)])]) ?_ hq9
      intro next hnx
      cbv
      exact hnx _ _ [0, 1, 2, 3] [] [1, 5, 6, 7] _ _ (by decide) rfl rfl rfl ⟨M10, hM10, rfl, rfl⟩
    case h =>
      clear hM10 he9 he10
      rintro ts m ⟨M, hM, rfl, rfl⟩
      cbv
      refine .go [1, 2] [] [] (mrow hp ⟨qa, qb, qc, qd, qe, qf, qg, ini⟩ L M f hM hs (.lit 0)) rfl rfl rfl rfl rfl rfl ?_
      rintro v m1 (⟨h2, _⟩ | ⟨r, D, h2, hD, rfl, rfl⟩)
      · rw [show f (Z.lit 0).val = f 0 from rfl, hf0] at h2
        cases h2
      obtain rfl : r = ⟨0, -1, W⟩ := Option.some.inj (h2.symm.trans hf0)
      have hD : isL .i64 D W := hD
      clear h2
      cbv
      refine br_f (show I.not true = false from by rw [hI]; rfl) ?_
      cbv
      refine br_f (show I.cmp .neq 0 0 = false from by rw [hI]; rfl) ?_
      cbv
      refine br_f (show I.cmp .neq (-1) (-1) = false from by rw [hI]; rfl) ?_
      cbv
      have hg2 := ngood ⟨qa, qb, qc, qd, qe, qf, qg, ini⟩ 2 y ⟨by omega, by omega⟩ (by omega) hya
      have hg3 : ¬ (¬ (y = -1 ↔ (2 : Int) = 0) ∨ ([] : List Int) ≠ [] ∧ ((([] : List Int).length : Nat) : Int) ≠ CF.c ⟨qa, qb, qc, qd, qe, qf, qg, ini⟩) := fun h => h.elim (fun h => h ⟨fun h => by omega, fun h => by omega⟩) (fun h => h.1 rfl)
      have k0 := err0 (q := ⟨qa, qb, qc, qd, qe, qf, qg, ini⟩) (z := 0) (st := 2) (hd := y) (x := []) hf0 hg2 hg3
      refine .go [1, 2] [] [.keep, .keep, .keep, .keep, .bor 1] (mset2 hp ⟨qa, qb, qc, qd, qe, qf, qg, ini⟩ L M f hM (.lit 0) (.lit 2) (.sym y) [] [] rfl (by simp)) rfl rfl rfl rfl rfl rfl ?_
      rintro v m1 ⟨e12, f12, M12, he12, hf12, hM12, rfl, rfl⟩
      have he12 : e12 = 0 := he12.trans k0.1
      have hf12 : f12 = fun z => if z = 0 then some ⟨2, y, W⟩ else f z := hf12.trans k0.2
      have hf120 : f12 0 = some ⟨2, y, W⟩ := by rw [hf12]; rfl
      have hs12 : small f12 := fun z r h => by
        rw [hf12] at h
        have h : (if z = 0 then some ⟨2, y, W⟩ else f z) = some r := h
        split at h
        · cases h
          show W.length ≤ 1000
          omega
        · exact hs z r h
      clear hg2 hg3 k0 hf12 hM hs
      cbv
      refine br_f (show I.cmp .neq e12 0 = false from by rw [he12, hI]; rfl) ?_
      cbv
      refine .go [1, 2] [] [] (mrow hp ⟨qa, qb, qc, qd, qe, qf, qg, ini⟩ L M12 f12 hM12 hs12 (.lit 0)) rfl rfl rfl rfl rfl rfl ?_
      rintro v m1 (⟨h2, _⟩ | ⟨r, D2, h2, hD2, rfl, rfl⟩)
      · rw [show f12 (Z.lit 0).val = f12 0 from rfl, hf120] at h2
        cases h2
      obtain rfl : r = ⟨2, y, W⟩ := Option.some.inj (h2.symm.trans hf120)
      have hD2 : isL .i64 D2 W := hD2
      clear h2
      cbv
      refine br_f (show I.cmp .neq 2 2 = false from by rw [hI]; rfl) ?_
      cbv
      refine br_f (show I.cmp .neq y y = false from by rw [hI]; show (y != y) = false; simp) ?_
      cbv
      refine .go [] [] [.bor 1, .bor 1] (same hp D2 D W W hD2 hD (by rw [hD2.len]; omega)) rfl rfl rfl rfl rfl rfl ?_
      rintro v m1 ⟨t, ht, rfl, rfl⟩
      have ht : t = true := by rw [ht]; simp
      have hFl : I.len (I.rep w1 [.int .i64 (.sym 0)]) = w1 := by
        have := hFEW.len.trans (List.length_replicate ..)
        rw [hI] at this ⊢
        exact this
      have hFX : isL .i64 (I.ext (I.rep w1 [.int .i64 (.sym 0)]) 1 (I.add 1 (I.sub (I.len (I.rep w1 [.int .i64 (.sym 0)])) 1))) (List.replicate (w1 - 1) 0) := by
        rw [hFl, show I.add 1 (I.sub w1 1) = w1 from by rw [hI]; show 1 + (w1 - 1) = w1; omega, hI]
        unfold isL at hFEW ⊢
        rw [hI] at hFEW
        rw [hFEW]
        show ((nrow .i64 (List.replicate w1 0)).take w1).drop 1 = _
        unfold nrow
        rw [List.map_replicate, List.map_replicate, List.take_of_length_le (by simp), List.drop_replicate]
      have hg2 := ngood ⟨qa, qb, qc, qd, qe, qf, qg, ini⟩ 0 (-1) ⟨by omega, by omega⟩ (by omega) hma
      have hg3 : ¬ (¬ ((-1 : Int) = -1 ↔ (0 : Int) = 0) ∨ List.replicate (w1 - 1) (0 : Int) ≠ [] ∧ (((List.replicate (w1 - 1) (0 : Int)).length : Nat) : Int) ≠ CF.c ⟨qa, qb, qc, qd, qe, qf, qg, ini⟩) := fun h => h.elim (fun h => h ⟨fun _ => rfl, fun _ => rfl⟩) (fun h => h.2 (by rw [List.length_replicate]; unfold isN at hw1q; exact hw1q.symm))
      have k0 := err0 (q := ⟨qa, qb, qc, qd, qe, qf, qg, ini⟩) (z := 0) (st := 0) (hd := -1) (x := List.replicate (w1 - 1) 0) hf120 hg2 hg3
      have hxs : (List.replicate (w1 - 1) (0 : Int)).length ≤ 1000 := by rw [List.length_replicate]; omega
      have h1w : 1 ≤ w1 := by omega
      clear hg2 hg3
      cbv
      refine br_f (show I.not t = false from by rw [ht, hI]; rfl) ?_
      cbv
      refine .rng 1 (I.len (I.rep w1 [.int .i64 (.sym 0)])) rfl rfl (show 1 ≤ I.len (I.rep w1 [.int .i64 (.sym 0)]) from by rw [hFl]; exact h1w) (Nat.le_refl _) ?_
      cbv
      refine .go [1, 2] [] [.keep, .keep, .keep, .keep, .bor 1] (mset2 hp ⟨qa, qb, qc, qd, qe, qf, qg, ini⟩ L M12 f12 hM12 (.lit 0) (.lit 0) (.lit (-1)) (I.ext (I.rep w1 [.int .i64 (.sym 0)]) 1 (I.add 1 (I.sub (I.len (I.rep w1 [.int .i64 (.sym 0)])) 1))) _ hFX hxs) rfl rfl rfl rfl rfl rfl ?_
      rintro v m1 ⟨e13, f13, M13, he13, hf13, hM13, rfl, rfl⟩
      have he13 : e13 = 0 := he13.trans k0.1
      clear k0
      cbv
      refine br_t (show I.cmp .eql e13 0 = true from by rw [he13, hI]; rfl) ?_
      cbv
      refine .go [] [] [] (wakes9 hp) rfl rfl rfl rfl rfl rfl ?_
      rintro v m1 ⟨rfl, rfl⟩
      cbv
      exact hP _ _ [] [] _ _ .nil rfl rfl rfl rfl rfl ⟨_, rfl, rfl⟩
end
end Go.Proofs.Ythkkodmidnpmeaa.E
