/- MemdirRows: each row is set by itself; without data its words stay; what is told may be written into. -/
import Derived.Test.YthkkodmidnpmeaaMW
namespace Go.Proofs.Ythkkodmidnpmeaa.E
open Go
set_option linter.unusedVariables false
set_option maxRecDepth 100000

section
variable {P : Program} (hp : P = Try.prog)
include hp
set_option maxHeartbeats 16000000 in
theorem mrows (s1 s2 s3 s4 s5 s6 s7 : Int) (l0 l1 l2 l3 l4 : List (List G)) (xs : List Int) (h0 : isL .i64 l0 xs) (VL : List (List G)) (vs : List Int) (hV : isL .i64 VL vs) : LValid P 6 [.agg [.g (.int .i64 (.sym s1)), .g (.int .i64 (.sym s2)), .g (.int .i64 (.sym s3)), .g (.int .i64 (.sym s4)), .g (.int .i64 (.sym s5)), .g (.int .i64 (.sym s6)), .g (.int .i64 (.sym s7)), .g (.rows 1 l0), .g (.rows 1 l1), .g (.rows 1 l2), .g (.rows 1 l3), .g (.rows 1 l4)], .c (.g (.rows 1 VL))] [] (fun v _ => ∃ b : BB, b.val = true ∧ v = .one (.c (.g (.bool b)))) := by
  obtain ⟨I, hI⟩ := ref
  refine fn_sim hI (mo hp) (ccj hp c6) fun Post hP => ?_
  cbv
  refine .go [] [] [.bor 1] (configF hp s1 s2 s3 s4 s5 s6 s7 l0 l1 l2 l3 l4 xs h0) rfl rfl rfl rfl rfl rfl ?_
  rintro v m1 ⟨q, L, hq, hL, rfl, rfl⟩
  have hnw := mnew hp q hq L hL (.lit 0)
  have hms := fun M f hM z st X x hX hx => mset_ hp q L M f hM (.sym z) (.lit st) (.lit 0) X x hX hx
  have her := fun f z st x r h h1 h2 => err0 (q := q) (f := f) (z := z) (st := st) (hd := 0) (x := x) (r := r) h h1 h2
  have hmr := fun M f hM hs z => mrow hp q L M f hM hs (.sym z)
  have hml := fun M f hM => mlines hp q hq L M f hM
  have hsup : ∀ y, (dir0 q.ini q.a q.c 0 q.b.toNat y).isSome = true ↔ (0 ≤ y ∧ y < q.b ∧ y.tmod q.a = 0) := fun y => by
    have := hq.hb
    unfold dir0
    split
    · rename_i h
      exact ⟨fun _ => by omega, fun _ => rfl⟩
    · rename_i h
      refine ⟨fun h => (by cases h), fun h' => absurd ⟨h'.1, by omega, h'.2.2⟩ h⟩
  have hdl0 : ∀ y r, dir0 q.ini q.a q.c 0 q.b.toNat y = some r → r.d.length = q.c.toNat := fun y r h => by
    unfold dir0 at h
    split at h
    · cases h
      exact wordsL_len _ _ _
    · cases h
  have ha := hq.ha
  have hb := hq.hb
  have hc := hq.hc
  have hnw : LValid P 8 [q.told L, .c (.g (.int .i64 (.lit 0)))] [] (fun v m1 => ∃ M, isD M (dir0 q.ini q.a q.c 0 q.b.toNat) ∧ v = .one (.c (.ptr 0 (.lit 0) 9 0)) ∧ m1 = [dirB q L, .mp (some 3) M]) := hnw
  generalize dir0 q.ini q.a q.c 0 q.b.toNat = f0 at hnw hsup hdl0
  have h9 : ∃ bn cn : Nat, isN q.b bn ∧ isN q.c cn ∧ bn = q.b.toNat ∧ cn = q.c.toNat ∧ 1 ≤ cn ∧ cn ≤ 2 ∧ bn ≤ 4 := by
    refine ⟨q.b.toNat, q.c.toNat, ?_, ?_, rfl, rfl, ?_, ?_, ?_⟩ <;> (try unfold isN) <;> omega
  obtain ⟨bn, cn, hbn, hcn, hbt, hct, hc1, hc2, hb4⟩ := h9
  rw [← hbt] at hml
  rw [← hct] at hdl0
  clear hbt hct
  obtain ⟨qa, qb, qc, qd, qe, qf, qg, ini⟩ := q
  have hbn : isN qb bn := hbn
  have hcn : isN qc cn := hcn
  have ha : 1 ≤ qa ∧ qa ≤ 4 := ha
  have hb : 1 ≤ qb ∧ qb ≤ 4 := hb
  have hsup : ∀ y, (f0 y).isSome = true ↔ (0 ≤ y ∧ y < qb ∧ y.tmod qa = 0) := hsup
  -- setting a row without data, with data
  have hsA : ∀ M f, isD M f → ∀ z r, f z = some r → LValid P 13 [.c (.ptr 0 (.lit 0) 9 0), .c (.g (.int .i64 (.sym z))), .c (.g (.int .i64 (.lit 1))), .c (.g (.int .i64 (.lit 0))), .c (.bor 1 [])] [dirB ⟨qa, qb, qc, qd, qe, qf, qg, ini⟩ L, .mp (some 3) M]
      (fun v m1 => v = i64 0 ∧ ∃ M', isD M' (fun y => if y = z then some ⟨1, 0, r.d⟩ else f y) ∧ m1 = [dirB ⟨qa, qb, qc, qd, qe, qf, qg, ini⟩ L, .mp (some 3) M']) := fun M f hM z r hr => by
    obtain ⟨e1, e2⟩ := her f z 1 [] r hr (by show ¬ ((1 : Int) < 0 ∨ 2 < (1 : Int) ∨ (0 : Int) < -1 ∨ qa ≤ 0); omega) (by simp)
    refine (hms M f hM z 1 [] [] rfl (by simp)).mono fun v m1 ⟨h1, M', h2, h3⟩ => ⟨?_, M', ?_, h3⟩
    · rw [h1]
      show i64 (setErr ⟨qa, qb, qc, qd, qe, qf, qg, ini⟩ f z 1 0 []) = _
      rw [e1]
    · have h2 : isD M' (setDir ⟨qa, qb, qc, qd, qe, qf, qg, ini⟩ f z 1 0 []) := h2
      rw [e2] at h2
      exact h2
  have hsB : ∀ M f, isD M f → ∀ z r, f z = some r → ∀ X x, isL .i64 X x → x.length = cn → LValid P 13 [.c (.ptr 0 (.lit 0) 9 0), .c (.g (.int .i64 (.sym z))), .c (.g (.int .i64 (.lit 2))), .c (.g (.int .i64 (.lit 0))), .c (.bor 1 X)] [dirB ⟨qa, qb, qc, qd, qe, qf, qg, ini⟩ L, .mp (some 3) M]
      (fun v m1 => v = i64 0 ∧ ∃ M', isD M' (fun y => if y = z then some ⟨2, 0, x⟩ else f y) ∧ m1 = [dirB ⟨qa, qb, qc, qd, qe, qf, qg, ini⟩ L, .mp (some 3) M']) := fun M f hM z r hr X x hX hx => by
    have hx0 : x ≠ [] := fun e => by rw [e] at hx; simp at hx; omega
    have hxq : (x.length : Int) = qc := by unfold isN at hcn; omega
    obtain ⟨e1, e2⟩ := her f z 2 x r hr (by show ¬ ((2 : Int) < 0 ∨ 2 < (2 : Int) ∨ (0 : Int) < -1 ∨ qa ≤ 0); omega) (by show ¬ (¬ ((0 : Int) = -1 ↔ (2 : Int) = 0) ∨ x ≠ [] ∧ (x.length : Int) ≠ qc); simp [hxq])
    refine (hms M f hM z 2 X x hX (by omega)).mono fun v m1 ⟨h1, M', h2, h3⟩ => ⟨?_, M', ?_, h3⟩
    · rw [h1]
      show i64 (setErr ⟨qa, qb, qc, qd, qe, qf, qg, ini⟩ f z 2 0 x) = _
      rw [e1]
    · have h2 : isD M' (setDir ⟨qa, qb, qc, qd, qe, qf, qg, ini⟩ f z 2 0 x) := h2
      rw [e2, if_neg hx0] at h2
      exact h2
  clear hms her
  have hKn := linesL_nodup f0 bn
  have hmem := fun z => linesL_mem (f := f0) (n := bn) (z := z)
  have hls := fun f h => linesL_same (f := f) (g := f0) h bn
  have hK4 : (linesL f0 bn).length ≤ 4 := by
    unfold linesL
    refine Nat.le_trans (List.length_filter_le _ _) ?_
    simp
    omega
  generalize hKK : linesL f0 bn = K at hKn hmem hls hK4
  have hmem : ∀ z, z ∈ K ↔ (f0 z).isSome = true := fun z => by
    rw [hmem z]
    refine ⟨fun h => h.2, fun h => ⟨?_, h⟩⟩
    have := (hsup z).1 h
    unfold isN at hbn
    omega
  have hne : ∀ x, I.cmp .neq x x = false := fun x => by rw [hI]; show (x != x) = false; simp
  have hnt : I.not true = false := by rw [hI]; rfl
  cbv
  refine .go [] [] [] hnw rfl rfl rfl rfl rfl rfl ?_
  rintro v m1 ⟨M0, hM0, rfl, rfl⟩
  clear hnw
  have hml0 := hml M0 f0 hM0
  rw [hKK] at hml0
  cbv
  refine .go [2, 3] [] [] hml0 rfl rfl rfl rfl rfl rfl ?_
  rintro v m1 ⟨OL, hOL, rfl, rfl⟩
  clear hml0
  have hOl : I.len OL = K.length := by rw [hI]; exact hOL.len
  have hOn : isN (I.ofNat (I.len OL)) K.length := by rw [hOl, hI]; rfl
  have hs0 : small f0 := fun z r h => by rw [hdl0 z r h]; omega
  have hmr0 := fun z => hmr M0 f0 hM0 hs0 z
  cbv
  refine .loop_next (fun n ts m => ∃ (i : Nat) (z c : Int) (M2 : List (List G)), n = K.length - i ∧ isN z i ∧ isN c K.length ∧ i ≤ K.length ∧ isW M2 f0 (K.take i) ∧ ts = fr 146 [(1, .one (.c (.g (.rows 1 VL)))), (5, .one (.c (.ptr 0 (.lit 0) 8 0))), (6, .one (.c (.ptr 1 (.lit 0) 9 0))), (7, .one (.c (.map 3))), (28, .one (.c (.row 4 1 none))), (29, i64 c), (30, i64 z)] ∧ m = [.lit 8 [cfg (.sym qa) (.sym qb) (.sym qc) (.sym qd) (.sym qe) (.sym qf) (.sym qg) (.g (.rows 1 L))], .lit 9 [cfg (.sym qa) (.sym qb) (.sym qc) (.sym qd) (.sym qe) (.sym qf) (.sym qg) (.g (.rows 1 L)) ++ [.map 2]], .mp (some 3) M0, .mp none M2, .sym 1 OL])
    K.length _ _ [1, 2, 3, 4, 5] [] [1, 5, 6, 7, 28, 29, 30] (by decide) rfl rfl rfl ⟨0, 0, _, [], rfl, rfl, hOn, Nat.zero_le _, isW_nil f0, rfl, rfl⟩ ?_
  clear hOn
  rintro next n hnext ts m ⟨i, z, c, M2, hn, hz, hcl, hi, hW, rfl, rfl⟩
  cbv
  refine .br (fun g => ?_) (fun g => ?_)
  · have hi1 : i < K.length := by
      have g : I.cmp .lss z c = true := g
      rw [hI] at g
      have := of_decide_eq_true (show decide (z < c) = true from g)
      unfold isN at hz hcl
      omega
    have hz1 : isN (I.bin .add .i64 z 1) (i + 1) := by unfold isN at hz ⊢; rw [hI]; simp only [ints, rBin]; rw [wrap_in] <;> omega
    have h9 : ∃ y, K[i]? = some y := ⟨_, List.getElem?_eq_getElem hi1⟩
    obtain ⟨y, hy⟩ := h9
    have hrow : OL[i]? = some [.int .i64 (.sym y)] := by rw [hOL.get, hy]; rfl
    have hil : i < I.len OL := by rw [hOl]; exact hi1
    have hys := (hmem y).1 (List.mem_of_getElem? hy)
    have hynot : y ∉ K.take i := fun h => by
      obtain ⟨j, hj⟩ := List.mem_iff_getElem?.1 h
      rw [List.getElem?_take] at hj
      split at hj
      · rename_i hji
        have := (List.getElem?_inj (by omega) hKn).1 (hj.trans hy.symm)
        omega
      · cases hj
    have htk : K.take (i + 1) = K.take i ++ [y] := by rw [List.take_add_one, hy]; rfl
    have hadd := fun r hr => hW.add hynot (r := r) hr
    rw [← htk] at hadd
    have hmr1 := hmr0 y
    clear g hy hynot htk
    cbv
    refine .idx i hz hil (.nth _ hrow ?_)
    cbv
    refine .go [1, 2] [] [] hmr1 rfl rfl rfl rfl rfl rfl ?_
    rintro v m1 (⟨hfz, rfl, rfl⟩ | ⟨r, D, hfz, hD, rfl, rfl⟩)
    · have hfz : f0 y = none := hfz
      rw [hfz] at hys
      cases hys
    have hfz : f0 y = some r := hfz
    have hdl := hdl0 y r hfz
    have hD8 : D.length * 8 ≤ 140737488355328 := by rw [hD.len]; omega
    have hadd1 := hadd r hfz
    have hadd2 : isW (I.mset M2 y [.int .i64 (.sym y), .rows 1 D]) f0 (K.take (i + 1)) := by
      unfold isL at hD
      rw [hI, hD]
      exact hadd1
    clear hadd hadd1
    obtain ⟨rS, rH, rd⟩ := r
    clear hmr1 hfz hdl hD
    cbv
    refine .br (fun g => ?_) (fun _ => ?_)
    · have g : I.not true = true := g
      rw [hnt] at g
      cases g
    cbv
    refine .go [] [] [.bor 1] (copy hp D hD8) rfl rfl rfl rfl rfl rfl ?_
    rintro v m1 ⟨rfl, rfl⟩
    cbv
    exact hnext _ _ (K.length - (i + 1)) [0, 1, 2, 3, 4] [] [1, 5, 6, 7, 28, 29, 30] _ _ (by omega) (by decide) rfl rfl rfl ⟨i + 1, _, c, _, rfl, hz1, hcl, hi1, hadd2, rfl, rfl⟩
  have hiK : i = K.length := by
    have g : I.cmp .lss z c = false := g
    rw [hI] at g
    have := of_decide_eq_false (show decide (z < c) = false from g)
    unfold isN at hz hcl
    omega
  rw [hiK, List.take_length] at hW
  clear g hnext hn hz hcl hi hiK hmr0 hOl hs0
  cbv
  refine .join_next (fun ts m => ∃ (M M2 : List (List G)) (f : Int → Option RW), isD M f ∧ isW M2 f K ∧ (∀ y, (f y).isSome = (f0 y).isSome) ∧ ts = fr 146 [(1, .one (.c (.g (.rows 1 VL)))), (5, .one (.c (.ptr 0 (.lit 0) 8 0))), (6, .one (.c (.ptr 1 (.lit 0) 9 0))), (7, .one (.c (.map 3)))] ∧ m = [.lit 8 [cfg (.sym qa) (.sym qb) (.sym qc) (.sym qd) (.sym qe) (.sym qf) (.sym qg) (.g (.rows 1 L))], .lit 9 [cfg (.sym qa) (.sym qb) (.sym qc) (.sym qd) (.sym qe) (.sym qf) (.sym qg) (.g (.rows 1 L)) ++ [.map 2]], .mp (some 3) M, .mp none M2]) ?_ ?_
  · intro nextJ hnJ
    cbv
    refine .loop_next (fun n ts m => ∃ (i : Nat) (z : Int) (M M2 : List (List G)) (f : Int → Option RW), n = 12 - i ∧ isN z i ∧ i ≤ 12 ∧ isD M f ∧ isW M2 f K ∧ (∀ y, (f y).isSome = (f0 y).isSome) ∧ (∀ y r, f y = some r → r.d.length = cn) ∧ ts = fr 146 [(1, .one (.c (.g (.rows 1 VL)))), (5, .one (.c (.ptr 0 (.lit 0) 8 0))), (6, .one (.c (.ptr 1 (.lit 0) 9 0))), (7, .one (.c (.map 3))), (12, i64 z)] ∧ m = [.lit 8 [cfg (.sym qa) (.sym qb) (.sym qc) (.sym qd) (.sym qe) (.sym qf) (.sym qg) (.g (.rows 1 L))], .lit 9 [cfg (.sym qa) (.sym qb) (.sym qc) (.sym qd) (.sym qe) (.sym qf) (.sym qg) (.g (.rows 1 L)) ++ [.map 2]], .mp (some 3) M, .mp none M2])
      12 _ _ [0, 1, 2, 3] [] [1, 5, 6, 7, 12] (by decide) rfl rfl rfl ⟨0, 0, M0, M2, f0, rfl, rfl, by omega, hM0, hW, fun y => rfl, hdl0, rfl, rfl⟩ ?_
    clear hM0 hW hOL
    rintro next n hnext ts m ⟨i, z, M, M2, f, hn, hz, hi, hM, hW, hiss, hdl, rfl, rfl⟩
    cbv
    refine .br (fun g1 => ?_) (fun g1 => ?_)
    rotate_left
    · cbv
      exact hnJ _ _ [0, 1, 2, 3] [] [1, 5, 6, 7] _ _ (by decide) rfl rfl rfl ⟨M, M2, f, hM, hW, hiss, rfl, rfl⟩
    cbv
    refine .br (fun g2 => ?_) (fun g2 => ?_)
    rotate_left
    · cbv
      exact hnJ _ _ [0, 1, 2, 3] [] [1, 5, 6, 7] _ _ (by decide) rfl rfl rfl ⟨M, M2, f, hM, hW, hiss, rfl, rfl⟩
    have hVl : I.len VL = vs.length := by rw [hI]; exact hV.len
    have hi1 : i < vs.length := by
      have g1 : I.cmp .lss z (I.ofNat (I.len VL)) = true := g1
      rw [hVl, hI] at g1
      have := of_decide_eq_true (show decide (z < ((vs.length : Nat) : Int)) = true from g1)
      unfold isN at hz
      omega
    have hi2 : i < 12 := by
      have g2 : I.cmp .lss z 12 = true := g2
      rw [hI] at g2
      have := of_decide_eq_true (show decide (z < 12) = true from g2)
      unfold isN at hz
      omega
    have hz1 : isN (I.bin .add .i64 z 1) (i + 1) := by unfold isN at hz ⊢; rw [hI]; simp only [ints, rBin]; rw [wrap_in] <;> omega
    have h9 : ∃ x, vs[i]? = some x := ⟨_, List.getElem?_eq_getElem hi1⟩
    obtain ⟨x, hx⟩ := h9
    have hrow : VL[i]? = some [.int .i64 (.sym x)] := by rw [hV.get, hx]; rfl
    have hil : i < I.len VL := by rw [hVl]; exact hi1
    have hwb := (within hp (.sym x) (.sym qb)).mono (R' := fun v m1 => ∃ y : Int, (0 ≤ y ∧ y < qb) ∧ v = i64 y ∧ m1 = []) (fun v m1 ⟨y, hy, h2, h3⟩ => ⟨y, by rw [show y = win x qb from hy]; exact win_in x qb (by omega) (by omega), h2, h3⟩)
    have hqa0 : qa ≠ 0 := by omega
    clear g1 g2 hx hVl hi1
    cbv
    refine .drawn [] ?_
    cbv
    refine .idx i hz hil (.nth _ hrow ?_)
    cbv
    refine .go [] [] [] hwb rfl rfl rfl rfl rfl rfl ?_
    rintro v m1 ⟨y, hy, rfl, rfl⟩
    clear hwb
    cbv
    refine .nz hqa0 ?_
    cbv
    refine .br (fun g => ?_) (fun g => ?_)
    · clear g
      cbv
      exact hnext _ _ (12 - (i + 1)) [0, 1, 2, 3] [] [1, 5, 6, 7, 12] _ _ (by omega) (by decide) rfl rfl rfl ⟨i + 1, _, M, M2, f, rfl, hz1, hi2, hM, hW, hiss, hdl, rfl, rfl⟩
    have hy0 : y.tmod qa = 0 := by
      have g : I.cmp .neq (I.bin .rem .i64 y qa) 0 = false := g
      rw [hI] at g
      have g : (y.tmod qa != 0) = false := g
      simpa using g
    have hfs : (f y).isSome = true := by rw [hiss y]; exact (hsup y).2 ⟨hy.1, hy.2, hy0⟩
    have hyK : y ∈ K := (hmem y).2 (by rw [← hiss y]; exact hfs)
    have h9 : ∃ r, f y = some r := Option.isSome_iff_exists.1 hfs
    obtain ⟨r, hr⟩ := h9
    have hsA := hsA M f hM y r hr
    have hsB := hsB M f hM y r hr
    have hWA := hW.same hr 1 0
    have hWB := fun d => hW.put hyK 2 0 d
    have hissA : ∀ st d y', ((fun y' => if y' = y then some (RW.mk st 0 d) else f y') y').isSome = (f0 y').isSome := fun st d y' => by
      dsimp only
      by_cases e : y' = y
      · rw [if_pos e, e, ← hiss y, hfs]; rfl
      · rw [if_neg e]; exact hiss y'
    have hdlA : ∀ st d, d.length = cn → ∀ y' r', (fun y' => if y' = y then some (RW.mk st 0 d) else f y') y' = some r' → r'.d.length = cn := fun st d hd y' r' h => by
      dsimp only at h
      by_cases e : y' = y
      · rw [if_pos e] at h; cases h; exact hd
      · rw [if_neg e] at h; exact hdl y' r' h
    have hrl := hdl y r hr
    obtain ⟨rS, rH, rd⟩ := r
    have hD0 : isL .i64 (I.rep cn [.int .i64 (.sym 0)]) (List.replicate cn 0) := by rw [hI]; unfold isL nrow; simp [ints]
    have hDn : isN (I.ofNat (I.len (I.rep cn [.int .i64 (.sym 0)]))) cn := by
      have : I.len (I.rep cn [.int .i64 (.sym 0)]) = cn := by rw [hI]; simp [ints]
      rw [this, hI]; rfl
    clear g hy0 hfs hyK
    cbv
    refine .size cn hcn (by omega) ?_
    cbv
    refine .loop_next (fun n' ts m => ∃ (j : Nat) (u c : Int) (D : List (List G)) (d : List Int), n' = cn - j ∧ isN u j ∧ isN c cn ∧ j ≤ cn ∧ isL .i64 D d ∧ d.length = cn ∧ ts = fr 146 [(1, .one (.c (.g (.rows 1 VL)))), (5, .one (.c (.ptr 0 (.lit 0) 8 0))), (6, .one (.c (.ptr 1 (.lit 0) 9 0))), (7, .one (.c (.map 3))), (12, i64 z), (13, i64 y), (14, .one (.c (.row 4 1 (some (.sym cn))))), (74, i64 c), (75, i64 u)] ∧ m = [.lit 8 [cfg (.sym qa) (.sym qb) (.sym qc) (.sym qd) (.sym qe) (.sym qf) (.sym qg) (.g (.rows 1 L))], .lit 9 [cfg (.sym qa) (.sym qb) (.sym qc) (.sym qd) (.sym qe) (.sym qf) (.sym qg) (.g (.rows 1 L)) ++ [.map 2]], .mp (some 3) M, .mp none M2, .sym 1 D])
      cn _ _ [0, 1, 2, 3, 4] [] [1, 5, 6, 7, 12, 13, 14, 74, 75] (by decide) rfl rfl rfl ⟨0, 0, _, _, _, rfl, rfl, hDn, Nat.zero_le _, hD0, by simp, rfl, rfl⟩ ?_
    clear hD0 hDn
    rintro next2 n2 hnext2 ts m ⟨j, u, c, D, d, hn2, hu, hc, hj, hD, hd, rfl, rfl⟩
    cbv
    refine .br (fun g => ?_) (fun g => ?_)
    · have hj1 : j < cn := by
        have g : I.cmp .lss u c = true := g
        rw [hI] at g
        have := of_decide_eq_true (show decide (u < c) = true from g)
        unfold isN at hu hc
        omega
      have hu1 : isN (I.bin .add .i64 u 1) (j + 1) := by unfold isN at hu ⊢; rw [hI]; simp only [ints, rBin]; rw [wrap_in] <;> omega
      have h9 : ∃ w, d[j]? = some w := ⟨_, List.getElem?_eq_getElem (by omega)⟩
      obtain ⟨w, hw⟩ := h9
      have hrd : D[j]? = some [.int .i64 (.sym w)] := by rw [hD.get, hw]; rfl
      have hjl : j < I.len D := by rw [hI]; show j < D.length; rw [hD.len]; omega
      have h9 : ∃ d3, isL .i64 (I.set D j [.int .i64 (.sym (I.bin .sub .i64 x u))]) d3 ∧ d3.length = cn := by
        refine ⟨d.set j (I.bin .sub .i64 x u), ?_, by simpa using hd⟩
        generalize I.bin .sub .i64 x u = y
        rw [hI]
        unfold isL at hD ⊢
        rw [hD]
        simp [nrow, ints, List.map_set]
      obtain ⟨d3, hset, hsl⟩ := h9
      clear g hw hsA hsB hWA hWB hissA hdlA
      cbv
      repeat' first
        | (refine .idx i hz hil ?_; cbv)
        | (refine .idx j hu hjl ?_; cbv)
        | (refine .nth _ hrow ?_; cbv)
        | (refine .nth _ hrd ?_; cbv)
      exact hnext2 _ _ (cn - (j + 1)) [0, 1, 2, 3, 4] [] [1, 5, 6, 7, 12, 13, 14, 74, 75] _ _ (by omega) (by decide) rfl rfl rfl ⟨j + 1, _, c, _, d3, rfl, hu1, hc, hj1, hset, hsl, rfl, rfl⟩
    clear g hnext2 hu hc hj hn2
    have hsB := hsB D d hD hd
    have hWB := hWB d
    have hWB : isW (I.mset M2 y [.int .i64 (.sym y), .rows 1 D]) (fun y' => if y' = y then some ⟨2, 0, d⟩ else f y') K := by
      unfold isL at hD
      rw [hI, hD]
      exact hWB
    have hD8 : D.length * 8 ≤ 140737488355328 := by rw [hD.len]; omega
    have h9 : ∃ w0 wr, d = w0 :: wr := by
      match d, hd with
      | [], hd => simp at hd; omega
      | w0 :: wr, _ => exact ⟨w0, wr, rfl⟩
    obtain ⟨w0, wr, hdw⟩ := h9
    have hr0 : D[0]? = some [.int .i64 (.sym w0)] := by rw [hD.get, hdw]; rfl
    have hl0 : 0 < I.len D := by rw [hI]; show 0 < D.length; rw [hD.len]; omega
    have hdlB := hdlA 2 d hd
    have hdlA := hdlA 1 rd hrl
    have hissB := hissA 2 d
    have hissA := hissA 1 rd
    clear hdw hrow hil
    cbv
    refine .join_next (fun ts m => ∃ (M M2 : List (List G)) (f : Int → Option RW), isD M f ∧ isW M2 f K ∧ (∀ y, (f y).isSome = (f0 y).isSome) ∧ (∀ y r, f y = some r → r.d.length = cn) ∧ ts = fr 146 [(1, .one (.c (.g (.rows 1 VL)))), (5, .one (.c (.ptr 0 (.lit 0) 8 0))), (6, .one (.c (.ptr 1 (.lit 0) 9 0))), (7, .one (.c (.map 3))), (12, i64 z)] ∧ m = [.lit 8 [cfg (.sym qa) (.sym qb) (.sym qc) (.sym qd) (.sym qe) (.sym qf) (.sym qg) (.g (.rows 1 L))], .lit 9 [cfg (.sym qa) (.sym qb) (.sym qc) (.sym qd) (.sym qe) (.sym qf) (.sym qg) (.g (.rows 1 L)) ++ [.map 2]], .mp (some 3) M, .mp none M2]) ?_ ?_
    · intro next3 hnx
      cbv
      refine .br (fun g => ?_) (fun g => ?_)
      · clear g
        cbv
        refine .go [1, 2] [] [.keep, .keep, .keep, .keep, .bor 1] hsA rfl rfl rfl rfl rfl rfl ?_
        rintro v m1 ⟨rfl, M', hM', rfl⟩
        cbv
        refine br_f (hne 0) ?_
        cbv
        exact hnx _ _ [0, 1, 2, 3] [] [1, 5, 6, 7, 12] _ _ (by decide) rfl rfl rfl ⟨M', M2, _, hM', hWA, hissA, hdlA, rfl, rfl⟩
      · clear g
        cbv
        refine .go [] [] [.bor 1] (copy hp D hD8) rfl rfl rfl rfl rfl rfl ?_
        rintro v m1 ⟨rfl, rfl⟩
        cbv
        refine .go [1, 2] [] [.keep, .keep, .keep, .keep, .bor 1] hsB rfl rfl rfl rfl rfl rfl ?_
        rintro v m1 ⟨rfl, M', hM', rfl⟩
        cbv
        refine br_f (hne 0) ?_
        cbv
        repeat' first
          | (refine .idx 0 rfl hl0 ?_; cbv)
          | (refine .nth _ hr0 ?_; cbv)
        exact hnx _ _ [0, 1, 2, 3] [] [1, 5, 6, 7, 12] _ _ (by decide) rfl rfl rfl ⟨M', _, _, hM', hWB, hissB, hdlB, rfl, rfl⟩
    clear hsA hsB hWA hWB hissA hissB hdlA hdlB hr hiss hdl hM hW hD hr0 hl0
    rintro ts m ⟨M, M2, f, hM, hW, hiss, hdl, rfl, rfl⟩
    have hs : small f := fun z r h => by rw [hdl z r h]; omega
    have hmr1 := fun z => hmr M f hM hs z
    cbv
    refine .mloop_next (fun ts m => ts = fr 146 [(1, .one (.c (.g (.rows 1 VL)))), (5, .one (.c (.ptr 0 (.lit 0) 8 0))), (6, .one (.c (.ptr 1 (.lit 0) 9 0))), (7, .one (.c (.map 3))), (12, i64 z), (110, .one (.c (.ptr 4 (.lit 0) 0 0)))] ∧ m = [.lit 8 [cfg (.sym qa) (.sym qb) (.sym qc) (.sym qd) (.sym qe) (.sym qf) (.sym qg) (.g (.rows 1 L))], .lit 9 [cfg (.sym qa) (.sym qb) (.sym qc) (.sym qd) (.sym qe) (.sym qf) (.sym qg) (.g (.rows 1 L)) ++ [.map 2]], .mp (some 3) M, .mp none M2, .dead]) _ _ [0, 1, 2, 3, 4] [] [1, 5, 6, 7, 12, 110] 3 4 (by decide) rfl rfl rfl rfl rfl ⟨rfl, rfl⟩ ?_ ?_ ?_
    · rintro ts m ⟨rfl, rfl⟩
      exact ⟨rfl, rfl, rfl, Nat.le_of_ble_eq_true rfl, Nat.le_of_ble_eq_true rfl⟩
    · rintro ts m ⟨rfl, rfl⟩ i2 zk gs hrw n2 next3 hn2 hnx
      obtain ⟨r, hr, rfl⟩ := hW.row hKn hrw
      have hmr1 := hmr1 zk.val
      have hrl := hdl _ r hr
      clear hrw hn2
      have h9 : ∃ Y, Y = nrow .i64 r.d := ⟨_, rfl⟩
      obtain ⟨Y, hY⟩ := h9
      rw [← hY]
      have hYl : isL .i64 Y r.d := hY
      clear hY
      have hsy : LValid P 10 [.c (.ptr 0 (.lit 0) 9 0), .c (.g (.int .i64 zk))] [dirB ⟨qa, qb, qc, qd, qe, qf, qg, ini⟩ L, .mp (some 3) M] (fun v m1 => (f zk.val = none ∧ v = .tup [.agg [.g (.int .i64 (.sym 0)), .g (.int .i64 (.sym 0)), .row 2 1 none], gb false] ∧ m1 = [dirB ⟨qa, qb, qc, qd, qe, qf, qg, ini⟩ L, .mp (some 3) M, .sym 1 []]) ∨
          (∃ r D, f zk.val = some r ∧ isL .i64 D r.d ∧ v = .tup [.agg [.g (.int .i64 (.sym r.s)), .g (.int .i64 (.sym r.h)), .row 2 1 none], gb true] ∧ m1 = [dirB ⟨qa, qb, qc, qd, qe, qf, qg, ini⟩ L, .mp (some 3) M, .sym 1 D])) := LValid.sy hmr1
      clear hmr1
      generalize zk.val = zv at hsy hr
      cbv
      refine .go [1, 2] [] [] hsy rfl rfl rfl rfl rfl rfl ?_
      rintro v m1 (⟨hfz, rfl, rfl⟩ | ⟨r2, D2, hfz, hD2, rfl, rfl⟩)
      · rw [hr] at hfz
        cases hfz
      have hrr : r = r2 := Option.some.inj (hr.symm.trans hfz)
      subst hrr
      have h9 : ∃ w0 wr, r.d = w0 :: wr := by
        match r.d, hrl with
        | [], hd => simp at hd; omega
        | w0 :: wr, _ => exact ⟨w0, wr, rfl⟩
      obtain ⟨w0, wr, hdw⟩ := h9
      have hr0 : D2[0]? = some [.int .i64 (.sym w0)] := by rw [hD2.get, hdw]; rfl
      have hl0 : 0 < I.len D2 := by rw [hI]; show 0 < D2.length; rw [hD2.len]; omega
      have hsm := (same hp D2 Y r.d r.d hD2 hYl (by rw [hD2.len]; omega)).mono (R' := fun v m1 => v = boo true ∧ m1 = []) (fun v m1 ⟨t, h1, h2, h3⟩ => ⟨by rw [h2, h1]; simp, h3⟩)
      obtain ⟨rS, rH, rd⟩ := r
      clear hsy hr hfz hdw
      cbv
      refine br_f hnt ?_
      cbv
      refine .go [] [] [.bor 1, .bor 1] hsm rfl rfl rfl rfl rfl rfl ?_
      rintro v m1 ⟨rfl, rfl⟩
      cbv
      refine br_f hnt ?_
      cbv
      repeat' first
        | (refine .idx 0 rfl hl0 ?_; cbv)
        | (refine .nth _ hr0 ?_; cbv)
      exact hnx _ _ [0, 1, 2, 3, 4] [] [1, 5, 6, 7, 12, 110] _ _ (by decide) rfl rfl rfl rfl rfl rfl rfl ⟨rfl, rfl⟩
    · rintro ts m ⟨rfl, rfl⟩
      cbv
      exact hnext _ _ (12 - (i + 1)) [0, 1, 2, 3] [] [1, 5, 6, 7, 12] _ _ (by omega) (by decide) rfl rfl rfl ⟨i + 1, _, M, M2, f, rfl, hz1, hi2, hM, hW, hiss, hdl, rfl, rfl⟩
  rintro ts m ⟨M, M2', f, hM, hW', hiss, rfl, rfl⟩
  have hml1 := hml M f hM
  rw [hls f hiss] at hml1
  have hlen : I.len M2' = K.length := by
    have := congrArg List.length hW'.1
    rw [hI]
    show M2'.length = _
    simpa using this
  clear hml hmr hsA hsB
  cbv
  refine .go [1, 2] [] [] hml1 rfl rfl rfl rfl rfl rfl ?_
  rintro v m1 ⟨O2, hO2, rfl, rfl⟩
  have he : I.cmp .eql (I.ofNat (I.len M2')) (I.ofNat (I.len O2)) = true := by
    have : I.len O2 = K.length := by rw [hI]; exact hO2.len
    rw [hlen, this, hI]
    show (_ == _) = true
    simp
  clear hml1
  cbv
  refine br_t he ?_
  cbv
  refine .go [] [] [] (wakes9 hp) rfl rfl rfl rfl rfl rfl ?_
  rintro v m1 ⟨rfl, rfl⟩
  cbv
  exact hP _ _ [] [] _ _ .nil rfl rfl rfl rfl rfl ⟨_, rfl, rfl⟩
end
end Go.Proofs.Ythkkodmidnpmeaa.E
