/- PlanLines. -/
import Derived.Test.YtdfbpdbfiffpbaaQPlan
namespace Go.Proofs.Ytdfbpdbfiffpbaa.E
open Go
set_option linter.unusedVariables false
set_option maxRecDepth 100000
set_option linter.unusedSimpArgs false

theorem lines_law (b c a : Int) (hb : 1 ≤ b ∧ b ≤ 4) (hc : 1 ≤ c ∧ c ≤ 2) (h0 : 0 ≤ a) (h : a + 1 < b * c) :
    ((lnW b c (a + 1)).1 = (lnW b c a).1 ∧ (lnW b c (a + 1)).2 = (lnW b c a).2 + 1) ∨ ((lnW b c (a + 1)).1 ≠ (lnW b c a).1 ∧ (lnW b c (a + 1)).1 = (lnW b c a).1 + 1 ∧ (lnW b c (a + 1)).2 = 0 ∧ (lnW b c a).2 = c - 1) := by
  have e1 : lnW b c a = (a / c, a % c) := by unfold lnW; rw [if_neg (by omega), Int.tdiv_eq_ediv_of_nonneg h0, Int.tmod_eq_emod_of_nonneg h0]
  have e2 : lnW b c (a + 1) = ((a + 1) / c, (a + 1) % c) := by unfold lnW; rw [if_neg (by omega), Int.tdiv_eq_ediv_of_nonneg (by omega), Int.tmod_eq_emod_of_nonneg (by omega)]
  rw [e1, e2]
  have : c = 1 ∨ c = 2 := by omega
  rcases this with rfl | rfl
  · simp only []
    omega
  · simp only []
    omega
theorem lines_in (b c a : Int) (hb : 1 ≤ b ∧ b ≤ 4) (hc : 1 ≤ c ∧ c ≤ 2) (h0 : 0 ≤ a) (h : a + 1 < b * c) :
    IntKind.i64.wrap ((lnW b c a).1 + 1) = (lnW b c a).1 + 1 ∧ IntKind.i64.wrap ((lnW b c a).2 + 1) = (lnW b c a).2 + 1 ∧ IntKind.i64.wrap (c - 1) = c - 1 := by
  have e1 : lnW b c a = (a / c, a % c) := by unfold lnW; rw [if_neg (by omega), Int.tdiv_eq_ediv_of_nonneg h0, Int.tmod_eq_emod_of_nonneg h0]
  have h2 : b * c ≤ 4 * 2 := Int.mul_le_mul hb.2 hc.2 (by omega) (by omega)
  rw [e1]
  have : c = 1 ∨ c = 2 := by omega
  rcases this with rfl | rfl
  · simp only []
    refine ⟨?_, ?_, ?_⟩ <;> rw [wrap_in] <;> omega
  · simp only []
    refine ⟨?_, ?_, ?_⟩ <;> rw [wrap_in] <;> omega
theorem rst_in (y n : Int) (hy : 0 ≤ y) : rst y n = y % n := by unfold rst; rw [if_neg (by omega), Int.tmod_eq_emod_of_nonneg hy]
theorem home_next (y n : Int) (hy : 0 ≤ y ∧ y < 1000) (hn : 1 ≤ n ∧ n ≤ 4) : ints.cmp .neq (ints.bin .rem .i64 (ints.bin .add .i64 (rst y n) 1) n) (rst (ints.bin .add .i64 y 1) n) = false := by
  show ((IntKind.i64.wrap (rst y n + 1)).tmod n != rst (IntKind.i64.wrap (y + 1)) n) = false
  rw [rst_in y n hy.1, wrap_in (y + 1) (by omega) (by omega), rst_in (y + 1) n (by omega)]
  have h1 := Int.emod_nonneg y (show n ≠ 0 by omega)
  have h2 := Int.emod_lt_of_pos y (show 0 < n by omega)
  rw [wrap_in _ (by omega) (by omega), Int.tmod_eq_emod_of_nonneg (by omega)]
  simp
theorem home_round (y n : Int) (hy : 0 ≤ y ∧ y < 1000) (hn : 1 ≤ n ∧ n ≤ 4) : ints.cmp .neq (rst (ints.bin .add .i64 y n) n) (rst y n) = false := by
  show (rst (IntKind.i64.wrap (y + n)) n != rst y n) = false
  rw [wrap_in (y + n) (by omega) (by omega), rst_in y n hy.1, rst_in (y + n) n (by omega)]
  simp
theorem neg_in (y : Int) (hy : 0 ≤ y ∧ y < 1000) : ints.bin .sub .i64 (-1) y = -1 - y := by
  show IntKind.i64.wrap (-1 - y) = _
  rw [wrap_in] <;> omega
theorem line_lo (b c y : Int) (hy : 0 ≤ y ∧ y < 1000) : (lnW b c (ints.bin .sub .i64 (-1) y)).1 = -1 := by
  rw [neg_in y hy]; unfold lnW; rw [if_pos (.inl (by omega))]
theorem home_lo (n y : Int) (hy : 0 ≤ y ∧ y < 1000) : rst (ints.bin .sub .i64 (-1) y) n = -1 := by
  rw [neg_in y hy]; unfold rst; rw [if_pos (by omega)]
theorem line_hi (b c y : Int) (hb : 1 ≤ b ∧ b ≤ 4) (hc : 1 ≤ c ∧ c ≤ 2) (hy : 0 ≤ y ∧ y < 1000) : (lnW b c (ints.bin .add .i64 (IntKind.i64.wrap (b * c)) y)).1 = -1 := by
  rw [inB_prod 0 b c hb hc]
  have h1 : 0 ≤ b * c := Int.mul_nonneg (by omega) (by omega)
  have h2 : b * c ≤ 4 * 2 := Int.mul_le_mul hb.2 hc.2 (by omega) (by omega)
  have : ints.bin .add .i64 (b * c) y = b * c + y := by
    show IntKind.i64.wrap (b * c + y) = _
    rw [wrap_in] <;> omega
  rw [this]; unfold lnW; rw [if_pos (.inr (by omega))]
section
variable {P : Program} (hp : P = Try.prog)
include hp
theorem pwithin (x n : Int) : LValid P 26 [.c (.g (.int .i64 (.lit x))), .c (.g (.int .i64 (.lit n)))] [] (fun v m1 => ∃ t, t = (decide (1 ≤ x) && decide (x ≤ n)) ∧ v = boo t ∧ m1 = []) := by
  refine bx (LValid.sy (LValid.boo ?_))
  show LValid P 26 [.c (.g (.int .i64 (.sym x))), .c (.g (.int .i64 (.sym n)))] [] _
  obtain ⟨I, hI⟩ := ref
  refine fn_sim hI (mo hp) (cc hp c26) fun Post hP => ?_
  cbv
  refine .br (fun h => ?_) (fun h => ?_) <;> cbv
  · have h' : 1 ≤ x := by simpa [hI, ints, rCmp] using h
    exact hP _ _ [] [] _ _ .nil rfl rfl rfl rfl rfl ⟨_, rfl, by show I.cmp .leq x n = _; rw [hI]; simp [ints, rCmp, h'], rfl⟩
  · have h' : ¬ 1 ≤ x := by simpa [hI, ints, rCmp] using h
    exact hP _ _ [] [] _ _ .nil rfl rfl rfl rfl rfl ⟨_, rfl, by show (false : Bool) = _; simp [h'], rfl⟩
theorem check0 : LValid P 10 [.agg [.g (.int .i64 (.lit 0)), .g (.int .i64 (.lit 0)), .g (.int .i64 (.lit 0)), .g (.int .i64 (.lit 0)), .g (.int .i64 (.lit 0)), .g (.int .i64 (.lit 0)), .g (.int .i64 (.lit 0)), .g .nil]] [] (fun v m1 => v = i64 1 ∧ m1 = []) := by
  refine LValid.num ?_
  obtain ⟨I, hI⟩ := ref
  refine fn_sim hI (mo hp) (cc hp c10) fun Post hP => ?_
  cbv
  repeat' first
    | (refine .go [] [] [] (pwithin hp _ _) rfl rfl rfl rfl rfl rfl ?_; rintro r m1 ⟨_, rfl, rfl, rfl⟩; cbv)
    | (refine br_f rfl ?_; cbv)
    | (refine br_t rfl ?_; cbv)
    | (refine br_f ?_ ?_; (focus (rw [hI]; rfl)); cbv)
    | (refine br_t ?_ ?_; (focus (rw [hI]; rfl)); cbv)
  exact hP _ _ [] [] _ _ .nil rfl rfl rfl rfl rfl ⟨_, rfl, rfl, rfl⟩
theorem check1 : LValid P 10 [.agg [.g (.int .i64 (.lit 1)), .g (.int .i64 (.lit 1)), .g (.int .i64 (.lit 1)), .g (.int .i64 (.lit 1)), .g (.int .i64 (.lit 1)), .g (.int .i64 (.lit 1)), .g (.int .i64 (.lit 1)), .g .nil]] [] (fun v m1 => v = i64 0 ∧ m1 = []) := by
  refine LValid.num ?_
  obtain ⟨I, hI⟩ := ref
  refine fn_sim hI (mo hp) (cc hp c10) fun Post hP => ?_
  cbv
  repeat' first
    | (refine .go [] [] [] (pwithin hp _ _) rfl rfl rfl rfl rfl rfl ?_; rintro r m1 ⟨_, rfl, rfl, rfl⟩; cbv)
    | (refine br_f rfl ?_; cbv)
    | (refine br_t rfl ?_; cbv)
    | (refine br_f ?_ ?_; (focus (rw [hI]; rfl)); cbv)
    | (refine br_t ?_ ?_; (focus (rw [hI]; rfl)); cbv)
  exact hP _ _ [] [] _ _ .nil rfl rfl rfl rfl rfl ⟨_, rfl, rfl, rfl⟩
theorem wakes : LValid P 11 [] [] (fun v m1 => v = boo true ∧ m1 = []) := by
  refine LValid.boo ?_
  obtain ⟨I, hI⟩ := ref
  refine fn_sim hI (mo hp) (cc hp c11) fun Post hP => ?_
  cbv
  refine .go [] [] [] (check0 hp) rfl rfl rfl rfl rfl rfl ?_
  rintro r m1 ⟨rfl, rfl⟩
  cbv
  refine br_t (by rw [hI]; rfl) ?_
  cbv
  refine .go [] [] [] (check1 hp) rfl rfl rfl rfl rfl rfl ?_
  rintro r m1 ⟨rfl, rfl⟩
  cbv
  exact hP _ _ [] [] _ _ .nil rfl rfl rfl rfl rfl ⟨_, rfl, by rw [hI]; rfl, rfl⟩
set_option maxHeartbeats 8000000 in
theorem lines (a b c d e f g v : Int) (l l1 l2 l3 l4 : List (List G)) : LValid P 5 [.agg [.g (.int .i64 (.sym a)), .g (.int .i64 (.sym b)), .g (.int .i64 (.sym c)), .g (.int .i64 (.sym d)), .g (.int .i64 (.sym e)), .g (.int .i64 (.sym f)), .g (.int .i64 (.sym g)), .g (.rows 1 l), .g (.rows 1 l1), .g (.rows 1 l2), .g (.rows 1 l3), .g (.rows 1 l4)], gi .i64 v] [] (fun v _ => ∃ b : BB, b.val = true ∧ v = .one (.c (.g (.bool b)))) := by
  obtain ⟨I, hI⟩ := ref
  refine fn_sim hI (mo hp) (cc hp c5) fun Post hP => ?_
  cbv
  refine .go [] [] [.bor 1] (config hp a b c d e f g l l1 l2 l3 l4) rfl rfl rfl rfl rfl rfl ?_
  rintro r m1 ⟨n1, n2, n3, n4, n5, n6, n7, l', g1, g2, g3, g4, rfl, rfl⟩
  cbv
  refine .loop_next (fun n ts m => ∃ z : Int, n = (n2 * n3 - z).toNat ∧ 0 ≤ z ∧ z ≤ 8 ∧ ts = fr 145 [(1, i64 v), (5, .one (.c (.ptr 0 (.lit 0) 8 0))), (6, i64 z)] ∧ m = [.lit 8 [cfg (.sym n1) (.sym n2) (.sym n3) (.sym n4) (.sym n5) (.sym n6) (.sym n7) (.row 1 1 none)], .sym 1 l'])
    (n2 * n3 - 0).toNat _ _ [2, 1] [] [1, 5, 6] (by decide) rfl rfl rfl ⟨0, rfl, by omega, by omega, rfl, rfl⟩ ?_
  rintro next n hnext ts m ⟨z, hn, h0, h8, rfl, rfl⟩
  cbv
  refine .go [] [] [.bor 1] (addrs hp n1 n2 n3 n4 n5 n6 n7 l') rfl rfl rfl rfl rfl rfl ?_
  rintro r m1 ⟨t, ht, rfl, rfl⟩
  have ht : t = n2 * n3 := by rw [ht]; exact inB_prod 0 n2 n3 g2 g3
  have hM : n2 * n3 ≤ 8 := by
    have h2 : n2 * n3 ≤ 4 * 2 := Int.mul_le_mul g2.2 g3.2 (by omega) (by omega)
    omega
  have hz1 : I.bin .add .i64 z 1 = z + 1 := by rw [hI]; show IntKind.i64.wrap (z + 1) = _; rw [wrap_in] <;> omega
  cbv
  refine .br (fun h1 => ?_) (fun h1 => ?_)
  · have h1' : z + 1 < n2 * n3 := by
      have : rCmp .lss (I.bin .add .i64 z 1) t = true := by rw [hI] at h1 ⊢; exact h1
      rw [ht, hz1] at this
      simpa [rCmp] using this
    cbv
    refine .go [] [] [.bor 1] (lineOf hp n1 n2 n3 n4 n5 n6 n7 z l' g2 g3) rfl rfl rfl rfl rfl rfl ?_
    rintro r m1 ⟨u1, u2, hu1, hu2, rfl, rfl⟩
    cbv
    refine .go [] [] [.bor 1] (lineOf hp n1 n2 n3 n4 n5 n6 n7 _ l' g2 g3) rfl rfl rfl rfl rfl rfl ?_
    rintro r m1 ⟨u3, u4, hu3, hu4, rfl, rfl⟩
    have hL := lines_law n2 n3 z g2 g3 h0 h1'
    obtain ⟨k1, k2, k3⟩ := lines_in n2 n3 z g2 g3 h0 h1'
    have hu3 : u3 = (lnW n2 n3 (z + 1)).1 := by rw [hu3]; exact congrArg (fun x => (lnW n2 n3 x).1) hz1
    have hu4 : u4 = (lnW n2 n3 (z + 1)).2 := by rw [hu4]; exact congrArg (fun x => (lnW n2 n3 x).2) hz1
    rw [← hu1, ← hu2, ← hu3, ← hu4] at hL
    rw [← hu1] at k1
    rw [← hu2] at k2
    clear hu1 hu2 hu3 hu4
    rcases hL with ⟨q1, q2⟩ | ⟨q1, q2, q3, q4⟩
    · cbv
      repeat' first
        | (refine br_f ?_ ?_; (focus (rw [hI]; simp [ints, rCmp, rBin, q1, q2, k2]; done)); cbv)
        | (refine br_t ?_ ?_; (focus (rw [hI]; simp [ints, rCmp, rBin, q1, q2, k2]; done)); cbv)
      exact hnext _ _ (n2 * n3 - (z + 1)).toNat [0, 1] [] [1, 5, 6] _ _ (by rw [hn]; omega) (by decide) rfl rfl rfl ⟨_, congrArg (fun x => (n2 * n3 - x).toNat) hz1.symm, by rw [hz1]; omega, by rw [hz1]; omega, rfl, rfl⟩
    · cbv
      repeat' first
        | (refine br_f ?_ ?_; (focus (rw [hI]; (try simp [ints, rCmp, rBin, q2, q3, q4, k1, k3]) <;> omega)); cbv)
        | (refine br_t ?_ ?_; (focus (rw [hI]; (try simp [ints, rCmp, rBin, q2, q3, q4, k1, k3]) <;> omega)); cbv)
      exact hnext _ _ (n2 * n3 - (z + 1)).toNat [0, 1] [] [1, 5, 6] _ _ (by rw [hn]; omega) (by decide) rfl rfl rfl ⟨_, congrArg (fun x => (n2 * n3 - x).toNat) hz1.symm, by rw [hz1]; omega, by rw [hz1]; omega, rfl, rfl⟩
  · have h1' : n2 * n3 ≤ z + 1 := by
      have : rCmp .lss (I.bin .add .i64 z 1) t = false := by rw [hI] at h1 ⊢; exact h1
      rw [ht, hz1] at this
      simpa [rCmp] using this
    cbv
    refine .go [] [] [] (within hp _ _) rfl rfl rfl rfl rfl rfl ?_
    rintro r m1 ⟨y, hy, rfl, rfl⟩
    cbv
    have hW : 0 ≤ y ∧ y < 1000 := by rw [hy]; exact win_in v 1000 (by omega) (by omega)
    refine .drawn [] ?_
    cbv
    refine .go [] [] [.bor 1] (homeOf hp n1 n2 n3 n4 n5 n6 n7 y l' g1.1) rfl rfl rfl rfl rfl rfl ?_
    rintro r m1 ⟨p1, hp1, rfl, rfl⟩
    cbv
    refine .nz (by omega) ?_
    cbv
    refine .go [] [] [.bor 1] (homeOf hp n1 n2 n3 n4 n5 n6 n7 _ l' g1.1) rfl rfl rfl rfl rfl rfl ?_
    rintro r m1 ⟨p2, hp2, rfl, rfl⟩
    cbv
    refine br_f (show I.cmp .neq (I.bin .rem .i64 (I.bin .add .i64 p1 1) n1) p2 = false from by rw [hp1, hp2, hI]; exact home_next y n1 hW g1) ?_
    cbv
    refine .go [] [] [.bor 1] (setOf hp n1 n2 n3 n4 n5 n6 n7 (.sym y) l' g4.1) rfl rfl rfl rfl rfl rfl ?_
    rintro r m1 ⟨p3, hp3, rfl, rfl⟩
    cbv
    refine .nz (by omega) ?_
    cbv
    refine .go [] [] [.bor 1] (setOf hp n1 n2 n3 n4 n5 n6 n7 (.sym _) l' g4.1) rfl rfl rfl rfl rfl rfl ?_
    rintro r m1 ⟨p4, hp4, rfl, rfl⟩
    cbv
    refine br_f (show I.cmp .neq (I.bin .rem .i64 (I.bin .add .i64 p3 1) n4) p4 = false from by rw [hp3, hp4, hI]; exact home_next y n4 hW ⟨g4.1, by omega⟩) ?_
    cbv
    refine .go [] [] [.bor 1] (homeOf hp n1 n2 n3 n4 n5 n6 n7 _ l' g1.1) rfl rfl rfl rfl rfl rfl ?_
    rintro r m1 ⟨p5, hp5, rfl, rfl⟩
    cbv
    refine .go [] [] [.bor 1] (homeOf hp n1 n2 n3 n4 n5 n6 n7 _ l' g1.1) rfl rfl rfl rfl rfl rfl ?_
    rintro r m1 ⟨p6, hp6, rfl, rfl⟩
    cbv
    refine br_f (show I.cmp .neq p5 p6 = false from by rw [hp5, hp6, hI]; exact home_round y n1 hW g1) ?_
    cbv
    refine .go [] [] [.bor 1] (lineOf hp n1 n2 n3 n4 n5 n6 n7 _ l' g2 g3) rfl rfl rfl rfl rfl rfl ?_
    rintro r m1 ⟨u1, u2, hu1, hu2, rfl, rfl⟩
    cbv
    refine .drawn [] ?_
    cbv
    refine .go [] [] [.bor 1] (addrs hp n1 n2 n3 n4 n5 n6 n7 l') rfl rfl rfl rfl rfl rfl ?_
    rintro r m1 ⟨t2, ht2, rfl, rfl⟩
    cbv
    refine .go [] [] [.bor 1] (lineOf hp n1 n2 n3 n4 n5 n6 n7 _ l' g2 g3) rfl rfl rfl rfl rfl rfl ?_
    rintro r m1 ⟨u3, u4, hu3, hu4, rfl, rfl⟩
    cbv
    have e1 : u1 = -1 := by rw [hu1, hI]; exact line_lo n2 n3 y hW
    have e3 : u3 = -1 := by rw [hu3, ht2, hI]; exact line_hi n2 n3 y g2 g3 hW
    refine br_t (show I.cmp .eql u1 (-1) = true from by rw [e1, hI]; rfl) ?_
    cbv
    refine br_t (show I.cmp .eql u3 (-1) = true from by rw [e3, hI]; rfl) ?_
    cbv
    refine .go [] [] [.bor 1] (homeOf hp n1 n2 n3 n4 n5 n6 n7 _ l' g1.1) rfl rfl rfl rfl rfl rfl ?_
    rintro r m1 ⟨p7, hp7, rfl, rfl⟩
    have e7 : p7 = -1 := by rw [hp7, hI]; exact home_lo n1 y hW
    cbv
    refine br_t (show I.cmp .eql p7 (-1) = true from by rw [e7, hI]; rfl) ?_
    cbv
    refine .go [] [] [.bor 1] (setOf hp n1 n2 n3 n4 n5 n6 n7 (.lit (-1)) l' g4.1) rfl rfl rfl rfl rfl rfl ?_
    rintro r m1 ⟨p8, hp8, rfl, rfl⟩
    have e8 : p8 = -1 := by rw [hp8]; rfl
    cbv
    refine br_t (show I.cmp .eql p8 (-1) = true from by rw [e8, hI]; rfl) ?_
    cbv
    refine .go [] [] [] (wakes hp) rfl rfl rfl rfl rfl rfl ?_
    rintro r m1 ⟨rfl, rfl⟩
    cbv
    exact hP _ _ [] [] _ _ .nil rfl rfl rfl rfl rfl ⟨_, rfl, rfl⟩
end
end Go.Proofs.Ytdfbpdbfiffpbaa.E
