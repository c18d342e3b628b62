/- Contracts: plan, play.Config. -/
import Derived.Test.YtdfbpdbfiffpbaaQA
namespace Go.Proofs.Ytdfbpdbfiffpbaa.E
open Go
set_option linter.unusedVariables false
set_option maxRecDepth 100000

/-- A configuration's cells. -/
def cfg (a b c d e f g : Z) (x : C) : List C := [.g (.int .i64 a), .g (.int .i64 b), .g (.int .i64 c), .g (.int .i64 d), .g (.int .i64 e), .g (.int .i64 f), .g (.int .i64 g), x]
/-- A number's rest, -1 for one below 0. -/
def rst (v n : Int) : Int := if v < 0 then -1 else v.tmod n
section
variable {P : Program} (hp : P = Try.prog)
include hp
theorem cut8 (l : List (List G)) (z : Z) (n : Nat) (hz : isN z.val n) (h8 : n ≤ 8) : LValid P 13 [.c (.bor 1 l), .c (.g (.int .i64 z))] [] (fun v m1 => ∃ l', l' = l.take n ∧ v = .one (.c (.row 0 1 none)) ∧ m1 = [.sym 1 l']) := by
  refine LValid.sy ?_
  show LValid P 13 [.c (.bor 1 l), .c (.g (.int .i64 (.sym z.val)))] [] _
  generalize z.val = z at hz
  obtain ⟨I, hI⟩ := ref
  refine fn_sim hI (mo hp) (cc hp c13) fun Post hP => ?_
  cbv
  obtain ⟨q, hq⟩ : ∃ q, q = min n l.length := ⟨_, rfl⟩
  refine .rng 0 q rfl ?_ (Nat.zero_le _) (by rw [hI, hq]; exact Nat.min_le_right _ _) ?_
  · unfold isN at hz
    simp [hI, ints, hz, hq]
    split <;> omega
  cbv
  have hl' : (I.ext l 0 q).length * 8 ≤ 140737488355328 := by
    rw [hI, hq]
    simp [ints]
    omega
  generalize hx : I.ext l 0 q = l' at hl'
  refine .go [] [] [] (copy hp l' hl') rfl rfl rfl rfl ?_ rfl ?_
  · rw [← hx]
    rfl
  rintro v m1 ⟨rfl, rfl⟩
  cbv
  exact hP _ _ [0] [] _ _ (by decide) rfl rfl rfl rfl rfl ⟨l', by rw [← hx, hI, hq]; simp [ints, List.take_eq_take_iff], rfl, rfl⟩
theorem addrs (a b c d e f g : Int) (l : List (List G)) : LValid P 15 [.agg (cfg (.sym a) (.sym b) (.sym c) (.sym d) (.sym e) (.sym f) (.sym g) (.bor 1 l))] [] (fun v m1 => ∃ t, t = IntKind.i64.wrap (b * c) ∧ v = i64 t ∧ m1 = []) := by
  obtain ⟨I, hI⟩ := ref
  refine fn_sim hI (mo hp) (cc hp c15) fun Post hP => ?_
  cbv
  exact hP _ _ [] [] _ _ .nil rfl rfl rfl rfl rfl ⟨_, by rw [hI]; rfl, rfl, rfl⟩
theorem prest (v n : Int) (hn : 0 < n) : LValid P 29 [.c (.g (.int .i64 (.sym v))), .c (.g (.int .i64 (.sym n)))] [] (fun r m1 => ∃ t, t = rst v n ∧ r = i64 t ∧ m1 = []) := by
  refine nx (LValid.num ?_)
  obtain ⟨I, hI⟩ := ref
  refine fn_sim hI (mo hp) (cc hp c29) fun Post hP => ?_
  cbv
  refine .br (fun h => ?_) (fun h => ?_)
  · have h' : v < 0 := by simpa [hI, ints, rCmp] using h
    cbv
    exact hP _ _ [] [] _ _ .nil rfl rfl rfl rfl rfl ⟨_, rfl, by show (-1 : Int) = rst v n; unfold rst; rw [if_pos h'], rfl⟩
  · have h' : ¬ v < 0 := by simpa [hI, ints, rCmp] using h
    cbv
    refine .nz (by omega) ?_
    cbv
    exact hP _ _ [] [] _ _ .nil rfl rfl rfl rfl rfl ⟨_, rfl, by show I.bin .rem .i64 v n = rst v n; unfold rst; rw [if_neg h', hI]; rfl, rfl⟩
theorem homeOf (a b c d e f g v : Int) (l : List (List G)) (ha : 1 ≤ a) : LValid P 17 [.agg (cfg (.sym a) (.sym b) (.sym c) (.sym d) (.sym e) (.sym f) (.sym g) (.bor 1 l)), .c (.g (.int .i64 (.sym v)))] [] (fun r m1 => ∃ t, t = rst v a ∧ r = i64 t ∧ m1 = []) := by
  obtain ⟨I, hI⟩ := ref
  refine fn_sim hI (mo hp) (cc hp c17) fun Post hP => ?_
  cbv
  refine .go [] [] [] (prest hp v a (by omega)) rfl rfl rfl rfl rfl rfl ?_
  rintro r m1 ⟨t, ht, rfl, rfl⟩
  cbv
  exact hP _ _ [] [] _ _ .nil rfl rfl rfl rfl rfl ⟨_, ht, rfl, rfl⟩
theorem setOf (a b c d e f g : Int) (v : Z) (l : List (List G)) (ha : 1 ≤ d) : LValid P 18 [.agg (cfg (.sym a) (.sym b) (.sym c) (.sym d) (.sym e) (.sym f) (.sym g) (.bor 1 l)), .c (.g (.int .i64 v))] [] (fun r m1 => ∃ t, t = rst v.val d ∧ r = i64 t ∧ m1 = []) := by
  refine LValid.sy ?_
  show LValid P 18 [.agg (cfg (.sym a) (.sym b) (.sym c) (.sym d) (.sym e) (.sym f) (.sym g) (.bor 1 l)), .c (.g (.int .i64 (.sym v.val)))] [] _
  generalize v.val = v
  obtain ⟨I, hI⟩ := ref
  refine fn_sim hI (mo hp) (cc hp c18) fun Post hP => ?_
  cbv
  refine .go [] [] [] (prest hp v d (by omega)) rfl rfl rfl rfl rfl rfl ?_
  rintro r m1 ⟨t, ht, rfl, rfl⟩
  cbv
  exact hP _ _ [] [] _ _ .nil rfl rfl rfl rfl rfl ⟨_, ht, rfl, rfl⟩
omit hp in
theorem inB_prod (v b c : Int) (hb : 1 ≤ b ∧ b ≤ 4) (hc : 1 ≤ c ∧ c ≤ 2) : IntKind.i64.wrap (b * c) = b * c := by
  have h1 : 0 ≤ b * c := Int.mul_nonneg (by omega) (by omega)
  have h2 : b * c ≤ 4 * 2 := Int.mul_le_mul hb.2 hc.2 (by omega) (by omega)
  rw [wrap_in] <;> omega
omit hp in
theorem inc_in (v n : Int) (h : 0 < n) (hn : n ≤ 4611686018427387904) : 1 ≤ ints.bin .add .i64 1 (win v n) ∧ ints.bin .add .i64 1 (win v n) ≤ n := by
  obtain ⟨h1, h2⟩ := win_in v n h hn
  have : ints.bin .add .i64 1 (win v n) = IntKind.i64.wrap (1 + win v n) := rfl
  rw [this, wrap_in] <;> omega
omit hp in
theorem mul_in (x y : Int) (hx : 1 ≤ x ∧ x ≤ 4) (hy : 1 ≤ y ∧ y ≤ 2) : ∃ n, isN (ints.bin .mul .i64 x y) n ∧ n ≤ 8 := by
  refine ⟨(x * y).toNat, ?_, ?_⟩
  rotate_left
  · have h2 : x * y ≤ 4 * 2 := Int.mul_le_mul hx.2 hy.2 (by omega) (by omega)
    omega
  have h1 : 0 ≤ x * y := Int.mul_nonneg (by omega) (by omega)
  have h2 : x * y ≤ 4 * 2 := Int.mul_le_mul hx.2 hy.2 (by omega) (by omega)
  have : ints.bin .mul .i64 x y = IntKind.i64.wrap (x * y) := rfl
  unfold isN
  rw [this, wrap_in] <;> omega
omit hp in
theorem quo_in (v b c : Int) (hb : 1 ≤ b ∧ b ≤ 4) (hc : 1 ≤ c ∧ c ≤ 2) (h : ¬ v < 0) (h3 : ¬ b * c ≤ v) : ints.bin .quo .i64 v c = v.tdiv c := by
  have h1 : b * c ≤ 4 * 2 := Int.mul_le_mul hb.2 hc.2 (by omega) (by omega)
  have h2 : v.tdiv c = v / c := Int.tdiv_eq_ediv_of_nonneg (by omega)
  have h4 : 0 ≤ v / c := Int.ediv_nonneg (by omega) (by omega)
  have h5 : v / c ≤ v := Int.ediv_le_self _ (by omega)
  have : ints.bin .quo .i64 v c = IntKind.i64.wrap (v.tdiv c) := rfl
  rw [this, h2, wrap_in] <;> omega
/-- A line and a word of an address. -/
def lnW (b c v : Int) : Int × Int := if v < 0 ∨ b * c ≤ v then (-1, 0) else (v.tdiv c, v.tmod c)
theorem lineOf (a b c d e f g v : Int) (l : List (List G)) (hb : 1 ≤ b ∧ b ≤ 4) (hc : 1 ≤ c ∧ c ≤ 2) : LValid P 16 [.agg (cfg (.sym a) (.sym b) (.sym c) (.sym d) (.sym e) (.sym f) (.sym g) (.bor 1 l)), .c (.g (.int .i64 (.sym v)))] [] (fun r m1 => ∃ t u, t = (lnW b c v).1 ∧ u = (lnW b c v).2 ∧ r = .tup [.c (.g (.int .i64 (.sym t))), .c (.g (.int .i64 (.sym u)))] ∧ m1 = []) := by
  refine LValid.syv (R := fun r m1 => ∃ t u : Z, t.val = (lnW b c v).1 ∧ u.val = (lnW b c v).2 ∧ r = .tup [.c (.g (.int .i64 t)), .c (.g (.int .i64 u))] ∧ m1 = []) ?_ (fun r m1 ⟨t, u, h1, h2, h3, h4⟩ => ⟨_, _, h1, h2, by rw [h3]; rfl, h4⟩)
  obtain ⟨I, hI⟩ := ref
  refine fn_sim hI (mo hp) (cc hp c16) fun Post hP => ?_
  cbv
  refine .br (fun h => ?_) (fun h => ?_)
  · have h' : v < 0 := by simpa [hI, ints, rCmp] using h
    have e : lnW b c v = (-1, 0) := by unfold lnW; rw [if_pos (.inl h')]
    cbv
    exact hP _ _ [] [] _ _ .nil rfl rfl rfl rfl rfl ⟨.lit (-1), .lit 0, by rw [e]; rfl, by rw [e]; rfl, rfl, rfl⟩
  · have h' : ¬ v < 0 := by simpa [hI, ints, rCmp] using h
    cbv
    refine .go [] [] [.bor 1] (addrs hp a b c d e f g l) rfl rfl rfl rfl rfl rfl ?_
    rintro r m1 ⟨t, ht, rfl, rfl⟩
    have ht : t = b * c := by rw [ht]; exact inB_prod v b c hb hc
    cbv
    refine .br (fun h2 => ?_) (fun h2 => ?_)
    · have h3 : b * c ≤ v := by
        have : rCmp .geq v t = true := by rw [hI] at h2; exact h2
        rw [ht] at this
        simpa [rCmp] using this
      have e : lnW b c v = (-1, 0) := by unfold lnW; rw [if_pos (.inr h3)]
      cbv
      exact hP _ _ [] [] _ _ .nil rfl rfl rfl rfl rfl ⟨.lit (-1), .lit 0, by rw [e]; rfl, by rw [e]; rfl, rfl, rfl⟩
    · have h3 : ¬ b * c ≤ v := by
        have : rCmp .geq v t = false := by rw [hI] at h2; exact h2
        rw [ht] at this
        simpa [rCmp] using this
      have e : lnW b c v = (v.tdiv c, v.tmod c) := by unfold lnW; rw [if_neg (fun h => h.elim h' h3)]
      cbv
      refine .drawn [] ?_
      cbv
      refine .nz (by omega) ?_
      cbv
      refine .nz (by omega) ?_
      cbv
      exact hP _ _ [] [] _ _ .nil rfl rfl rfl rfl rfl ⟨_, _, by rw [e, hI]; exact quo_in v b c hb hc h' h3, by rw [e, hI]; rfl, rfl, rfl⟩
set_option maxHeartbeats 4000000 in
theorem config (a b c d e f g : Int) (l l1 l2 l3 l4 : List (List G)) : LValid P 12 [.agg [.g (.int .i64 (.sym a)), .g (.int .i64 (.sym b)), .g (.int .i64 (.sym c)), .g (.int .i64 (.sym d)), .g (.int .i64 (.sym e)), .g (.int .i64 (.sym f)), .g (.int .i64 (.sym g)), .bor 1 l, .bor 1 l1, .bor 1 l2, .bor 1 l3, .bor 1 l4]] []
    (fun v m1 => ∃ (n1 n2 n3 n4 n5 n6 n7 : Int) (l' : List (List G)), (1 ≤ n1 ∧ n1 ≤ 4) ∧ (1 ≤ n2 ∧ n2 ≤ 4) ∧ (1 ≤ n3 ∧ n3 ≤ 2) ∧ (1 ≤ n4 ∧ n4 ≤ 2) ∧ v = .one (.agg (cfg (.sym n1) (.sym n2) (.sym n3) (.sym n4) (.sym n5) (.sym n6) (.sym n7) (.row 0 1 none))) ∧ m1 = [.sym 1 l']) := by
  obtain ⟨I, hI⟩ := ref
  refine fn_sim hI (mo hp) (cc hp c12) fun Post hP => ?_
  cbv
  refine .drawn [] ?_
  repeat' first
    | (refine .both ?_ ?_)
    | (refine .go [] [] [] (within hp _ _) rfl rfl rfl rfl rfl rfl ?_; rintro r m1 ⟨y, hy, rfl, rfl⟩; cbv)
  all_goals
    rename_i y1 h1 y2 h2 y3 h3 y4 h4 y5 h5 y6 h6
    as_aux_lemma =>
      have q1 := inc_in a 4 (by omega) (by omega)
      have q2 := inc_in b 4 (by omega) (by omega)
      have q3 := inc_in c 2 (by omega) (by omega)
      have q4 := inc_in d 2 (by omega) (by omega)
      rw [← show y1 = win a 4 from h1, ← hI] at q1
      rw [← show y2 = win b 4 from h2, ← hI] at q2
      rw [← show y3 = win c 2 from h3, ← hI] at q3
      rw [← show y4 = win d 2 from h4, ← hI] at q4
      obtain ⟨n, hn, hn8⟩ : ∃ n, isN (I.bin .mul .i64 (I.bin .add .i64 1 y2) (I.bin .add .i64 1 y3)) n ∧ n ≤ 8 := by
        have := mul_in _ _ q2 q3
        rw [← hI] at this
        exact this
      refine .go [] [] [.bor 1, .keep] (cut8 hp l (.sym _) n hn hn8) rfl rfl rfl rfl rfl rfl ?_
      rintro r m1 ⟨l', hl', rfl, rfl⟩
      cbv
      exact hP _ _ [3] [] _ _ (by decide) rfl rfl rfl rfl rfl ⟨_, _, _, _, _, _, _, l', q1, q2, q3, q4, rfl, rfl⟩
end
end Go.Proofs.Ytdfbpdbfiffpbaa.E
