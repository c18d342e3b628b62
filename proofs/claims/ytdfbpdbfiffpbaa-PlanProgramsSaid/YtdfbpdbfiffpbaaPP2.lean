/- PlanPrograms, for a setup of 2 nodes. -/
import Derived.Test.YtdfbpdbfiffpbaaPG2
import Derived.Test.YtdfbpdbfiffpbaaPX
namespace Go.Proofs.Ytdfbpdbfiffpbaa.E
open Go
set_option linter.unusedVariables false
set_option maxRecDepth 100000

section
variable {P : Program} (hp : P = Try.prog)
include hp
set_option maxHeartbeats 32000000 in
theorem pprogs2 (s1 s2 s3 s4 s5 s6 s7 n0 : Int) (l0 W0 K0 A0 V0 : List (List G)) (xs ws ks ax vs : List Int) (h0 : isL .i64 l0 xs) (hW : isL .i64 W0 ws) (hK : isL .i64 K0 ks) (hA : isL .i64 A0 ax) (hV : isL .i64 V0 vs) (hn : (CFof s1 s2 s3 s4 s5 s6 s7 xs).a = 2) :
    LValid P 7 [.agg [.g (.int .i64 (.sym s1)), .g (.int .i64 (.sym s2)), .g (.int .i64 (.sym s3)), .g (.int .i64 (.sym s4)), .g (.int .i64 (.sym s5)), .g (.int .i64 (.sym s6)), .g (.int .i64 (.sym s7)), .g (.rows 1 l0), .g (.rows 1 W0), .g (.rows 1 K0), .g (.rows 1 A0), .g (.rows 1 V0)], gi .i64 n0] [] (fun v _ => ∃ b : BB, b.val = true ∧ v = .one (.c (.g (.bool b)))) := by
  obtain ⟨I, hI⟩ := ref
  have hcE := configE hp s1 s2 s3 s4 s5 s6 s7 l0 W0 K0 A0 V0 xs h0
  have hpr := programs2 hp s1 s2 s3 s4 s5 s6 s7 l0 W0 K0 A0 V0 xs ws ks ax vs h0 hW hK hA hV (.lit 10) (by decide) hn
  have hin := CFof_in s1 s2 s3 s4 s5 s6 s7 xs
  generalize CFof s1 s2 s3 s4 s5 s6 s7 xs = q at hcE hn hpr hin
  have hbd := bad7 q
  have hfl := fill_ok q n0
  have e1 := fun ps h1 h2 => okProgs_good (q := q) (ps := ps) h1 h2
  have e2 := fun ps h1 => okProgs_len (q := q) (ps := ps) h1
  have e3 := fun ps ops o h1 h2 h3 => okProgs_bad (q := q) (ps := ps) ops h1 (bad_op o h2 h3)
  have e4 := fun ps ops h1 h2 => okProgs_bad (q := q) (ps := ps) ops h1 (bad_long h2)
  have hplan := fun hq L LP ps h h1 h2 => planOps hp q hq L LP ps h h1 h2
  generalize okOp q = ok at hpr hbd hfl e1 e3
  generalize okProgs q = okP at e1 e2 e3 e4 hplan
  obtain ⟨qa, qb, qc, qd, qe, qf, qg, ini⟩ := q
  have hn : qa = 2 := hn
  subst hn
  have hin : (1 ≤ qb ∧ qb ≤ 4) ∧ (1 ≤ qc ∧ qc ≤ 2) := hin
  obtain ⟨hb, hc⟩ := hin
  have h9 : ∃ mo : Int, mo = qb * qc ∧ 0 < mo ∧ mo ≤ 8 := ⟨_, rfl, by
    have e : qc = 1 ∨ qc = 2 := by omega
    rcases e with rfl | rfl <;> omega, by
    have e : qc = 1 ∨ qc = 2 := by omega
    rcases e with rfl | rfl <;> omega⟩
  obtain ⟨mo, hmo, hm0, hm8⟩ := h9
  have hbd : ∀ i, i < 7 → ∃ bk ba bv, (rows7 mo)[i]? = some [.int .i64 (.sym bk), .int .i64 (.sym ba), .int .i64 (.sym bv)] ∧ ok ⟨bk, ba, bv⟩ = false := by rw [hmo]; exact hbd
  have hfl : 0 < mo → ∀ o ∈ fill mo n0 24, ok o = true := by rw [hmo]; exact hfl
  have hfl := hfl hm0
  have had := fun L => (addrs hp 2 qb qc qd qe qf qg L).mono (R' := fun v m1 => v = i64 mo ∧ m1 = []) (fun v m1 ⟨t, h1, h2, h3⟩ => ⟨by rw [h2, h1, inB_prod 0 qb qc hb hc, hmo], h3⟩)
  have e1 : ∀ ps : List (List OP), (ps.length : Int) = 2 → (∀ ops ∈ ps, ops.length ≤ 24 ∧ ∀ o ∈ ops, ok o = true) → okP ps = true := e1
  have e2 : ∀ ps : List (List OP), (ps.length : Int) ≠ 2 → okP ps = false := e2
  have hne : ∀ x, I.cmp .neq x x = false := fun x => by rw [hI]; show (x != x) = false; simp
  have heq : ∀ x, I.cmp .eql x x = true := fun x => by rw [hI]; show (x == x) = true; simp
  have hwn := fun t : Int => (within hp (.sym t) (.sym 2)).known (R' := fun v m1 => (v = .one (.c (.g (.int .i64 (.lit 0)))) ∨ v = .one (.c (.g (.int .i64 (.lit 1))))) ∧ m1 = []) (fun v m1 ⟨y, hy, h2, h3⟩ => by
    have h4 := win_in t 2 (by omega) (by omega)
    rw [← show y = win t 2 from hy] at h4
    have h5 : y = 0 ∨ y = 1 := by omega
    rw [h2]
    rcases h5 with rfl | rfl
    · exact ⟨.one (.c (.g (.int .i64 (.lit 0)))), rfl, .inl rfl, h3⟩
    · exact ⟨.one (.c (.g (.int .i64 (.lit 1)))), rfl, (.inr (rfl)), h3⟩)
  refine fn_sim hI (Go.Proofs.Ytdfbpdbfiffpbaa.E.mo hp) (ccj hp c7) fun Post hP => ?_
  cbv
  refine .go [] [] [.bor 1] hcE rfl rfl rfl rfl rfl rfl ?_
  rintro v m1 ⟨hq, L, hL, rfl, rfl⟩
  clear hcE hL
  have hplan := fun LP ps h h1 h2 => hplan hq L LP ps h h1 h2
  have had := had L
  clear hq
  cbv
  refine .go [] [] [] hpr rfl rfl rfl rfl rfl rfl ?_
  rintro v m1 ⟨L0, L1, o0, o1, h0', h1', rfl, rfl⟩
  clear hpr
  have g0 : o0.length ≤ 24 ∧ ∀ o ∈ o0, ok o = true := h0'.2
  have g0l := g0.1
  have g1 : o1.length ≤ 24 ∧ ∀ o ∈ o1, ok o = true := h1'.2
  have g1l := g1.1
  have hpN := (hplan [] [] ⟨rfl, fun i ops h => by simp at h⟩ (by simp) (fun ops h => by simp at h)).mono (R' := fun v m1 => v = i64 1 ∧ m1 = []) (fun v m1 ⟨t, h1, h2, h3⟩ => ⟨by rw [h2, h1, e2 _ (by simp)]; rfl, h3⟩)
  have hp0 := (hplan [[.rows 3 L0], [.rows 3 L1]] [o0, o1] (isPR.isPs (isPR_cons h0'.1 (isPR_cons h1'.1 isPR_nil))) (by simp) (by simp <;> omega)).mono (R' := fun v m1 => v = i64 0 ∧ m1 = []) (fun v m1 ⟨t, h1, h2, h3⟩ => ⟨by rw [h2, h1, e1 _ (by simp) (by simp only [List.forall_mem_cons]; exact ⟨g0, g1, fun o h => by cases h⟩)]; rfl, h3⟩)
  have hp1 := (hplan ([[.rows 3 L0], [.rows 3 L1]] ++ [[.nil]]) ([o0, o1] ++ [[]]) (isPs_snoc (isPR.isPs (isPR_cons h0'.1 (isPR_cons h1'.1 isPR_nil)))) (by simp) (by simp <;> omega)).mono (R' := fun v m1 => v = i64 1 ∧ m1 = []) (fun v m1 ⟨t, h1, h2, h3⟩ => ⟨by rw [h2, h1, e2 _ (by simp)]; rfl, h3⟩)
  cbv
  refine .drawn [] ?_
  cbv
  refine .goR [1, 2] [3, 4] [] [.keep, .bor 1] hp0 rfl rfl rfl (fun v m1 ⟨h1, h2⟩ => by rw [h1]; rfl) ?_
  rintro v m1 ⟨rfl, rfl⟩
  cbv
  refine br_f (hne 0) ?_
  cbv
  refine .goR [1, 2] [3, 4] [] [.keep, .bor 1] hpN rfl rfl rfl (fun v m1 ⟨h1, h2⟩ => by rw [h1]; rfl) ?_
  rintro v m1 ⟨rfl, rfl⟩
  cbv
  refine br_f (hne 1) ?_
  cbv
  refine .most (by decide) (by decide) ?_
  cbv
  refine .goR [1, 6] [3, 4] [] [.keep, .bor 1] hp1 rfl rfl rfl (fun v m1 ⟨h1, h2⟩ => by rw [h1]; rfl) ?_
  rintro v m1 ⟨rfl, rfl⟩
  clear hp0 hp1 hpN
  cbv
  refine br_f (hne 1) ?_
  cbv
  refine .go [] [] [.bor 1] had rfl rfl rfl rfl rfl rfl ?_
  rintro v m1 ⟨rfl, rfl⟩
  clear had
  cbv
  refine .go [] [] [] (hwn _) rfl rfl rfl rfl rfl rfl ?_
  clear hwn
  rintro v m1 ⟨(rfl | rfl), rfl⟩
  · cbv
    refine .loop_next (fun n' ts m => ∃ (i : Nat) (z : Int), n' = 7 - i ∧ isN z i ∧ i ≤ 7 ∧ ts = fr 120 [(1, i64 n0), (5, .one (.c (.ptr 0 (.lit 0) 8 0))), (6, .one (.c (.row 1 1 (some (.lit 2))))), (7, i64 mo), (8, i64 0), (49, .one (.c (.row 4 3 (some (.lit 7))))), (50, i64 7), (51, i64 z)] ∧ m = [.lit 8 [cfg (.sym 2) (.sym qb) (.sym qc) (.sym qd) (.sym qe) (.sym qf) (.sym qg) (.g (.rows 1 L))], .lit 1 [[.row 2 3 none], [.row 3 3 none]], .sym 3 L0, .sym 3 L1, .lit 3 [[.g (.int .i64 (.sym 0)), .g (.int .i64 (.sym 0)), .g (.int .i64 (.sym 0))], [.g (.int .i64 (.sym 5)), .g (.int .i64 (.sym 0)), .g (.int .i64 (.sym 0))], [.g (.int .i64 (.sym (-1))), .g (.int .i64 (.sym 0)), .g (.int .i64 (.sym 0))], [.g (.int .i64 (.sym 1)), .g (.int .i64 (.sym (-1))), .g (.int .i64 (.sym 0))], [.g (.int .i64 (.sym 2)), .g (.int .i64 (.sym mo)), .g (.int .i64 (.sym 0))], [.g (.int .i64 (.sym 1)), .g (.int .i64 (.sym 0)), .g (.int .i64 (.sym 1))], [.g (.int .i64 (.sym 4)), .g (.int .i64 (.sym 0)), .g (.int .i64 (.sym (-1)))]]])
      7 _ _ [1, 2, 3, 4, 7] [] [1, 5, 6, 7, 8, 49, 50, 51] (by decide) rfl rfl rfl ⟨0, 0, rfl, rfl, by omega, rfl, rfl⟩ ?_
    rintro next n1 hnext ts m ⟨i, z, hn1, hz, hi, rfl, rfl⟩
    cbv
    refine .br (fun g => ?_) (fun g => ?_)
    · have hi1 : i < 7 := by
        have g : I.cmp .lss z 7 = true := g
        rw [hI] at g
        have := of_decide_eq_true (show decide (z < 7) = true from g)
        unfold isN at hz
        omega
      have hz1 : isN (I.bin .add .i64 z 1) (i + 1) := by unfold isN at hz ⊢; rw [hI]; simp only [ints, rBin]; rw [wrap_in] <;> omega
      obtain ⟨bk, ba, bv, hrow, hbad⟩ := hbd i hi1
      clear g hbd
      cbv
      refine .idx i hz hi1 ?_
      cbv
      refine .nth _ hrow ?_
      clear hrow
      cbv
      refine .most (by decide) (by decide) ?_
      cbv
      have h8 : isO (I.app L0 [[.int .i64 (.sym bk), .int .i64 (.sym ba), .int .i64 (.sym bv)]]) (o0 ++ [⟨bk, ba, bv⟩]) := by rw [hI]; exact h0'.1.app rfl
      have h81 : I.len (I.app L0 [[.int .i64 (.sym bk), .int .i64 (.sym ba), .int .i64 (.sym bv)]]) ≤ 25 := by
        have h3 := h8.len
        have h4 : I.len (I.app L0 [[.int .i64 (.sym bk), .int .i64 (.sym ba), .int .i64 (.sym bv)]]) = (I.app L0 [[.int .i64 (.sym bk), .int .i64 (.sym ba), .int .i64 (.sym bv)]]).length := by rw [hI]; rfl
        have h5 : (o0 ++ [(⟨bk, ba, bv⟩ : OP)]).length = o0.length + 1 := by simp
        omega
      have h82 : I.len L0 ≤ 24 := by
        have h3 := h0'.1.len
        have h4 : I.len L0 = L0.length := by rw [hI]; rfl
        omega
      refine .join_next (fun ts m => ∃ LX : List (List G), isO LX (o0 ++ [⟨bk, ba, bv⟩]) ∧ ts = fr 120 [(1, i64 n0), (5, .one (.c (.ptr 0 (.lit 0) 8 0))), (6, .one (.c (.row 1 1 (some (.lit 2))))), (7, i64 mo), (8, i64 0), (49, .one (.c (.row 4 3 (some (.lit 7))))), (50, i64 7), (51, i64 z), (11, .one (.c (.row 5 1 none)))] ∧ m = [.lit 8 [cfg (.sym 2) (.sym qb) (.sym qc) (.sym qd) (.sym qe) (.sym qf) (.sym qg) (.g (.rows 1 L))], .lit 1 [[.row 2 3 none], [.row 3 3 none]], .sym 3 L0, .sym 3 L1, .lit 3 [[.g (.int .i64 (.sym 0)), .g (.int .i64 (.sym 0)), .g (.int .i64 (.sym 0))], [.g (.int .i64 (.sym 5)), .g (.int .i64 (.sym 0)), .g (.int .i64 (.sym 0))], [.g (.int .i64 (.sym (-1))), .g (.int .i64 (.sym 0)), .g (.int .i64 (.sym 0))], [.g (.int .i64 (.sym 1)), .g (.int .i64 (.sym (-1))), .g (.int .i64 (.sym 0))], [.g (.int .i64 (.sym 2)), .g (.int .i64 (.sym mo)), .g (.int .i64 (.sym 0))], [.g (.int .i64 (.sym 1)), .g (.int .i64 (.sym 0)), .g (.int .i64 (.sym 1))], [.g (.int .i64 (.sym 4)), .g (.int .i64 (.sym 0)), .g (.int .i64 (.sym (-1)))]], .lit 1 [[.row 6 3 none], [.row 3 3 none]], .sym 3 LX]) ?_ ?_
      · intro next2 hnx
        cbv
        refine .drawn [6] ?_
        cbv
        repeat' first
          | (refine .both ?_ ?_ <;> cbv)
          | (refine .idx 0 rfl (by decide) ?_; cbv)
          | (refine .most (show I.len L0 * 24 ≤ 140737488355328 from by omega) (show I.len L0 ≤ 140737488355328 from by omega) ?_; cbv)
          | (refine .most (show I.len (I.app L0 [[.int .i64 (.sym bk), .int .i64 (.sym ba), .int .i64 (.sym bv)]]) * 24 ≤ 140737488355328 from by omega) (show I.len (I.app L0 [[.int .i64 (.sym bk), .int .i64 (.sym ba), .int .i64 (.sym bv)]]) ≤ 140737488355328 from by omega) ?_; cbv)
        all_goals exact hnx _ _ [0, 1, 2, 3, 4, 6, 9] [] [1, 5, 6, 7, 8, 49, 50, 51, 11] _ _ (by decide) rfl rfl rfl ⟨_, h8, rfl, rfl⟩
      rintro ts m ⟨LX, hLX, rfl, rfl⟩
      have hpl := (hplan [[.rows 3 LX], [.rows 3 L1]] [(o0 ++ [⟨bk, ba, bv⟩]), o1] (isPR.isPs (isPR_cons hLX (isPR_cons h1'.1 isPR_nil))) (by simp) (by simp <;> omega)).mono (R' := fun v m1 => v = i64 1 ∧ m1 = []) (fun v m1 ⟨t, h1, h2, h3⟩ => ⟨by rw [h2, h1, e3 _ (o0 ++ [⟨bk, ba, bv⟩]) ⟨bk, ba, bv⟩ (by simp) (by simp) hbad]; rfl, h3⟩)
      clear h8 h81 h82 hbad
      cbv
      refine .goR [0, 5] [3, 6] [] [.keep, .bor 1] hpl rfl rfl rfl (fun v m1 ⟨h1, h2⟩ => by rw [h1]; rfl) ?_
      rintro v m1 ⟨rfl, rfl⟩
      clear hpl
      cbv
      refine br_f (hne 1) ?_
      cbv
      exact hnext _ _ (7 - (i + 1)) [0, 1, 2, 3, 4] [] [1, 5, 6, 7, 8, 49, 50, 51] _ _ (by omega) (by decide) rfl rfl rfl ⟨i + 1, _, rfl, hz1, hi1, rfl, rfl⟩
    · clear g hnext hz hi hbd
      cbv
      refine .most (by decide) (by decide) ?_
      cbv
      refine .size 24 rfl (by decide) ?_
      cbv
      refine .idx 0 rfl (by decide) ?_
      cbv
      refine .idx 0 rfl (by decide) ?_
      have hf0 : isO (I.rep 24 [.int .i64 (.sym 0), .int .i64 (.sym 0), .int .i64 (.sym 0)]) (fill mo n0 0) := by rw [hI]; exact fill_zero mo n0
      have hl0 : isN (I.ofNat (I.len (I.rep 24 [.int .i64 (.sym 0), .int .i64 (.sym 0), .int .i64 (.sym 0)]))) 24 := by rw [hI]; rfl
      cbv
      refine .loop_next (fun n' ts m => ∃ (i : Nat) (z c : Int) (RL : List (List G)), n' = 24 - i ∧ isN z i ∧ isN c 24 ∧ i ≤ 24 ∧ isO RL (fill mo n0 i) ∧ ts = fr 120 [(1, i64 n0), (5, .one (.c (.ptr 0 (.lit 0) 8 0))), (7, i64 mo), (8, i64 0), (12, .one (.c (.row 2 1 none))), (83, i64 c), (84, i64 z)] ∧ m = [.lit 8 [cfg (.sym 2) (.sym qb) (.sym qc) (.sym qd) (.sym qe) (.sym qf) (.sym qg) (.g (.rows 1 L))], .sym 3 L1, .lit 1 [[.row 3 3 (some (.sym 24))], [.row 1 3 none]], .sym 3 RL])
        24 _ _ [0, 3, 5, 6] [] [1, 5, 7, 8, 12, 83, 84] (by decide) rfl rfl rfl ⟨0, 0, _, _, rfl, rfl, hl0, by omega, hf0, rfl, rfl⟩ ?_
      clear hf0 hl0
      rintro next n1 hnext ts m ⟨i, z, c, RL, hn1, hz, hc24, hi, hRL, rfl, rfl⟩
      cbv
      refine .br (fun g => ?_) (fun g => ?_)
      · have hi1 : i < 24 := by
          have g : I.cmp .lss z c = true := g
          rw [hI] at g
          have := of_decide_eq_true (show decide (z < c) = true from g)
          unfold isN at hz hc24
          omega
        have hz1 : isN (I.bin .add .i64 z 1) (i + 1) := by unfold isN at hz ⊢; rw [hI]; simp only [ints, rBin]; rw [wrap_in] <;> omega
        have hlen := hRL.len
        rw [fill_len] at hlen
        have hil : i < I.len RL := by rw [hI]; show i < RL.length; omega
        have h9 : ∃ r, RL[i]? = some r := ⟨_, List.getElem?_eq_getElem (by omega)⟩
        obtain ⟨r, hr⟩ := h9
        have hrl : 3 ≤ r.length := by
          have h3 := hRL.get (fill_get mo n0 i i hi1)
          rw [hr] at h3
          rw [Option.some.inj h3]
          exact Nat.le_refl 3
        have hset : isO (I.set RL i [.int .i64 (.sym 3), .int .i64 (.sym (I.bin .rem .i64 z mo)), .int .i64 (.sym n0)]) (fill mo n0 (i + 1)) := by
          rw [← fill_step mo n0 i hi1]
          have hzi : z = (i : Int) := hz
          have e : I.bin .rem .i64 z mo = (i : Int).tmod mo := by rw [hI, hzi]; rfl
          rw [e, hI]
          unfold isO at hRL ⊢
          rw [hRL]
          show (List.map OP.row (fill mo n0 i)).set i _ = _
          rw [List.map_set]
          rfl
        have hmo0 : mo ≠ 0 := by omega
        have h9 : ∃ ra rb rc rt, r = ra :: rb :: rc :: rt := by
          match r, hrl with
          | ra :: rb :: rc :: rt, _ => exact ⟨ra, rb, rc, rt, rfl⟩
        obtain ⟨ra, rb, rc, rt, rfl⟩ := h9
        have hrt : rt = [] := by
          have h3 := hRL.get (fill_get mo n0 i i hi1)
          rw [hr] at h3
          have h4 := congrArg List.length (Option.some.inj h3)
          have h5 : (OP.row (if i < i then ⟨3, (i : Int).tmod mo, n0⟩ else ⟨0, 0, 0⟩)).length = 3 := rfl
          rw [h5] at h4
          exact List.eq_nil_of_length_eq_zero (by simpa using h4)
        subst hrt
        clear g hlen hrl hRL
        cbv
        refine .drawn [3] ?_
        cbv
        repeat' first
          | (refine .both ?_ ?_ <;> cbv)
          | (refine .idx 0 rfl (by decide) ?_; cbv)
          | (refine .nz hmo0 ?_; cbv)
          | (refine .idx i hz hil ?_; cbv)
          | (refine .nth _ hr ?_; cbv)
        all_goals exact hnext _ _ (24 - (i + 1)) [0, 1, 2, 3] [] [1, 5, 7, 8, 12, 83, 84] _ _ (by omega) (by decide) rfl rfl rfl ⟨i + 1, _, c, _, rfl, hz1, hc24, hi1, hset, rfl, rfl⟩
      · have hi24 : i = 24 := by
          have g : I.cmp .lss z c = false := g
          rw [hI] at g
          have := of_decide_eq_false (show decide (z < c) = false from g)
          unfold isN at hz hc24
          omega
        rw [hi24] at hRL
        have hRl := hRL.len
        rw [fill_len] at hRl
        have hpl := (hplan [[.rows 3 RL], [.rows 3 L1]] [fill mo n0 24, o1] (isPR.isPs (isPR_cons hRL (isPR_cons h1'.1 isPR_nil))) (by simp) (by simp [fill_len] <;> omega)).mono (R' := fun v m1 => v = i64 0 ∧ m1 = []) (fun v m1 ⟨t, h1, h2, h3⟩ => ⟨by rw [h2, h1, e1 _ (by simp) (by simp only [List.forall_mem_cons]; exact ⟨⟨by rw [fill_len]; decide, hfl⟩, g1, fun o h => by cases h⟩)]; rfl, h3⟩)
        have hA2 : isO (I.app RL [[.int .i64 (.sym 1), .int .i64 (.sym 0), .int .i64 (.sym 0)]]) (fill mo n0 24 ++ [⟨1, 0, 0⟩]) := by rw [hI]; exact hRL.app rfl
        have hA2l : I.len (I.app RL [[.int .i64 (.sym 1), .int .i64 (.sym 0), .int .i64 (.sym 0)]]) = 25 := by
          have h3 := hA2.len
          have h4 : I.len (I.app RL [[.int .i64 (.sym 1), .int .i64 (.sym 0), .int .i64 (.sym 0)]]) = (I.app RL [[.int .i64 (.sym 1), .int .i64 (.sym 0), .int .i64 (.sym 0)]]).length := by rw [hI]; rfl
          have h5 : (fill mo n0 24 ++ [(⟨1, 0, 0⟩ : OP)]).length = 25 := by rw [List.length_append, fill_len]; rfl
          omega
        have hpl2 := fun RX hRX => (hplan [[.rows 3 RX], [.rows 3 L1]] [(fill mo n0 24 ++ [⟨1, 0, 0⟩]), o1] (isPR.isPs (isPR_cons hRX (isPR_cons h1'.1 isPR_nil))) (by simp) (by simp [fill_len] <;> omega)).mono (R' := fun v m1 => v = i64 1 ∧ m1 = []) (fun v m1 ⟨t, h1, h2, h3⟩ => ⟨by rw [h2, h1, e4 _ (fill mo n0 24 ++ [⟨1, 0, 0⟩]) (by simp) (by rw [List.length_append, fill_len]; decide)]; rfl, h3⟩)
        have hpl2 := hpl2 _ hA2
        clear g hnext hz hi hn1 hc24 hi24
        cbv
        refine .goR [0, 2] [1, 3] [] [.keep, .bor 1] hpl rfl rfl rfl (fun v m1 ⟨h1, h2⟩ => by rw [h1]; rfl) ?_
        rintro v m1 ⟨rfl, rfl⟩
        clear hpl
        cbv
        refine br_f (hne 0) ?_
        cbv
        refine .idx 0 rfl (by decide) ?_
        cbv
        refine .most (show I.len (I.app RL [[.int .i64 (.sym 1), .int .i64 (.sym 0), .int .i64 (.sym 0)]]) * 24 ≤ 140737488355328 from by omega) (show I.len (I.app RL [[.int .i64 (.sym 1), .int .i64 (.sym 0), .int .i64 (.sym 0)]]) ≤ 140737488355328 from by omega) ?_
        cbv
        refine .idx 0 rfl (by decide) ?_
        cbv
        refine .goR [0, 2] [1, 5] [] [.keep, .bor 1] hpl2 rfl rfl rfl (fun v m1 ⟨h1, h2⟩ => by rw [h1]; rfl) ?_
        rintro v m1 ⟨rfl, rfl⟩
        clear hpl2
        cbv
        refine br_t (heq 1) ?_
        cbv
        refine .go [] [] [] (wakes hp) rfl rfl rfl rfl rfl rfl ?_
        rintro v m1 ⟨rfl, rfl⟩
        cbv
        exact hP _ _ [] [] _ _ .nil rfl rfl rfl rfl rfl ⟨_, rfl, rfl⟩
  · cbv
    refine .loop_next (fun n' ts m => ∃ (i : Nat) (z : Int), n' = 7 - i ∧ isN z i ∧ i ≤ 7 ∧ ts = fr 120 [(1, i64 n0), (5, .one (.c (.ptr 0 (.lit 0) 8 0))), (6, .one (.c (.row 1 1 (some (.lit 2))))), (7, i64 mo), (8, i64 1), (49, .one (.c (.row 4 3 (some (.lit 7))))), (50, i64 7), (51, i64 z)] ∧ m = [.lit 8 [cfg (.sym 2) (.sym qb) (.sym qc) (.sym qd) (.sym qe) (.sym qf) (.sym qg) (.g (.rows 1 L))], .lit 1 [[.row 2 3 none], [.row 3 3 none]], .sym 3 L0, .sym 3 L1, .lit 3 [[.g (.int .i64 (.sym 0)), .g (.int .i64 (.sym 0)), .g (.int .i64 (.sym 0))], [.g (.int .i64 (.sym 5)), .g (.int .i64 (.sym 0)), .g (.int .i64 (.sym 0))], [.g (.int .i64 (.sym (-1))), .g (.int .i64 (.sym 0)), .g (.int .i64 (.sym 0))], [.g (.int .i64 (.sym 1)), .g (.int .i64 (.sym (-1))), .g (.int .i64 (.sym 0))], [.g (.int .i64 (.sym 2)), .g (.int .i64 (.sym mo)), .g (.int .i64 (.sym 0))], [.g (.int .i64 (.sym 1)), .g (.int .i64 (.sym 0)), .g (.int .i64 (.sym 1))], [.g (.int .i64 (.sym 4)), .g (.int .i64 (.sym 0)), .g (.int .i64 (.sym (-1)))]]])
      7 _ _ [1, 2, 3, 4, 7] [] [1, 5, 6, 7, 8, 49, 50, 51] (by decide) rfl rfl rfl ⟨0, 0, rfl, rfl, by omega, rfl, rfl⟩ ?_
    rintro next n1 hnext ts m ⟨i, z, hn1, hz, hi, rfl, rfl⟩
    cbv
    refine .br (fun g => ?_) (fun g => ?_)
    · have hi1 : i < 7 := by
        have g : I.cmp .lss z 7 = true := g
        rw [hI] at g
        have := of_decide_eq_true (show decide (z < 7) = true from g)
        unfold isN at hz
        omega
      have hz1 : isN (I.bin .add .i64 z 1) (i + 1) := by unfold isN at hz ⊢; rw [hI]; simp only [ints, rBin]; rw [wrap_in] <;> omega
      obtain ⟨bk, ba, bv, hrow, hbad⟩ := hbd i hi1
      clear g hbd
      cbv
      refine .idx i hz hi1 ?_
      cbv
      refine .nth _ hrow ?_
      clear hrow
      cbv
      refine .most (by decide) (by decide) ?_
      cbv
      have h8 : isO (I.app L1 [[.int .i64 (.sym bk), .int .i64 (.sym ba), .int .i64 (.sym bv)]]) (o1 ++ [⟨bk, ba, bv⟩]) := by rw [hI]; exact h1'.1.app rfl
      have h81 : I.len (I.app L1 [[.int .i64 (.sym bk), .int .i64 (.sym ba), .int .i64 (.sym bv)]]) ≤ 25 := by
        have h3 := h8.len
        have h4 : I.len (I.app L1 [[.int .i64 (.sym bk), .int .i64 (.sym ba), .int .i64 (.sym bv)]]) = (I.app L1 [[.int .i64 (.sym bk), .int .i64 (.sym ba), .int .i64 (.sym bv)]]).length := by rw [hI]; rfl
        have h5 : (o1 ++ [(⟨bk, ba, bv⟩ : OP)]).length = o1.length + 1 := by simp
        omega
      have h82 : I.len L1 ≤ 24 := by
        have h3 := h1'.1.len
        have h4 : I.len L1 = L1.length := by rw [hI]; rfl
        omega
      refine .join_next (fun ts m => ∃ LX : List (List G), isO LX (o1 ++ [⟨bk, ba, bv⟩]) ∧ ts = fr 120 [(1, i64 n0), (5, .one (.c (.ptr 0 (.lit 0) 8 0))), (6, .one (.c (.row 1 1 (some (.lit 2))))), (7, i64 mo), (8, i64 1), (49, .one (.c (.row 4 3 (some (.lit 7))))), (50, i64 7), (51, i64 z), (11, .one (.c (.row 5 1 none)))] ∧ m = [.lit 8 [cfg (.sym 2) (.sym qb) (.sym qc) (.sym qd) (.sym qe) (.sym qf) (.sym qg) (.g (.rows 1 L))], .lit 1 [[.row 2 3 none], [.row 3 3 none]], .sym 3 L0, .sym 3 L1, .lit 3 [[.g (.int .i64 (.sym 0)), .g (.int .i64 (.sym 0)), .g (.int .i64 (.sym 0))], [.g (.int .i64 (.sym 5)), .g (.int .i64 (.sym 0)), .g (.int .i64 (.sym 0))], [.g (.int .i64 (.sym (-1))), .g (.int .i64 (.sym 0)), .g (.int .i64 (.sym 0))], [.g (.int .i64 (.sym 1)), .g (.int .i64 (.sym (-1))), .g (.int .i64 (.sym 0))], [.g (.int .i64 (.sym 2)), .g (.int .i64 (.sym mo)), .g (.int .i64 (.sym 0))], [.g (.int .i64 (.sym 1)), .g (.int .i64 (.sym 0)), .g (.int .i64 (.sym 1))], [.g (.int .i64 (.sym 4)), .g (.int .i64 (.sym 0)), .g (.int .i64 (.sym (-1)))]], .lit 1 [[.row 2 3 none], [.row 6 3 none]], .sym 3 LX]) ?_ ?_
      · intro next2 hnx
        cbv
        refine .drawn [6] ?_
        cbv
        repeat' first
          | (refine .both ?_ ?_ <;> cbv)
          | (refine .idx 1 rfl (by decide) ?_; cbv)
          | (refine .most (show I.len L1 * 24 ≤ 140737488355328 from by omega) (show I.len L1 ≤ 140737488355328 from by omega) ?_; cbv)
          | (refine .most (show I.len (I.app L1 [[.int .i64 (.sym bk), .int .i64 (.sym ba), .int .i64 (.sym bv)]]) * 24 ≤ 140737488355328 from by omega) (show I.len (I.app L1 [[.int .i64 (.sym bk), .int .i64 (.sym ba), .int .i64 (.sym bv)]]) ≤ 140737488355328 from by omega) ?_; cbv)
        all_goals exact hnx _ _ [0, 1, 2, 3, 4, 6, 9] [] [1, 5, 6, 7, 8, 49, 50, 51, 11] _ _ (by decide) rfl rfl rfl ⟨_, h8, rfl, rfl⟩
      rintro ts m ⟨LX, hLX, rfl, rfl⟩
      have hpl := (hplan [[.rows 3 L0], [.rows 3 LX]] [o0, (o1 ++ [⟨bk, ba, bv⟩])] (isPR.isPs (isPR_cons h0'.1 (isPR_cons hLX isPR_nil))) (by simp) (by simp <;> omega)).mono (R' := fun v m1 => v = i64 1 ∧ m1 = []) (fun v m1 ⟨t, h1, h2, h3⟩ => ⟨by rw [h2, h1, e3 _ (o1 ++ [⟨bk, ba, bv⟩]) ⟨bk, ba, bv⟩ (by simp) (by simp) hbad]; rfl, h3⟩)
      clear h8 h81 h82 hbad
      cbv
      refine .goR [0, 5] [2, 6] [] [.keep, .bor 1] hpl rfl rfl rfl (fun v m1 ⟨h1, h2⟩ => by rw [h1]; rfl) ?_
      rintro v m1 ⟨rfl, rfl⟩
      clear hpl
      cbv
      refine br_f (hne 1) ?_
      cbv
      exact hnext _ _ (7 - (i + 1)) [0, 1, 2, 3, 4] [] [1, 5, 6, 7, 8, 49, 50, 51] _ _ (by omega) (by decide) rfl rfl rfl ⟨i + 1, _, rfl, hz1, hi1, rfl, rfl⟩
    · clear g hnext hz hi hbd
      cbv
      refine .most (by decide) (by decide) ?_
      cbv
      refine .size 24 rfl (by decide) ?_
      cbv
      refine .idx 1 rfl (by decide) ?_
      cbv
      refine .idx 1 rfl (by decide) ?_
      have hf0 : isO (I.rep 24 [.int .i64 (.sym 0), .int .i64 (.sym 0), .int .i64 (.sym 0)]) (fill mo n0 0) := by rw [hI]; exact fill_zero mo n0
      have hl0 : isN (I.ofNat (I.len (I.rep 24 [.int .i64 (.sym 0), .int .i64 (.sym 0), .int .i64 (.sym 0)]))) 24 := by rw [hI]; rfl
      cbv
      refine .loop_next (fun n' ts m => ∃ (i : Nat) (z c : Int) (RL : List (List G)), n' = 24 - i ∧ isN z i ∧ isN c 24 ∧ i ≤ 24 ∧ isO RL (fill mo n0 i) ∧ ts = fr 120 [(1, i64 n0), (5, .one (.c (.ptr 0 (.lit 0) 8 0))), (7, i64 mo), (8, i64 1), (12, .one (.c (.row 2 1 none))), (83, i64 c), (84, i64 z)] ∧ m = [.lit 8 [cfg (.sym 2) (.sym qb) (.sym qc) (.sym qd) (.sym qe) (.sym qf) (.sym qg) (.g (.rows 1 L))], .sym 3 L0, .lit 1 [[.row 1 3 none], [.row 3 3 (some (.sym 24))]], .sym 3 RL])
        24 _ _ [0, 2, 5, 6] [] [1, 5, 7, 8, 12, 83, 84] (by decide) rfl rfl rfl ⟨0, 0, _, _, rfl, rfl, hl0, by omega, hf0, rfl, rfl⟩ ?_
      clear hf0 hl0
      rintro next n1 hnext ts m ⟨i, z, c, RL, hn1, hz, hc24, hi, hRL, rfl, rfl⟩
      cbv
      refine .br (fun g => ?_) (fun g => ?_)
      · have hi1 : i < 24 := by
          have g : I.cmp .lss z c = true := g
          rw [hI] at g
          have := of_decide_eq_true (show decide (z < c) = true from g)
          unfold isN at hz hc24
          omega
        have hz1 : isN (I.bin .add .i64 z 1) (i + 1) := by unfold isN at hz ⊢; rw [hI]; simp only [ints, rBin]; rw [wrap_in] <;> omega
        have hlen := hRL.len
        rw [fill_len] at hlen
        have hil : i < I.len RL := by rw [hI]; show i < RL.length; omega
        have h9 : ∃ r, RL[i]? = some r := ⟨_, List.getElem?_eq_getElem (by omega)⟩
        obtain ⟨r, hr⟩ := h9
        have hrl : 3 ≤ r.length := by
          have h3 := hRL.get (fill_get mo n0 i i hi1)
          rw [hr] at h3
          rw [Option.some.inj h3]
          exact Nat.le_refl 3
        have hset : isO (I.set RL i [.int .i64 (.sym 3), .int .i64 (.sym (I.bin .rem .i64 z mo)), .int .i64 (.sym n0)]) (fill mo n0 (i + 1)) := by
          rw [← fill_step mo n0 i hi1]
          have hzi : z = (i : Int) := hz
          have e : I.bin .rem .i64 z mo = (i : Int).tmod mo := by rw [hI, hzi]; rfl
          rw [e, hI]
          unfold isO at hRL ⊢
          rw [hRL]
          show (List.map OP.row (fill mo n0 i)).set i _ = _
          rw [List.map_set]
          rfl
        have hmo0 : mo ≠ 0 := by omega
        have h9 : ∃ ra rb rc rt, r = ra :: rb :: rc :: rt := by
          match r, hrl with
          | ra :: rb :: rc :: rt, _ => exact ⟨ra, rb, rc, rt, rfl⟩
        obtain ⟨ra, rb, rc, rt, rfl⟩ := h9
        have hrt : rt = [] := by
          have h3 := hRL.get (fill_get mo n0 i i hi1)
          rw [hr] at h3
          have h4 := congrArg List.length (Option.some.inj h3)
          have h5 : (OP.row (if i < i then ⟨3, (i : Int).tmod mo, n0⟩ else ⟨0, 0, 0⟩)).length = 3 := rfl
          rw [h5] at h4
          exact List.eq_nil_of_length_eq_zero (by simpa using h4)
        subst hrt
        clear g hlen hrl hRL
        cbv
        refine .drawn [3] ?_
        cbv
        repeat' first
          | (refine .both ?_ ?_ <;> cbv)
          | (refine .idx 1 rfl (by decide) ?_; cbv)
          | (refine .nz hmo0 ?_; cbv)
          | (refine .idx i hz hil ?_; cbv)
          | (refine .nth _ hr ?_; cbv)
        all_goals exact hnext _ _ (24 - (i + 1)) [0, 1, 2, 3] [] [1, 5, 7, 8, 12, 83, 84] _ _ (by omega) (by decide) rfl rfl rfl ⟨i + 1, _, c, _, rfl, hz1, hc24, hi1, hset, rfl, rfl⟩
      · have hi24 : i = 24 := by
          have g : I.cmp .lss z c = false := g
          rw [hI] at g
          have := of_decide_eq_false (show decide (z < c) = false from g)
          unfold isN at hz hc24
          omega
        rw [hi24] at hRL
        have hRl := hRL.len
        rw [fill_len] at hRl
        have hpl := (hplan [[.rows 3 L0], [.rows 3 RL]] [o0, fill mo n0 24] (isPR.isPs (isPR_cons h0'.1 (isPR_cons hRL isPR_nil))) (by simp) (by simp [fill_len] <;> omega)).mono (R' := fun v m1 => v = i64 0 ∧ m1 = []) (fun v m1 ⟨t, h1, h2, h3⟩ => ⟨by rw [h2, h1, e1 _ (by simp) (by simp only [List.forall_mem_cons]; exact ⟨g0, ⟨by rw [fill_len]; decide, hfl⟩, fun o h => by cases h⟩)]; rfl, h3⟩)
        have hA2 : isO (I.app RL [[.int .i64 (.sym 1), .int .i64 (.sym 0), .int .i64 (.sym 0)]]) (fill mo n0 24 ++ [⟨1, 0, 0⟩]) := by rw [hI]; exact hRL.app rfl
        have hA2l : I.len (I.app RL [[.int .i64 (.sym 1), .int .i64 (.sym 0), .int .i64 (.sym 0)]]) = 25 := by
          have h3 := hA2.len
          have h4 : I.len (I.app RL [[.int .i64 (.sym 1), .int .i64 (.sym 0), .int .i64 (.sym 0)]]) = (I.app RL [[.int .i64 (.sym 1), .int .i64 (.sym 0), .int .i64 (.sym 0)]]).length := by rw [hI]; rfl
          have h5 : (fill mo n0 24 ++ [(⟨1, 0, 0⟩ : OP)]).length = 25 := by rw [List.length_append, fill_len]; rfl
          omega
        have hpl2 := fun RX hRX => (hplan [[.rows 3 L0], [.rows 3 RX]] [o0, (fill mo n0 24 ++ [⟨1, 0, 0⟩])] (isPR.isPs (isPR_cons h0'.1 (isPR_cons hRX isPR_nil))) (by simp) (by simp [fill_len] <;> omega)).mono (R' := fun v m1 => v = i64 1 ∧ m1 = []) (fun v m1 ⟨t, h1, h2, h3⟩ => ⟨by rw [h2, h1, e4 _ (fill mo n0 24 ++ [⟨1, 0, 0⟩]) (by simp) (by rw [List.length_append, fill_len]; decide)]; rfl, h3⟩)
        have hpl2 := hpl2 _ hA2
        clear g hnext hz hi hn1 hc24 hi24
        cbv
        refine .goR [0, 2] [1, 3] [] [.keep, .bor 1] hpl rfl rfl rfl (fun v m1 ⟨h1, h2⟩ => by rw [h1]; rfl) ?_
        rintro v m1 ⟨rfl, rfl⟩
        clear hpl
        cbv
        refine br_f (hne 0) ?_
        cbv
        refine .idx 1 rfl (by decide) ?_
        cbv
        refine .most (show I.len (I.app RL [[.int .i64 (.sym 1), .int .i64 (.sym 0), .int .i64 (.sym 0)]]) * 24 ≤ 140737488355328 from by omega) (show I.len (I.app RL [[.int .i64 (.sym 1), .int .i64 (.sym 0), .int .i64 (.sym 0)]]) ≤ 140737488355328 from by omega) ?_
        cbv
        refine .idx 1 rfl (by decide) ?_
        cbv
        refine .goR [0, 2] [1, 5] [] [.keep, .bor 1] hpl2 rfl rfl rfl (fun v m1 ⟨h1, h2⟩ => by rw [h1]; rfl) ?_
        rintro v m1 ⟨rfl, rfl⟩
        clear hpl2
        cbv
        refine br_t (heq 1) ?_
        cbv
        refine .go [] [] [] (wakes hp) rfl rfl rfl rfl rfl rfl ?_
        rintro v m1 ⟨rfl, rfl⟩
        cbv
        exact hP _ _ [] [] _ _ .nil rfl rfl rfl rfl rfl ⟨_, rfl, rfl⟩
end
end Go.Proofs.Ytdfbpdbfiffpbaa.E
