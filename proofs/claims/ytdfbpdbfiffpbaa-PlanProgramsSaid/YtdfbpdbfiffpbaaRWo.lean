/- Contract: the document's own words of a line. -/
import Derived.Test.YtdfbpdbfiffpbaaMC
namespace Go.Proofs.Ytdfbpdbfiffpbaa.E
open Go
set_option linter.unusedVariables false
set_option maxRecDepth 100000

section
variable {P : Program} (hp : P = Try.prog)
include hp
set_option maxHeartbeats 4000000 in
theorem rwords (q : CF) (hq : q.ok) (L : List (List G)) (hL : isL .i64 L q.ini) (zl : Z) (i : Nat) (hi : isN zl.val i) (hib : (i : Int) < q.b) : LValid P 23 [q.arg L, .c (.g (.int .i64 zl))] [] (fun v m1 => ∃ W, isL .i64 W (wordsL q.ini q.c.toNat i) ∧ v = .one (.c (.g (.rows 1 W))) ∧ m1 = []) := by
  refine LValid.sy ?_
  show LValid P 23 [q.arg L, .c (.g (.int .i64 (.sym zl.val)))] [] _
  generalize zl.val = z at hi
  obtain ⟨I, hI⟩ := ref
  obtain ⟨qa, qb, qc, qd, qe, qf, qg, ini⟩ := q
  obtain ⟨-, hb, hc, -, hini, -⟩ := hq
  have hb : 1 ≤ qb ∧ qb ≤ 4 := hb
  have hc : 1 ≤ qc ∧ qc ≤ 2 := hc
  have hib : (i : Int) < qb := hib
  have hini : ini.length ≤ 8 := hini
  have hL : isL .i64 L ini := hL
  have hneg : I.cmp .lss z 0 = false := by
    unfold isN at hi
    rw [hI, hi]
    show decide ((i : Int) < 0) = false
    exact decide_eq_false (by omega)
  have hbig : I.cmp .geq z qb = false := by
    unfold isN at hi
    rw [hI, hi]
    show decide ((i : Int) ≥ qb) = false
    exact decide_eq_false (by omega)
  obtain ⟨cn, hcn, hct⟩ : ∃ cn : Nat, isN qc cn ∧ qc.toNat = cn := ⟨qc.toNat, by unfold isN; omega, rfl⟩
  have hc2 : cn ≤ 2 := by unfold isN at hcn; omega
  have hi3 : i ≤ 3 := by omega
  have hLl : I.len L = ini.length := by rw [hI]; exact hL.len
  show LValid P _ _ [] (fun v m1 => ∃ W, isL .i64 W (wordsL ini qc.toNat i) ∧ v = .one (.c (.g (.rows 1 W))) ∧ m1 = [])
  rw [hct]
  refine LValid.post hI (R := fun v m1 => ∃ W, isL .i64 W (wordsL ini cn i) ∧ v = .one (.c (.row 0 1 none)) ∧ m1 = [.sym 1 W]) ?_ (fun v m1 h => ?_)
  · clear hct hib hb hc
    refine fn_sim hI (mo hp) (cc hp c23) fun Post hP => ?_
    cbv
    refine br_f hneg ?_
    cbv
    refine br_f hbig ?_
    cbv
    refine .own 5 1 rfl ?_
    refine .loop_next (fun n ts m => ∃ (j : Nat) (zj : Int) (W : List (List G)), n = cn - j ∧ isN zj j ∧ j ≤ cn ∧ isL .i64 W ((wordsL ini cn i).take j) ∧
        ts = fr 44 [(1, i64 z), (2, .one (.c (.ptr 0 (.lit 0) 8 0))), (5, .one (.c (.row 1 1 none))), (6, i64 zj)] ∧ m = [.lit 8 [cfg (.sym qa) (.sym qb) (.sym qc) (.sym qd) (.sym qe) (.sym qf) (.sym qg) (.bor 1 L)], .sym 1 W])
      cn _ _ [0, 1] [] [1, 2, 5, 6] (by decide) rfl rfl rfl ⟨0, 0, [], rfl, rfl, Nat.zero_le _, rfl, rfl, rfl⟩ ?_
    rintro next n hnext ts m ⟨j, zj, W, hn, hzj, hj, hW, rfl, rfl⟩
    cbv
    refine .br (fun g1 => ?_) (fun g1 => ?_)
    · have hj1 : j < cn := by
        have : zj < qc := by simpa [hI, ints, rCmp] using g1
        unfold isN at hzj hcn
        omega
      have hzj1 : isN (I.bin .add .i64 zj 1) (j + 1) := by unfold isN at hzj ⊢; rw [hI]; simp only [ints, rBin]; rw [wrap_in] <;> omega
      have h9 : ∃ pl, pl = i * cn + j ∧ pl ≤ 100 := ⟨_, rfl, by
        have : i * cn ≤ 3 * 2 := Nat.mul_le_mul hi3 hc2
        omega⟩
      obtain ⟨pl, hpl, hpl100⟩ := h9
      have hplN : isN (I.bin .add .i64 (I.bin .mul .i64 z qc) zj) pl := by
        unfold isN at hi hcn hzj ⊢
        rw [hi, hcn, hzj, hI]
        have hlc : i * cn ≤ 3 * 2 := Nat.mul_le_mul hi3 hc2
        show IntKind.i64.wrap (IntKind.i64.wrap ((i : Int) * (cn : Int)) + (j : Int)) = _
        have e : ((i : Int) * (cn : Int)) = ((i * cn : Nat) : Int) := (Int.natCast_mul i cn).symm
        rw [e, wrap_in ((i * cn : Nat) : Int) (by omega) (by omega), wrap_in _ (by omega) (by omega), hpl]
        exact (Int.natCast_add _ _).symm
      have hdg : (wordsL ini cn i)[j]? = some ((ini[pl]?).getD 0) := by rw [hpl]; exact wordsL_get ini cn i j hj1
      have hcmp : ∀ t, I.cmp .lss (I.bin .add .i64 (I.bin .mul .i64 z qc) zj) (I.ofNat (I.len L)) = t → decide (pl < ini.length) = t := fun t h => by
        unfold isN at hplN
        rw [hplN, hLl, hI] at h
        have h : decide ((pl : Int) < (ini.length : Int)) = t := h
        rw [← h]
        by_cases hh : pl < ini.length
        · rw [decide_eq_true hh, decide_eq_true (by omega)]
        · rw [decide_eq_false hh, decide_eq_false (by omega)]
      have h9 : ∃ v, v = (ini[pl]?).getD 0 := ⟨_, rfl⟩
      obtain ⟨v, hv⟩ := h9
      rw [← hv] at hdg
      have hap : ∀ u, u = v → isL .i64 (I.app W [[.int .i64 (.sym u)]]) ((wordsL ini cn i).take (j + 1)) ∧ I.len (I.app W [[.int .i64 (.sym u)]]) ≤ 3 := fun u hu => by
        have h1 : isL .i64 (I.app W [[.int .i64 (.sym u)]]) ((wordsL ini cn i).take (j + 1)) := by
          rw [List.take_add_one, hdg, hu, hI]
          unfold isL at hW ⊢
          rw [hW]
          simp [nrow, ints]
        refine ⟨h1, ?_⟩
        have h2 := h1.len
        rw [hI] at h2 ⊢
        refine Nat.le_trans (Nat.le_of_eq h2) ?_
        rw [List.length_take]
        omega
      clear g1 hdg hpl hW
      cbv
      refine .br (fun g2 => ?_) (fun g2 => ?_)
      · have hp1 : pl < ini.length := of_decide_eq_true (hcmp _ g2)
        have hri : L[pl]? = some [.int .i64 (.sym v)] := by rw [hL.get, List.getElem?_eq_getElem hp1, hv, List.getElem?_eq_getElem hp1]; rfl
        have hpl2 : pl < I.len L := by rw [hLl]; exact hp1
        obtain ⟨h3, h4⟩ := hap v rfl
        clear g2 hcmp hv hap
        cbv
        refine .idx pl hplN hpl2 (.nth _ hri ?_)
        cbv
        refine .most (show I.len (I.app W [[.int .i64 (.sym v)]]) * 8 ≤ 140737488355328 from by omega) (show I.len (I.app W [[.int .i64 (.sym v)]]) ≤ 140737488355328 from by omega) ?_
        cbv
        exact hnext _ _ (cn - (j + 1)) [0, 3] [] [1, 2, 5, 6] _ _ (by omega) (by decide) rfl rfl rfl ⟨j + 1, _, _, rfl, hzj1, hj1, h3, rfl, rfl⟩
      · have hp1 : ¬ pl < ini.length := of_decide_eq_false (hcmp _ g2)
        have hv0 : (0 : Int) = v := by rw [hv, List.getElem?_eq_none (by omega)]; rfl
        obtain ⟨h3, h4⟩ := hap 0 hv0
        clear g2 hcmp hv hap hv0
        cbv
        refine .most (show I.len (I.app W [[.int .i64 (.sym 0)]]) * 8 ≤ 140737488355328 from by omega) (show I.len (I.app W [[.int .i64 (.sym 0)]]) ≤ 140737488355328 from by omega) ?_
        cbv
        exact hnext _ _ (cn - (j + 1)) [0, 3] [] [1, 2, 5, 6] _ _ (by omega) (by decide) rfl rfl rfl ⟨j + 1, _, _, rfl, hzj1, hj1, h3, rfl, rfl⟩
    · have hj1 : j = cn := by
        have : ¬ zj < qc := by simpa [hI, ints, rCmp] using g1
        unfold isN at hzj hcn
        omega
      have hW : isL .i64 W (wordsL ini cn i) := by
        rw [hj1, List.take_of_length_le (by rw [wordsL_len]; exact Nat.le_refl _)] at hW
        exact hW
      clear hnext g1
      cbv
      exact hP _ _ [1] [] _ _ (by decide) rfl rfl rfl rfl rfl ⟨W, hW, rfl, rfl⟩
  · obtain ⟨W, hW, rfl, rfl⟩ := h
    exact ⟨[], [0], .nil, rfl, rfl, fun id blk h => by simp [invMem] at h, W, hW, rfl, rfl⟩
end
end Go.Proofs.Ytdfbpdbfiffpbaa.E
