/- Contracts: a line's words, a home's rows: made, told, set, listed. -/
import Derived.Test.YtdfbpdbfiffpbaaML
namespace Go.Proofs.Ytdfbpdbfiffpbaa.E
open Go
set_option linter.unusedVariables false
set_option maxRecDepth 100000

/-- A configuration that is handed in, its first words lent. -/
def CF.arg (q : CF) (L : List (List G)) : V1 := .agg (q.cells (.bor 1 L))
theorem cpyW (w from_ : Nat) (ini : List Int) : ints.cpy (ints.rep w [.int .i64 (.sym 0)]) 0 w ((nrow .i64 ini).drop from_) = nrow .i64 ((ini.drop from_).take w ++ List.replicate (w - ((ini.drop from_).take w).length) 0) := by
  show (List.replicate w _).take 0 ++ ((nrow .i64 ini).drop from_).take w ++ (List.replicate w _).drop (0 + min w ((nrow .i64 ini).drop from_).length) = _
  unfold nrow
  rw [List.take_zero, List.nil_append, List.map_append, List.map_take, List.map_drop, List.drop_replicate, Nat.zero_add]
  simp only [List.length_drop, List.length_map, List.length_take, List.map_replicate]
theorem drop_min {α : Type} (l : List α) (n : Nat) : l.drop (min n l.length) = l.drop n := by
  by_cases h : n ≤ l.length
  · rw [Nat.min_eq_left h]
  · rw [Nat.min_eq_right (by omega), List.drop_length, List.drop_of_length_le (by omega)]
section
variable {P : Program} (hp : P = Try.prog)
include hp
theorem words (q : CF) (hq : q.ok) (L : List (List G)) (hL : isL .i64 L q.ini) (zl : Z) (i : Nat) (hi : isN zl.val i) (hib : (i : Int) < q.b) : LValid P 19 [q.arg L, .c (.g (.int .i64 zl))] [] (fun v m1 => ∃ W, isL .i64 W (wordsL q.ini q.c.toNat i) ∧ v = .one (.c (.g (.rows 1 W))) ∧ m1 = []) := by
  refine LValid.sy ?_
  show LValid P 19 [q.arg L, .c (.g (.int .i64 (.sym zl.val)))] [] _
  generalize zl.val = z at hi
  obtain ⟨I, hI⟩ := ref
  obtain ⟨qa, qb, qc, qd, qe, qf, qg, ini⟩ := q
  obtain ⟨-, hb, hc, -, hini, -⟩ := hq
  have hb : 1 ≤ qb ∧ qb ≤ 4 := hb
  have hc : 1 ≤ qc ∧ qc ≤ 2 := hc
  have hib : (i : Int) < qb := hib
  have hini : ini.length ≤ 8 := hini
  have hL : isL .i64 L ini := hL
  have hneg : I.cmp .lss z 0 = false := by
    unfold isN at hi
    rw [hI, hi]
    show decide ((i : Int) < 0) = false
    exact decide_eq_false (by omega)
  have hbig : I.cmp .geq z qb = false := by
    unfold isN at hi
    rw [hI, hi]
    show decide ((i : Int) ≥ qb) = false
    exact decide_eq_false (by omega)
  obtain ⟨w, hw⟩ : ∃ w : Nat, qc = w := ⟨qc.toNat, by omega⟩
  have hwN : isN qc w := hw
  have hw8 : w * 8 ≤ 140737488355328 := by omega
  have hwt : qc.toNat = w := by omega
  have hLl : I.len L = ini.length := by rw [hI]; exact hL.len
  have hi3 : i ≤ 3 := by omega
  obtain ⟨fr_, hfr⟩ : ∃ f, f = min (i * w) ini.length := ⟨_, rfl⟩
  have hmin : isN (I.mn (I.bin .mul .i64 z qc) (I.ofNat (I.len L))) fr_ := by
    unfold isN at hi ⊢
    rw [hLl, hI, hi, hw]
    have e : ints.bin .mul .i64 (i : Int) (w : Int) = ((i * w : Nat) : Int) := by
      show IntKind.i64.wrap ((i : Int) * (w : Int)) = _
      have : i * w ≤ 3 * 2 := Nat.mul_le_mul hi3 (by omega)
      rw [wrap_in] <;> push_cast <;> omega
    rw [e, hfr]
    show (if ((ini.length : Nat) : Int) < ((i * w : Nat) : Int) then ((ini.length : Nat) : Int) else ((i * w : Nat) : Int)) = _
    split <;> omega
  have hfl : fr_ ≤ I.len L := by rw [hLl, hfr]; exact Nat.min_le_right _ _
  have hW : isL .i64 (I.cpy (I.rep w [.int .i64 (.sym 0)]) 0 w (I.ext L fr_ (I.len L))) (wordsL ini qc.toNat i) := by
    rw [hwt, hLl, hI]
    unfold isL at hL ⊢
    rw [hL]
    show ints.cpy _ 0 w (((nrow .i64 ini).take ini.length).drop fr_) = _
    rw [List.take_of_length_le (by simp [nrow]), cpyW, hfr, drop_min]
    rfl
  refine LValid.post hI (R := fun v m1 => ∃ W, isL .i64 W (wordsL ini qc.toNat i) ∧ v = .one (.c (.row 0 1 (some (.sym w)))) ∧ m1 = [.sym 1 W]) ?_ (fun v m1 h => ?_)
  · have hrl : I.len (I.rep w [.int .i64 (.sym 0)]) = w := by rw [hI]; simp [ints]
    rw [← hrl] at hW
    have hW : isL .i64 (I.cpy (I.rep w [.int .i64 (.sym 0)]) 0 (I.len (I.rep w [.int .i64 (.sym 0)])) (I.ext L fr_ (I.len L))) (wordsL ini qc.toNat i) := by
      rw [hrl] at hW ⊢
      exact hW
    generalize wordsL ini qc.toNat i = ws at hW
    clear hwt hw hfr hib
    refine fn_sim hI (mo hp) (cc hp c19) fun Post hP => ?_
    cbv
    refine br_f hneg ?_
    cbv
    refine br_f hbig ?_
    cbv
    refine .size w hwN hw8 ?_
    cbv
    refine .rng fr_ (I.len L) hmin rfl hfl (Nat.le_refl _) ?_
    cbv
    exact hP _ _ [1] [] _ _ (by decide) rfl rfl rfl rfl rfl ⟨_, hW, rfl, rfl⟩
  · obtain ⟨W, hW, rfl, rfl⟩ := h
    exact ⟨[], [0], .nil, rfl, rfl, fun id blk h => by simp [invMem] at h, W, hW, rfl, rfl⟩
end
end Go.Proofs.Ytdfbpdbfiffpbaa.E
