/- Contracts: a line's words, a home's rows: made, told, set, listed. -/
import Derived.Test.YthkkodmidnpmeaaML
namespace Go.Proofs.Ythkkodmidnpmeaa.E
open Go
set_option linter.unusedVariables false
set_option maxRecDepth 100000

/-- A configuration that is handed in, its first words lent. -/
def CF.arg (q : CF) (L : List (List G)) : V1 := .agg (q.cells (.bor 1 L))
theorem cpyW (w from_ : Nat) (ini : List Int) : ints.cpy (ints.rep w [.int .i64 (.sym 0)]) 0 w ((nrow .i64 ini).drop from_) = nrow .i64 ((ini.drop from_).take w ++ List.replicate (w - ((ini.drop from_).take w).length) 0) := by
  show (List.replicate w _).take 0 ++ ((nrow .i64 ini).drop from_).take w ++ (List.replicate w _).drop (0 + min w ((nrow .i64 ini).drop from_).length) = _
  unfold nrow
  rw [List.take_zero, List.nil_append, List.map_append, List.map_take, List.map_drop, List.drop_replicate, Nat.zero_add]
  simp only [List.length_drop, List.length_map, List.length_take, List.map_replicate]
theorem drop_min {α : Type} (l : List α) (n : Nat) : l.drop (min n l.length) = l.drop n := by
  by_cases h : n ≤ l.length
  · rw [Nat.min_eq_left h]
  · rw [Nat.min_eq_right (by omega), List.drop_length, List.drop_of_length_le (by omega)]
section
variable {P : Program} (hp : P = Try.prog)
include hp
theorem cloneI (l : List (List G)) (hl : l.length * 8 ≤ 140737488355328) : LValid P 23 [.c (.bor 1 l)] [] (fun v m1 => v = .one (.c (.row 0 1 none)) ∧ m1 = [.sym 1 l]) := by
  refine LValid.own (R := fun v m1 => (v = .one (.c (.row 0 1 none)) ∧ m1 = [.sym 1 l]) ∨ (v = .one (.c (.g .nil)) ∧ m1 = [] ∧ l = [])) 1 ?_ (fun v m1 h => h.imp id (fun ⟨h1, h2, h3⟩ => ⟨h1, by rw [h2, h3]; exact ⟨rfl, rfl⟩⟩))
  obtain ⟨I, hI⟩ := ref
  refine fn_sim hI (mo hp) (cc hp c23) fun Post hP => ?_
  cbv
  refine .isnil (fun h => ?_) ?_
  · cbv
    exact hP _ _ [] [] _ _ .nil rfl rfl rfl rfl rfl (.inr ⟨rfl, rfl, h⟩)
  · cbv
    refine .most (by simpa [hI, ints] using hl) (by simp [hI, ints]; omega) ?_
    cbv
    exact hP _ _ [1] [] _ _ (by decide) rfl rfl rfl rfl rfl (.inl ⟨rfl, by rw [hI]; rfl⟩)
theorem cloneF (l : List (List G)) (hl : l.length * 8 ≤ 140737488355328) : LValid P 23 [.c (.bor 1 l)] [] (fun v m1 => v = .one (.c (.g (.rows 1 l))) ∧ m1 = []) := by
  obtain ⟨I, hI⟩ := ref
  refine LValid.post hI (cloneI hp l hl) (fun v m1 h => ?_)
  obtain ⟨rfl, rfl⟩ := h
  exact ⟨[], [0], .nil, rfl, rfl, fun id blk h => by simp [invMem] at h, rfl, rfl⟩
theorem words (q : CF) (hq : q.ok) (L : List (List G)) (hL : isL .i64 L q.ini) (zl : Z) (i : Nat) (hi : isN zl.val i) (hib : (i : Int) < q.b) : LValid P 22 [q.arg L, .c (.g (.int .i64 zl))] [] (fun v m1 => ∃ W, isL .i64 W (wordsL q.ini q.c.toNat i) ∧ v = .one (.c (.g (.rows 1 W))) ∧ m1 = []) := by
  refine LValid.sy ?_
  show LValid P 22 [q.arg L, .c (.g (.int .i64 (.sym zl.val)))] [] _
  generalize zl.val = z at hi
  obtain ⟨I, hI⟩ := ref
  obtain ⟨qa, qb, qc, qd, qe, qf, qg, ini⟩ := q
  obtain ⟨-, hb, hc, -, hini, -⟩ := hq
  have hb : 1 ≤ qb ∧ qb ≤ 4 := hb
  have hc : 1 ≤ qc ∧ qc ≤ 2 := hc
  have hib : (i : Int) < qb := hib
  have hini : ini.length ≤ 8 := hini
  have hL : isL .i64 L ini := hL
  have hneg : I.cmp .lss z 0 = false := by
    unfold isN at hi
    rw [hI, hi]
    show decide ((i : Int) < 0) = false
    exact decide_eq_false (by omega)
  have hbig : I.cmp .geq z qb = false := by
    unfold isN at hi
    rw [hI, hi]
    show decide ((i : Int) ≥ qb) = false
    exact decide_eq_false (by omega)
  obtain ⟨w, hw⟩ : ∃ w : Nat, qc = w := ⟨qc.toNat, by omega⟩
  have hwN : isN qc w := hw
  have hw8 : w * 8 ≤ 140737488355328 := by omega
  have hwt : qc.toNat = w := by omega
  have hLl : I.len L = ini.length := by rw [hI]; exact hL.len
  have hi3 : i ≤ 3 := by omega
  obtain ⟨fr_, hfr⟩ : ∃ f, f = min (i * w) ini.length := ⟨_, rfl⟩
  have hmin : isN (I.mn (I.bin .mul .i64 z qc) (I.ofNat (I.len L))) fr_ := by
    unfold isN at hi ⊢
    rw [hLl, hI, hi, hw]
    have e : ints.bin .mul .i64 (i : Int) (w : Int) = ((i * w : Nat) : Int) := by
      show IntKind.i64.wrap ((i : Int) * (w : Int)) = _
      have : i * w ≤ 3 * 2 := Nat.mul_le_mul hi3 (by omega)
      rw [wrap_in] <;> push_cast <;> omega
    rw [e, hfr]
    show (if ((ini.length : Nat) : Int) < ((i * w : Nat) : Int) then ((ini.length : Nat) : Int) else ((i * w : Nat) : Int)) = _
    split <;> omega
  have hfl : fr_ ≤ I.len L := by rw [hLl, hfr]; exact Nat.min_le_right _ _
  have hW : isL .i64 (I.cpy (I.rep w [.int .i64 (.sym 0)]) 0 w (I.ext L fr_ (I.len L))) (wordsL ini qc.toNat i) := by
    rw [hwt, hLl, hI]
    unfold isL at hL ⊢
    rw [hL]
    show ints.cpy _ 0 w (((nrow .i64 ini).take ini.length).drop fr_) = _
    rw [List.take_of_length_le (by simp [nrow]), cpyW, hfr, drop_min]
    rfl
  refine LValid.post hI (R := fun v m1 => ∃ W, isL .i64 W (wordsL ini qc.toNat i) ∧ v = .one (.c (.row 0 1 (some (.sym w)))) ∧ m1 = [.sym 1 W]) ?_ (fun v m1 h => ?_)
  · have hrl : I.len (I.rep w [.int .i64 (.sym 0)]) = w := by rw [hI]; simp [ints]
    rw [← hrl] at hW
    have hW : isL .i64 (I.cpy (I.rep w [.int .i64 (.sym 0)]) 0 (I.len (I.rep w [.int .i64 (.sym 0)])) (I.ext L fr_ (I.len L))) (wordsL ini qc.toNat i) := by
      rw [hrl] at hW ⊢
      exact hW
    generalize wordsL ini qc.toNat i = ws at hW
    clear hwt hw hfr hib
    refine fn_sim hI (mo hp) (cc hp c22) fun Post hP => ?_
    cbv
    refine br_f hneg ?_
    cbv
    refine br_f hbig ?_
    cbv
    refine .size w hwN hw8 ?_
    cbv
    refine .rng fr_ (I.len L) hmin rfl hfl (Nat.le_refl _) ?_
    cbv
    exact hP _ _ [1] [] _ _ (by decide) rfl rfl rfl rfl rfl ⟨_, hW, rfl, rfl⟩
  · obtain ⟨W, hW, rfl, rfl⟩ := h
    exact ⟨[], [0], .nil, rfl, rfl, fun id blk h => by simp [invMem] at h, W, hW, rfl, rfl⟩
set_option maxHeartbeats 4000000 in
theorem mnew (q : CF) (hq : q.ok) (L : List (List G)) (hL : isL .i64 L q.ini) (zn : Z) : LValid P 8 [q.told L, .c (.g (.int .i64 zn))] [] (fun v m1 => ∃ M, isD M (dir0 q.ini q.a q.c zn.val q.b.toNat) ∧ v = .one (.c (.ptr 0 (.lit 0) 9 0)) ∧ m1 = [dirB q L, .mp (some 3) M]) := by
  refine LValid.sy ?_
  show LValid P 8 [q.told L, .c (.g (.int .i64 (.sym zn.val)))] [] _
  generalize zn.val = node
  obtain ⟨I, hI⟩ := ref
  have hq0 := hq
  obtain ⟨qa, qb, qc, qd, qe, qf, qg, ini⟩ := q
  obtain ⟨ha, hb, hc, -, hini, -⟩ := hq
  have ha : 1 ≤ qa ∧ qa ≤ 4 := ha
  have ha1 : 1 ≤ qa := ha.1
  have hb : 1 ≤ qb ∧ qb ≤ 4 := hb
  obtain ⟨bn, hbn⟩ : ∃ bn : Nat, isN qb bn := ⟨qb.toNat, by unfold isN; omega⟩
  have hbt : qb.toNat = bn := by unfold isN at hbn; omega
  show LValid P _ _ [] (fun v m1 => ∃ M, isD M (dir0 ini qa qc node qb.toNat) ∧ v = .one (.c (.ptr 0 (.lit 0) 9 0)) ∧ m1 = [dirB ⟨qa, qb, qc, qd, qe, qf, qg, ini⟩ L, .mp (some 3) M])
  rw [hbt]
  refine fn_sim hI (mo hp) (cc hp c8) fun Post hP => ?_
  cbv
  refine .loop_next (fun n ts m => ∃ (i : Nat) (z : Int) (M : List (List G)), n = bn - i ∧ isN z i ∧ i ≤ bn ∧ isD M (dir0 ini qa qc node i) ∧
      ts = fr 32 [(1, i64 node), (2, .one (.c (.ptr 0 (.lit 0) 8 0))), (5, .one (.c (.ptr 2 (.lit 0) 9 0))), (12, i64 qb), (13, i64 z)] ∧
      m = [.lit 8 [cfg (.sym qa) (.sym qb) (.sym qc) (.sym qd) (.sym qe) (.sym qf) (.sym qg) (.g (.rows 1 L))], .mp (some 3) M, .lit 9 [cfg (.sym qa) (.sym qb) (.sym qc) (.sym qd) (.sym qe) (.sym qf) (.sym qg) (.g (.rows 1 L)) ++ [.map 1]]])
    bn _ _ [0, 1, 2] [] [1, 2, 5, 12, 13] (by decide) rfl rfl rfl ⟨0, 0, [], rfl, rfl, Nat.zero_le _, fun z => by unfold dir0; rw [if_neg (by omega)]; rfl, rfl, rfl⟩ ?_
  rintro next n hnext ts m ⟨i, z, M, hn, hz, hi, hM, rfl, rfl⟩
  cbv
  refine .br (fun g1 => ?_) (fun g1 => ?_)
  · have hi1 : i < bn := by
      have : z < qb := by simpa [hI, ints, rCmp] using g1
      unfold isN at hz hbn
      omega
    have hib : (i : Int) < qb := by unfold isN at hbn; omega
    have hz1 : isN (I.bin .add .i64 z 1) (i + 1) := by unfold isN at hz hbn ⊢; rw [hI]; simp only [ints, rBin]; rw [wrap_in] <;> omega
    have hrst : rst z qa = (i : Int).tmod qa := by unfold isN at hz; rw [hz]; unfold rst; rw [if_neg (by omega)]
    have hstep := dir0_step ini qa qc node i
    have hyes : rst z qa = node → ∀ W, isL .i64 W (wordsL ini qc.toNat i) → isD (I.mset M z [.int .i64 (.sym z), .int .i64 (.sym 0), .int .i64 (.sym (-1)), .rows 1 W]) (dir0 ini qa qc node (i + 1)) := fun h W hW => by
      rw [← hstep, ← hrst]
      have hz : z = (i : Int) := hz
      have := hM.put z ⟨0, -1, wordsL ini qc.toNat i⟩
      unfold isL at hW
      rw [hI, hW]
      refine fun y => (this y).trans ?_
      congr 1
      show (if y = z then _ else _) = if rst z qa = node ∧ y = ↑i then _ else _
      rw [← hz]
      by_cases e : y = z
      · rw [if_pos e, if_pos ⟨h, e⟩]
      · rw [if_neg e, if_neg (fun h => e h.2)]
    have hno : rst z qa ≠ node → isD M (dir0 ini qa qc node (i + 1)) := fun h => by
      rw [← hstep, ← hrst]
      refine fun y => (hM y).trans ?_
      congr 1
      show _ = if rst z qa = node ∧ y = ↑i then _ else _
      rw [if_neg (fun h' => h h'.1)]
    clear hstep hrst
    clear g1
    have hwords := words hp ⟨qa, qb, qc, qd, qe, qf, qg, ini⟩ hq0 L hL (.sym z) i hz hib
    clear hib
    cbv
    refine .go [] [] [.bor 1] (homeOf hp qa qb qc qd qe qf qg z L ha1) rfl rfl rfl rfl rfl rfl ?_
    rintro v m1 ⟨t, ht, rfl, rfl⟩
    cbv
    refine .br (fun g2 => ?_) (fun g2 => ?_)
    · have h2 : rst z qa = node := by
        have : t = node := by simpa [hI, ints, rCmp] using g2
        rw [← ht]; exact this
      replace hyes := hyes h2
      clear hno g2 ht
      cbv
      refine .drawn [1] ?_
      cbv
      refine .go [] [] [.bor 1] hwords rfl rfl rfl rfl rfl rfl ?_
      rintro v m1 ⟨W, hW, rfl, rfl⟩
      have h3 := hyes W hW
      clear hyes hwords
      cbv
      exact hnext _ _ (bn - (i + 1)) [0, 1, 2] [] [1, 2, 5, 12, 13] _ _ (by omega) (by decide) rfl rfl rfl ⟨i + 1, _, _, rfl, hz1, hi1, h3, rfl, rfl⟩
    · have h2 : rst z qa ≠ node := by
        have : t ≠ node := by simpa [hI, ints, rCmp] using g2
        rw [← ht]; exact this
      replace hno := hno h2
      clear hyes hwords g2 ht
      cbv
      exact hnext _ _ (bn - (i + 1)) [0, 1, 2] [] [1, 2, 5, 12, 13] _ _ (by omega) (by decide) rfl rfl rfl ⟨i + 1, _, _, rfl, hz1, hi1, hno, rfl, rfl⟩
  · have hi1 : i = bn := by
      have : ¬ z < qb := by simpa [hI, ints, rCmp] using g1
      unfold isN at hz hbn
      omega
    subst hi1
    cbv
    exact hP _ _ [2, 1] [] _ _ (by decide) rfl rfl rfl rfl rfl ⟨M, hM, rfl, rfl⟩
end
end Go.Proofs.Ythkkodmidnpmeaa.E
