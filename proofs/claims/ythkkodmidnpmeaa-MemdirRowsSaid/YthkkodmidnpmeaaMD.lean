/- Contracts: a home's rows told, set, listed. -/
import Derived.Test.YthkkodmidnpmeaaMC
namespace Go.Proofs.Ythkkodmidnpmeaa.E
open Go
set_option linter.unusedVariables false
set_option maxRecDepth 100000

/-- Rows of a bounded size. -/
def small (f : Int → Option RW) : Prop := ∀ z r, f z = some r → r.d.length ≤ 1000
theorem err3 {q : CF} {f : Int → Option RW} {z st hd : Int} {x : List Int} (h : f z = none) : setErr q f z st hd x = 3 ∧ setDir q f z st hd x = f := by unfold setErr setDir; rw [h]; exact ⟨rfl, rfl⟩
theorem err1a {q : CF} {f : Int → Option RW} {z st hd : Int} {x : List Int} {r : RW} (h : f z = some r) (h1 : st < 0 ∨ 2 < st ∨ hd < -1 ∨ q.a ≤ hd) : setErr q f z st hd x = 1 ∧ setDir q f z st hd x = f := by
  have e : setErr q f z st hd x = 1 := by unfold setErr; rw [h]; exact if_pos h1
  refine ⟨e, ?_⟩
  unfold setDir
  rw [h, e]
  rfl
theorem err1b {q : CF} {f : Int → Option RW} {z st hd : Int} {x : List Int} {r : RW} (h : f z = some r) (h1 : ¬ (st < 0 ∨ 2 < st ∨ hd < -1 ∨ q.a ≤ hd)) (h2 : ¬ (hd = -1 ↔ st = 0) ∨ x ≠ [] ∧ (x.length : Int) ≠ q.c) : setErr q f z st hd x = 1 ∧ setDir q f z st hd x = f := by
  have e : setErr q f z st hd x = 1 := by unfold setErr; rw [h]; exact (if_neg h1).trans (if_pos h2)
  refine ⟨e, ?_⟩
  unfold setDir
  rw [h, e]
  rfl
theorem err0 {q : CF} {f : Int → Option RW} {z st hd : Int} {x : List Int} {r : RW} (h : f z = some r) (h1 : ¬ (st < 0 ∨ 2 < st ∨ hd < -1 ∨ q.a ≤ hd)) (h2 : ¬ (¬ (hd = -1 ↔ st = 0) ∨ x ≠ [] ∧ (x.length : Int) ≠ q.c)) :
    setErr q f z st hd x = 0 ∧ setDir q f z st hd x = fun y => if y = z then some ⟨st, hd, if x = [] then r.d else x⟩ else f y := by
  have e : setErr q f z st hd x = 0 := by unfold setErr; rw [h]; exact (if_neg h1).trans (if_neg h2)
  refine ⟨e, ?_⟩
  unfold setDir
  rw [h, e]
  exact if_pos rfl
section
variable {P : Program} (hp : P = Try.prog)
include hp
set_option maxHeartbeats 4000000 in
theorem mrow (q : CF) (L M : List (List G)) (f : Int → Option RW) (hM : isD M f) (hs : small f) (zl : Z) : LValid P 10 [.c (.ptr 0 (.lit 0) 9 0), .c (.g (.int .i64 zl))] [dirB q L, .mp (some 3) M]
    (fun v m1 => (f zl.val = none ∧ v = .tup [.agg [.g (.int .i64 (.sym 0)), .g (.int .i64 (.sym 0)), .row 2 1 none], gb false] ∧ m1 = [dirB q L, .mp (some 3) M, .sym 1 []]) ∨
      (∃ r D, f zl.val = some r ∧ isL .i64 D r.d ∧ v = .tup [.agg [.g (.int .i64 (.sym r.s)), .g (.int .i64 (.sym r.h)), .row 2 1 none], gb true] ∧ m1 = [dirB q L, .mp (some 3) M, .sym 1 D])) := by
  refine LValid.sy ?_
  show LValid P 10 [.c (.ptr 0 (.lit 0) 9 0), .c (.g (.int .i64 (.sym zl.val)))] _ _
  generalize zl.val = z
  obtain ⟨qa, qb, qc, qd, qe, qf, qg, ini⟩ := q
  refine LValid.syv (R := fun v m1 => (f z = none ∧ v = .tup [.agg [.g (.int .i64 (.lit 0)), .g (.int .i64 (.lit 0)), .row 2 1 none], .c (.g (.bool (.lit false)))] ∧ m1 = [dirB ⟨qa, qb, qc, qd, qe, qf, qg, ini⟩ L, .mp (some 3) M, .sym 1 []]) ∨
      (∃ r D, f z = some r ∧ isL .i64 D r.d ∧ v = .tup [.agg [.g (.int .i64 (.sym r.s)), .g (.int .i64 (.sym r.h)), .row 2 1 none], .c (.g (.bool (.lit true)))] ∧ m1 = [dirB ⟨qa, qb, qc, qd, qe, qf, qg, ini⟩ L, .mp (some 3) M, .sym 1 D])) ?_
    (fun v m1 h => h.imp (fun ⟨h1, h2, h3⟩ => ⟨h1, by rw [h2]; rfl, h3⟩) (fun ⟨r, D, h1, h2, h3, h4⟩ => ⟨r, D, h1, h2, by rw [h3]; rfl, h4⟩))
  obtain ⟨I, hI⟩ := ref
  refine fn_sim hI (mo hp) (cc hp c10) fun Post hP => ?_
  have hz := hM z
  cases hf : f z with
  | none =>
    rw [hf] at hz
    cbv
    refine .find none hz ?_
    cbv
    refine .go [] [] [.bor 1] (cloneI hp [] (by simp)) rfl rfl rfl rfl rfl rfl ?_
    rintro v m1 ⟨rfl, rfl⟩
    cbv
    exact hP _ _ [0, 1, 4] [] _ _ (by decide) rfl rfl rfl rfl rfl (.inl ⟨hf, rfl, rfl⟩)
  | some r =>
    obtain ⟨s, h, d⟩ := r
    rw [hf] at hz
    have hd : d.length ≤ 1000 := hs z _ hf
    obtain ⟨D, hD⟩ : ∃ D, D = nrow .i64 d := ⟨_, rfl⟩
    have hDl : isL .i64 D d := hD
    have hz : mfind M z = some [.int .i64 (.sym z), .int .i64 (.sym s), .int .i64 (.sym h), .rows 1 D] := by rw [hD]; exact hz
    have hD8 : D.length * 8 ≤ 140737488355328 := by rw [hDl.len]; omega
    clear hD
    cbv
    refine .find _ hz ?_
    cbv
    refine .go [] [] [.bor 1] (cloneI hp D hD8) rfl rfl rfl rfl rfl rfl ?_
    rintro v m1 ⟨rfl, rfl⟩
    cbv
    exact hP _ _ [0, 1, 4] [] _ _ (by decide) rfl rfl rfl rfl rfl (.inr ⟨⟨s, h, d⟩, D, hf, hDl, rfl, rfl⟩)
set_option maxHeartbeats 8000000 in
theorem mset_ (q : CF) (L M : List (List G)) (f : Int → Option RW) (hM : isD M f) (zl zs zh : Z) (X : List (List G)) (x : List Int) (hX : isL .i64 X x) (hx : x.length ≤ 1000) :
    LValid P 13 [.c (.ptr 0 (.lit 0) 9 0), .c (.g (.int .i64 zl)), .c (.g (.int .i64 zs)), .c (.g (.int .i64 zh)), .c (.bor 1 X)] [dirB q L, .mp (some 3) M]
    (fun v m1 => v = .one (.c (.g (.int .i64 (.sym (setErr q f zl.val zs.val zh.val x))))) ∧ ∃ M', isD M' (setDir q f zl.val zs.val zh.val x) ∧ m1 = [dirB q L, .mp (some 3) M']) := by
  refine LValid.num (LValid.sy ?_)
  show LValid P 13 [.c (.ptr 0 (.lit 0) 9 0), .c (.g (.int .i64 (.sym zl.val))), .c (.g (.int .i64 (.sym zs.val))), .c (.g (.int .i64 (.sym zh.val))), .c (.bor 1 X)] _ _
  generalize zl.val = z, zs.val = st, zh.val = hd
  obtain ⟨I, hI⟩ := ref
  refine fn_sim hI (mo hp) (cc hp c13) fun Post hP => ?_
  have hz := hM z
  have hlen : I.ofNat (I.len X) = (x.length : Int) := by rw [hI]; show ((X.length : Nat) : Int) = _; rw [hX.len]
  cases hf : f z with
  | none =>
    rw [hf] at hz
    obtain ⟨k1, k2⟩ := err3 (q := q) (st := st) (hd := hd) (x := x) hf
    rw [← k2] at hM
    obtain ⟨qa, qb, qc, qd, qe, qf, qg, ini⟩ := q
    cbv
    refine .find none hz ?_
    cbv
    refine hP _ _ [0, 1] [] _ _ (by decide) rfl rfl rfl rfl rfl ⟨.lit 3, rfl, k1.symm, M, hM, rfl⟩
  | some r =>
    rw [hf] at hz
    have k1a := err1a (q := q) (st := st) (hd := hd) (x := x) hf
    have k1b := err1b (q := q) (st := st) (hd := hd) (x := x) hf
    have k0 := err0 (q := q) (st := st) (hd := hd) (x := x) hf
    obtain ⟨qa, qb, qc, qd, qe, qf, qg, ini⟩ := q
    obtain ⟨s, h, d⟩ := r
    obtain ⟨D, hD⟩ : ∃ D, D = nrow .i64 d := ⟨_, rfl⟩
    have hz : mfind M z = some [.int .i64 (.sym z), .int .i64 (.sym s), .int .i64 (.sym h), .rows 1 D] := by rw [hD]; exact hz
    have hDl : isL .i64 D d := hD
    clear hD
    have c1 : ∀ t, I.cmp .lss st 0 = t → decide (st < 0) = t := fun t h => by rw [hI] at h; exact h
    have c2 : ∀ t, I.cmp .gtr st 2 = t → decide (2 < st) = t := fun t h => by rw [hI] at h; exact h
    have c3 : ∀ t, I.cmp .lss hd (-1) = t → decide (hd < -1) = t := fun t h => by rw [hI] at h; exact h
    have c4 : ∀ t, I.cmp .geq hd qa = t → decide (qa ≤ hd) = t := fun t h => by rw [hI] at h; exact h
    have c5 : ∀ t, I.not (I.beq (I.cmp .eql hd (-1)) (I.cmp .eql st 0)) = t → decide (¬ (hd = -1 ↔ st = 0)) = t := fun t h => by
      rw [hI] at h
      have h : (!((hd == -1) == (st == 0))) = t := h
      rw [← h]
      have e1 : (hd == -1) = decide (hd = -1) := by by_cases h : hd = -1 <;> simp [h]
      have e2 : (st == 0) = decide (st = 0) := by by_cases h : st = 0 <;> simp [h]
      rw [e1, e2]
      by_cases h1 : hd = -1
      · by_cases h2 : st = 0
        · have : ¬ ¬ (hd = -1 ↔ st = 0) := fun h => h ⟨fun _ => h2, fun _ => h1⟩
          rw [decide_eq_true h1, decide_eq_true h2]; exact (decide_eq_false this)
        · have : ¬ (hd = -1 ↔ st = 0) := fun h => h2 (h.1 h1)
          rw [decide_eq_true h1, decide_eq_false h2]; exact (decide_eq_true this)
      · by_cases h2 : st = 0
        · have : ¬ (hd = -1 ↔ st = 0) := fun h => h1 (h.2 h2)
          rw [decide_eq_false h1, decide_eq_true h2]; exact (decide_eq_true this)
        · have : ¬ ¬ (hd = -1 ↔ st = 0) := fun h => h ⟨fun e => absurd e h1, fun e => absurd e h2⟩
          rw [decide_eq_false h1, decide_eq_false h2]; exact (decide_eq_false this)
    have c6 : ∀ t, I.cmp .neq (I.ofNat (I.len X)) 0 = t → decide (x ≠ []) = t := fun t h => by
      rw [hlen, hI] at h
      have h : ((x.length : Int) != 0) = t := h
      rw [← h]
      cases x <;> simp
      omega
    have c7 : ∀ t, I.cmp .neq (I.ofNat (I.len X)) qc = t → decide ((x.length : Int) ≠ qc) = t := fun t h => by
      rw [hlen, hI] at h
      have h : ((x.length : Int) != qc) = t := h
      rw [← h]
      by_cases h2 : (x.length : Int) = qc <;> simp [h2]
    have c8 : ∀ t, I.cmp .gtr (I.ofNat (I.len X)) 0 = t → decide (x ≠ []) = t := fun t h => by
      rw [hlen, hI] at h
      have h : decide ((x.length : Int) > 0) = t := h
      rw [← h]
      cases x <;> simp
    have hdo1 : x ≠ [] → ¬ (st < 0 ∨ 2 < st ∨ hd < -1 ∨ qa ≤ hd) → ¬ (¬ (hd = -1 ↔ st = 0) ∨ x ≠ [] ∧ (x.length : Int) ≠ qc) → isD (I.mset M z [.int .i64 (.sym z), .int .i64 (.sym st), .int .i64 (.sym hd), .rows 1 X]) (setDir ⟨qa, qb, qc, qd, qe, qf, qg, ini⟩ f z st hd x) := fun h0 h1 h2 => by
      rw [(k0 h1 h2).2, if_neg h0, hI]
      unfold isL at hX
      rw [hX]
      exact hM.put z ⟨st, hd, x⟩
    have hdo0 : ¬ x ≠ [] → ¬ (st < 0 ∨ 2 < st ∨ hd < -1 ∨ qa ≤ hd) → ¬ (¬ (hd = -1 ↔ st = 0) ∨ x ≠ [] ∧ (x.length : Int) ≠ qc) → isD (I.mset M z [.int .i64 (.sym z), .int .i64 (.sym st), .int .i64 (.sym hd), .rows 1 D]) (setDir ⟨qa, qb, qc, qd, qe, qf, qg, ini⟩ f z st hd x) := fun h0 h1 h2 => by
      rw [(k0 h1 h2).2, if_pos (Classical.not_not.1 h0), hI]
      unfold isL at hDl
      rw [hDl]
      exact hM.put z ⟨st, hd, d⟩
    have bad1 : (st < 0 ∨ 2 < st ∨ hd < -1 ∨ qa ≤ hd) → (Z.lit 1).val = setErr ⟨qa, qb, qc, qd, qe, qf, qg, ini⟩ f z st hd x ∧ isD M (setDir ⟨qa, qb, qc, qd, qe, qf, qg, ini⟩ f z st hd x) := fun h => by
      obtain ⟨e1, e2⟩ := k1a h
      exact ⟨e1.symm, by rw [e2]; exact hM⟩
    have bad2 : ¬ (st < 0 ∨ 2 < st ∨ hd < -1 ∨ qa ≤ hd) → (¬ (hd = -1 ↔ st = 0) ∨ x ≠ [] ∧ (x.length : Int) ≠ qc) → (Z.lit 1).val = setErr ⟨qa, qb, qc, qd, qe, qf, qg, ini⟩ f z st hd x ∧ isD M (setDir ⟨qa, qb, qc, qd, qe, qf, qg, ini⟩ f z st hd x) := fun h h2 => by
      obtain ⟨e1, e2⟩ := k1b h h2
      exact ⟨e1.symm, by rw [e2]; exact hM⟩
    have good : ¬ (st < 0 ∨ 2 < st ∨ hd < -1 ∨ qa ≤ hd) → ¬ (¬ (hd = -1 ↔ st = 0) ∨ x ≠ [] ∧ (x.length : Int) ≠ qc) → (Z.lit 0).val = setErr ⟨qa, qb, qc, qd, qe, qf, qg, ini⟩ f z st hd x := fun h h2 => (k0 h h2).1.symm
    have hX8 : X.length * 8 ≤ 140737488355328 := by rw [hX.len]; omega
    obtain ⟨B, hB⟩ : ∃ B : Prop, B = (st < 0 ∨ 2 < st ∨ hd < -1 ∨ qa ≤ hd) := ⟨_, rfl⟩
    obtain ⟨B2, hB2⟩ : ∃ B : Prop, B = (¬ (hd = -1 ↔ st = 0) ∨ x ≠ [] ∧ (x.length : Int) ≠ qc) := ⟨_, rfl⟩
    obtain ⟨B3, hB3⟩ : ∃ B : Prop, B = (x ≠ []) := ⟨_, rfl⟩
    have d1 : I.cmp .lss st 0 = true → B := fun h => by rw [hB]; exact .inl (of_decide_eq_true (c1 _ h))
    have d2 : I.cmp .gtr st 2 = true → B := fun h => by rw [hB]; exact .inr (.inl (of_decide_eq_true (c2 _ h)))
    have d3 : I.cmp .lss hd (-1) = true → B := fun h => by rw [hB]; exact .inr (.inr (.inl (of_decide_eq_true (c3 _ h))))
    have d4 : I.cmp .geq hd qa = true → B := fun h => by rw [hB]; exact .inr (.inr (.inr (of_decide_eq_true (c4 _ h))))
    have d5 : I.cmp .lss st 0 = false → I.cmp .gtr st 2 = false → I.cmp .lss hd (-1) = false → I.cmp .geq hd qa = false → ¬ B := fun h1 h2 h3 h4 h => by
      rw [hB] at h
      rcases h with h | h | h | h
      · exact of_decide_eq_false (c1 _ h1) h
      · exact of_decide_eq_false (c2 _ h2) h
      · exact of_decide_eq_false (c3 _ h3) h
      · exact of_decide_eq_false (c4 _ h4) h
    have d6 : I.not (I.beq (I.cmp .eql hd (-1)) (I.cmp .eql st 0)) = true → B2 := fun h => by rw [hB2]; exact .inl (of_decide_eq_true (c5 _ h))
    have d7 : I.cmp .neq (I.ofNat (I.len X)) 0 = true → I.cmp .neq (I.ofNat (I.len X)) qc = true → B2 := fun h h' => by rw [hB2]; exact .inr ⟨of_decide_eq_true (c6 _ h), of_decide_eq_true (c7 _ h')⟩
    have d8 : I.not (I.beq (I.cmp .eql hd (-1)) (I.cmp .eql st 0)) = false → I.cmp .neq (I.ofNat (I.len X)) 0 = false → ¬ B2 := fun h h' h9 => by
      rw [hB2] at h9
      exact h9.elim (of_decide_eq_false (c5 _ h)) (fun h9 => of_decide_eq_false (c6 _ h') h9.1)
    have d9 : I.not (I.beq (I.cmp .eql hd (-1)) (I.cmp .eql st 0)) = false → I.cmp .neq (I.ofNat (I.len X)) qc = false → ¬ B2 := fun h h' h9 => by
      rw [hB2] at h9
      exact h9.elim (of_decide_eq_false (c5 _ h)) (fun h9 => of_decide_eq_false (c7 _ h') h9.2)
    have d10 : I.cmp .gtr (I.ofNat (I.len X)) 0 = true → B3 := fun h => by rw [hB3]; exact of_decide_eq_true (c8 _ h)
    have d11 : I.cmp .gtr (I.ofNat (I.len X)) 0 = false → ¬ B3 := fun h => by rw [hB3]; exact of_decide_eq_false (c8 _ h)
    rw [← hB] at bad1 bad2 good hdo1 hdo0
    rw [← hB2] at bad2 good hdo1 hdo0
    rw [← hB3] at hdo1 hdo0
    generalize setErr ⟨qa, qb, qc, qd, qe, qf, qg, ini⟩ f z st hd x = er at bad1 bad2 good hP
    generalize setDir ⟨qa, qb, qc, qd, qe, qf, qg, ini⟩ f z st hd x = f2 at bad1 bad2 hdo1 hdo0 hP
    clear c1 c2 c3 c4 c5 c6 c7 c8 k1a k1b k0 hB hB2 hB3 hlen hX hx hDl hM hf
    cbv
    refine .find _ hz ?_
    cbv
    refine .br (fun g1 => ?_) (fun g1 => ?_)
    · cbv
      exact hP _ _ [0, 1] [] _ _ (by decide) rfl rfl rfl rfl rfl ⟨.lit 1, rfl, (bad1 (d1 g1)).1, M, (bad1 (d1 g1)).2, rfl⟩
    cbv
    refine .br (fun g2 => ?_) (fun g2 => ?_)
    · cbv
      exact hP _ _ [0, 1] [] _ _ (by decide) rfl rfl rfl rfl rfl ⟨.lit 1, rfl, (bad1 (d2 g2)).1, M, (bad1 (d2 g2)).2, rfl⟩
    cbv
    refine .br (fun g3 => ?_) (fun g3 => ?_)
    · cbv
      exact hP _ _ [0, 1] [] _ _ (by decide) rfl rfl rfl rfl rfl ⟨.lit 1, rfl, (bad1 (d3 g3)).1, M, (bad1 (d3 g3)).2, rfl⟩
    cbv
    refine .br (fun g4 => ?_) (fun g4 => ?_)
    · cbv
      exact hP _ _ [0, 1] [] _ _ (by decide) rfl rfl rfl rfl rfl ⟨.lit 1, rfl, (bad1 (d4 g4)).1, M, (bad1 (d4 g4)).2, rfl⟩
    have hnB := d5 g1 g2 g3 g4
    clear d1 d2 d3 d4 d5 g1 g2 g3 g4 bad1
    cbv
    refine .br (fun g5 => ?_) (fun g5 => ?_)
    · cbv
      exact hP _ _ [0, 1] [] _ _ (by decide) rfl rfl rfl rfl rfl ⟨.lit 1, rfl, (bad2 hnB (d6 g5)).1, M, (bad2 hnB (d6 g5)).2, rfl⟩
    cbv
    refine .br (fun g6 => ?_) (fun g6 => ?_)
    · cbv
      refine .br (fun g7 => ?_) (fun g7 => ?_)
      · cbv
        exact hP _ _ [0, 1] [] _ _ (by decide) rfl rfl rfl rfl rfl ⟨.lit 1, rfl, (bad2 hnB (d7 g6 g7)).1, M, (bad2 hnB (d7 g6 g7)).2, rfl⟩
      have hnB2 := d9 g5 g7
      clear d6 d7 d8 d9 g5 g6 g7 bad2
      cbv
      refine .br (fun g8 => ?_) (fun g8 => ?_)
      · have h9 := hdo1 (d10 g8) hnB hnB2
        cbv
        refine .go [] [] [] (cloneF hp X hX8) rfl rfl rfl rfl rfl rfl ?_
        rintro v m1 ⟨rfl, rfl⟩
        cbv
        refine .drawn [1] ?_
        cbv
        exact hP _ _ [0, 1] [] _ _ (by decide) rfl rfl rfl rfl rfl ⟨.lit 0, rfl, good hnB hnB2, _, h9, rfl⟩
      · have h9 := hdo0 (d11 g8) hnB hnB2
        cbv
        refine .drawn [1] ?_
        cbv
        exact hP _ _ [0, 1] [] _ _ (by decide) rfl rfl rfl rfl rfl ⟨.lit 0, rfl, good hnB hnB2, _, h9, rfl⟩
    · have hnB2 := d8 g5 g6
      clear d6 d7 d8 d9 g5 g6 bad2
      cbv
      refine .br (fun g8 => ?_) (fun g8 => ?_)
      · have h9 := hdo1 (d10 g8) hnB hnB2
        cbv
        refine .go [] [] [] (cloneF hp X hX8) rfl rfl rfl rfl rfl rfl ?_
        rintro v m1 ⟨rfl, rfl⟩
        cbv
        refine .drawn [1] ?_
        cbv
        exact hP _ _ [0, 1] [] _ _ (by decide) rfl rfl rfl rfl rfl ⟨.lit 0, rfl, good hnB hnB2, _, h9, rfl⟩
      · have h9 := hdo0 (d11 g8) hnB hnB2
        cbv
        refine .drawn [1] ?_
        cbv
        exact hP _ _ [0, 1] [] _ _ (by decide) rfl rfl rfl rfl rfl ⟨.lit 0, rfl, good hnB hnB2, _, h9, rfl⟩
set_option maxHeartbeats 4000000 in
theorem mlines (q : CF) (hq : q.ok) (L M : List (List G)) (f : Int → Option RW) (hM : isD M f) : LValid P 9 [.c (.ptr 0 (.lit 0) 9 0)] [dirB q L, .mp (some 3) M]
    (fun v m1 => ∃ O, isL .i64 O (linesL f q.b.toNat) ∧ v = .one (.c (.row 2 1 none)) ∧ m1 = [dirB q L, .mp (some 3) M, .sym 1 O]) := by
  obtain ⟨I, hI⟩ := ref
  obtain ⟨qa, qb, qc, qd, qe, qf, qg, ini⟩ := q
  obtain ⟨-, hb, -, -, -, -⟩ := hq
  have hb : 1 ≤ qb ∧ qb ≤ 4 := hb
  obtain ⟨bn, hbn⟩ : ∃ bn : Nat, isN qb bn := ⟨qb.toNat, by unfold isN; omega⟩
  have hbt : qb.toNat = bn := by unfold isN at hbn; omega
  have hb4 : bn ≤ 4 := by unfold isN at hbn; omega
  show LValid P _ _ _ (fun v m1 => ∃ O, isL .i64 O (linesL f qb.toNat) ∧ v = .one (.c (.row 2 1 none)) ∧ m1 = [dirB ⟨qa, qb, qc, qd, qe, qf, qg, ini⟩ L, .mp (some 3) M, .sym 1 O])
  rw [hbt]
  clear hb hbt
  refine fn_sim hI (mo hp) (cc hp c9) fun Post hP => ?_
  cbv
  refine .own 3 1 rfl ?_
  refine .loop_next (fun n ts m => ∃ (i : Nat) (z : Int) (O : List (List G)), n = bn - i ∧ isN z i ∧ i ≤ bn ∧ isL .i64 O (linesL f i) ∧ O.length ≤ i ∧
      ts = fr 31 [(0, .one (.c (.ptr 0 (.lit 0) 9 0))), (3, .one (.c (.row 2 1 none))), (11, i64 qb), (12, i64 z)] ∧ m = [dirB ⟨qa, qb, qc, qd, qe, qf, qg, ini⟩ L, .mp (some 3) M, .sym 1 O])
    bn _ _ [0, 1, 2] [] [0, 3, 11, 12] (by decide) rfl rfl rfl ⟨0, 0, [], rfl, rfl, Nat.zero_le _, rfl, Nat.le_refl _, rfl, rfl⟩ ?_
  rintro next n hnext ts m ⟨i, z, O, hn, hz, hi, hO, hOl, rfl, rfl⟩
  have hzf := hM z
  cbv
  refine .br (fun g1 => ?_) (fun g1 => ?_)
  · have hi1 : i < bn := by
      have : z < qb := by simpa [hI, ints, rCmp] using g1
      unfold isN at hz hbn
      omega
    have hz1 : isN (I.bin .add .i64 z 1) (i + 1) := by unfold isN at hz ⊢; rw [hI]; simp only [ints, rBin]; rw [wrap_in] <;> omega
    have hze : z = (i : Int) := hz
    have hstep := linesL_step f i
    clear g1
    cases hf : f z with
    | none =>
      rw [hf] at hzf
      have hO2 : isL .i64 O (linesL f (i + 1)) := by
        rw [hstep, ← hze, hf, show (if (none : Option RW).isSome = true then [z] else []) = [] from rfl, List.append_nil]
        exact hO
      clear hstep hze
      cbv
      refine .find none hzf ?_
      cbv
      exact hnext _ _ (bn - (i + 1)) [0, 1, 2] [] [0, 3, 11, 12] _ _ (by omega) (by decide) rfl rfl rfl ⟨i + 1, _, O, rfl, hz1, hi1, hO2, by omega, rfl, rfl⟩
    | some r =>
      obtain ⟨s, h, d⟩ := r
      rw [hf] at hzf
      obtain ⟨D, hD⟩ : ∃ D, D = nrow .i64 d := ⟨_, rfl⟩
      have hzf : mfind M z = some [.int .i64 (.sym z), .int .i64 (.sym s), .int .i64 (.sym h), .rows 1 D] := by rw [hD]; exact hzf
      have hO2 : isL .i64 (I.app O [[.int .i64 (.sym z)]]) (linesL f (i + 1)) := by
        rw [hstep, ← hze, hf, show (if (some (⟨s, h, d⟩ : RW)).isSome = true then [z] else []) = [z] from rfl, hI]
        unfold isL at hO ⊢
        rw [hO]
        simp [nrow, ints]
      have hl2 : (I.app O [[.int .i64 (.sym z)]]).length = O.length + 1 := by rw [hI]; simp [ints]
      have hln : I.len (I.app O [[.int .i64 (.sym z)]]) = O.length + 1 := by rw [← hl2, hI]; rfl
      clear hstep hze hD
      cbv
      refine .find _ hzf ?_
      cbv
      refine .most (show I.len (I.app O [[.int .i64 (.sym z)]]) * 8 ≤ 140737488355328 from by rw [hln]; omega) (show I.len (I.app O [[.int .i64 (.sym z)]]) ≤ 140737488355328 from by rw [hln]; omega) ?_
      cbv
      exact hnext _ _ (bn - (i + 1)) [0, 1, 5] [] [0, 3, 11, 12] _ _ (by omega) (by decide) rfl rfl rfl ⟨i + 1, _, _, rfl, hz1, hi1, hO2, Nat.le_trans (Nat.le_of_eq hl2) (by omega), rfl, rfl⟩
  · have hi1 : i = bn := by
      have : ¬ z < qb := by simpa [hI, ints, rCmp] using g1
      unfold isN at hz hbn
      omega
    subst hi1
    cbv
    exact hP _ _ [0, 1, 2] [] _ _ (by decide) rfl rfl rfl rfl rfl ⟨O, hO, rfl, rfl⟩
end
end Go.Proofs.Ythkkodmidnpmeaa.E
