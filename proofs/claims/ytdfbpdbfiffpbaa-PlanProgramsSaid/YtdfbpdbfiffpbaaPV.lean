/- Contract: may programs be, by the document. -/
import Derived.Test.YtdfbpdbfiffpbaaPU
namespace Go.Proofs.Ytdfbpdbfiffpbaa.E
open Go
set_option linter.unusedVariables false
set_option maxRecDepth 100000

/-- Programs, as rows of one cell, none of them nil. -/
def isPR (L : List (List G)) (ps : List (List OP)) : Prop := L.length = ps.length ∧ ∀ (i : Nat) (ops : List OP), ps[i]? = some ops → ∃ O, L[i]? = some [.rows 3 O] ∧ isO O ops
theorem isPR.isPs {L : List (List G)} {ps : List (List OP)} (h : isPR L ps) : isPs L ps := ⟨h.1, fun i ops hi => let ⟨O, h1, h2⟩ := h.2 i ops hi; ⟨_, h1, .inl ⟨O, rfl, h2⟩⟩⟩
section
variable {P : Program} (hp : P = Try.prog)
include hp
set_option maxHeartbeats 4000000 in
theorem rOps (q : CF) (hq : q.ok) (L LP : List (List G)) (ps : List (List OP)) (hP0 : isPR LP ps) (hn : ps.length ≤ 1000000) (hn2 : ∀ ops ∈ ps, ops.length ≤ 1000000) : LValid P 25 [q.arg L, .c (.bor 1 LP)] [] (fun v m1 => ∃ t, t = okProgs q ps ∧ v = boo t ∧ m1 = []) := by
  refine bx (LValid.boo ?_)
  obtain ⟨I, hI⟩ := ref
  have hor := fun o => opRight hp q hq L o
  obtain ⟨E, hE⟩ : ∃ E, E = okProgs q ps := ⟨_, rfl⟩
  have h1 : (ps.length : Int) ≠ q.a → false = E := fun h => by rw [hE]; unfold okProgs; simp [h]
  have h2 : ∀ (i : Nat) (ops : List OP), ps[i]? = some ops → badProg q ops = true → false = E := fun i ops hi hb => by
    have : ps.any (badProg q) = true := List.any_eq_true.2 ⟨ops, List.mem_of_getElem? hi, hb⟩
    rw [hE]; unfold okProgs; simp [this]
  have h3 : (ps.length : Int) = q.a → (∀ i ops, ps[i]? = some ops → badProg q ops = false) → true = E := fun h hb => by
    have : ps.any (badProg q) = false := by
      rw [List.any_eq_false]
      intro ops hm
      obtain ⟨i, hi⟩ := List.mem_iff_getElem?.1 hm
      rw [hb i ops hi]
      decide
    rw [hE]; unfold okProgs; simp [this, h]
  rw [← hE]
  clear hE
  have hb1 : ∀ ops, 24 < ops.length → badProg q ops = true := fun ops h => by unfold badProg; simp [h]
  have hb2 : ∀ (ops : List OP) (j : Nat) (o : OP), ops[j]? = some o → okOp q o = false → badProg q ops = true := fun ops j o hj h => by
    unfold badProg
    rw [Bool.or_eq_true]
    exact .inr (List.any_eq_true.2 ⟨o, List.mem_of_getElem? hj, by rw [h]; rfl⟩)
  have hb3 : ∀ ops : List OP, ¬ 24 < ops.length → (∀ (j : Nat) (o : OP), ops[j]? = some o → okOp q o = true) → badProg q ops = false := fun ops h hj => by
    unfold badProg
    rw [Bool.or_eq_false_iff]
    refine ⟨by simpa using h, ?_⟩
    rw [List.any_eq_false]
    intro o hm
    obtain ⟨j, hj'⟩ := List.mem_iff_getElem?.1 hm
    rw [hj j o hj']
    decide
  generalize okOp q = ok at hor hb2 hb3
  generalize badProg q = bad at h2 h3 hb1 hb2 hb3
  have hle : I.len LP = ps.length := by rw [hI]; exact hP0.1
  have hget := hP0.2
  have hlP : isN (I.ofNat (I.len LP)) ps.length := by rw [hle, hI]; rfl
  obtain ⟨qa, qb, qc, qd, qe, qf, qg, ini⟩ := q
  have h1 : (ps.length : Int) ≠ qa → false = E := h1
  have h3 : (ps.length : Int) = qa → (∀ i ops, ps[i]? = some ops → bad ops = false) → true = E := h3
  refine fn_sim hI (mo hp) (cc hp c25) fun Post hP => ?_
  cbv
  refine .br (fun g => ?_) (fun g => ?_)
  · have hne : (ps.length : Int) ≠ qa := by
      have g : I.cmp .neq (I.ofNat (I.len LP)) qa = true := g
      unfold isN at hlP
      rw [hlP, hI] at g
      have g : (((ps.length : Nat) : Int) != qa) = true := g
      simpa using g
    have he := h1 hne
    clear hlP
    cbv
    exact hP _ _ [] [] _ _ .nil rfl rfl rfl rfl rfl ⟨.lit false, rfl, he, rfl⟩
  have heq : (ps.length : Int) = qa := by
    have g : I.cmp .neq (I.ofNat (I.len LP)) qa = false := g
    unfold isN at hlP
    rw [hlP, hI] at g
    have g : (((ps.length : Nat) : Int) != qa) = false := g
    simpa using g
  have h3 := h3 heq
  clear g h1 heq
  cbv
  refine .loop_next (fun n ts m => ∃ (i : Nat) (z c : Int), n = ps.length - i ∧ isN z i ∧ isN c ps.length ∧ i ≤ ps.length ∧ (∀ k ops, k < i → ps[k]? = some ops → bad ops = false) ∧
      ts = fr 35 [(2, .one (.c (.ptr 0 (.lit 0) 8 0))), (14, .one (.c (.bor 1 LP))), (15, i64 c), (16, i64 z)] ∧ m = [.lit 8 [cfg (.sym qa) (.sym qb) (.sym qc) (.sym qd) (.sym qe) (.sym qf) (.sym qg) (.bor 1 L)]])
    ps.length _ _ [0] [] [2, 14, 15, 16] (by decide) rfl rfl rfl ⟨0, 0, _, rfl, rfl, hlP, Nat.zero_le _, (fun k ops h => by omega), rfl, rfl⟩ ?_
  clear hlP
  rintro next n hnext ts m ⟨i, z, c, hn0, hz, hc, hi, hgood, rfl, rfl⟩
  cbv
  refine .br (fun g => ?_) (fun g => ?_)
  rotate_left
  · have hin : i = ps.length := by
      have : ¬ z < c := by simpa [hI, ints, rCmp] using g
      unfold isN at hz hc
      omega
    have he := h3 (fun k ops hk => hgood k ops (by rw [hin]; exact (List.getElem?_eq_some_iff.1 hk).1) hk)
    cbv
    exact hP _ _ [] [] _ _ .nil rfl rfl rfl rfl rfl ⟨.lit true, rfl, he, rfl⟩
  have hi1 : i < ps.length := by
    have : z < c := by simpa [hI, ints, rCmp] using g
    unfold isN at hz hc
    omega
  have hz1 : isN (I.bin .add .i64 z 1) (i + 1) := by unfold isN at hz ⊢; rw [hI]; simp only [ints, rBin]; rw [wrap_in] <;> omega
  have h9 : ∃ ops, ps[i]? = some ops := ⟨_, List.getElem?_eq_getElem hi1⟩
  obtain ⟨ops, hops⟩ := h9
  obtain ⟨O, hO, hOo⟩ := hget i ops hops
  have hil : i < I.len LP := by rw [hle]; exact hi1
  have hlen := hn2 ops (List.mem_of_getElem? hops)
  have hOl : I.len O = ops.length := by rw [hI]; exact hOo.len
  have hOn : isN (I.ofNat (I.len O)) ops.length := by rw [hOl, hI]; rfl
  have h2 := h2 i ops hops
  have hb1 := hb1 ops
  have hb2 := hb2 ops
  have hb3 := hb3 ops
  have hgood1 : bad ops = false → ∀ k ops, k < i + 1 → ps[k]? = some ops → bad ops = false := fun hb k ops' hk hk' => by
    by_cases h : k = i
    · subst h
      rw [hops] at hk'
      cases hk'
      exact hb
    · exact hgood k ops' (by omega) hk'
  clear g hgood hops hget h3
  cbv
  refine .idx i hz hil (.nth _ hO ?_)
  cbv
  refine .br (fun g => ?_) (fun g => ?_)
  · have hbig : 24 < ops.length := by
      have g : I.cmp .gtr (I.ofNat (I.len O)) 24 = true := g
      unfold isN at hOn
      rw [hOn, hI] at g
      have g : decide (((ops.length : Nat) : Int) > 24) = true := g
      have := of_decide_eq_true g
      omega
    have he := h2 (hb1 hbig)
    cbv
    exact hP _ _ [] [] _ _ .nil rfl rfl rfl rfl rfl ⟨.lit false, rfl, he, rfl⟩
  have hsm : ¬ 24 < ops.length := by
    have g : I.cmp .gtr (I.ofNat (I.len O)) 24 = false := g
    unfold isN at hOn
    rw [hOn, hI] at g
    have g : decide (((ops.length : Nat) : Int) > 24) = false := g
    have := of_decide_eq_false g
    omega
  have hb3 := hb3 hsm
  clear g hb1
  cbv
  refine .loop_next (fun n ts m => ∃ (j : Nat) (u d : Int), n = ops.length - j ∧ isN u j ∧ isN d ops.length ∧ j ≤ ops.length ∧ (∀ k o, k < j → ops[k]? = some o → ok o = true) ∧
      ts = fr 35 [(2, .one (.c (.ptr 0 (.lit 0) 8 0))), (14, .one (.c (.bor 1 LP))), (15, i64 c), (16, i64 z), (23, .one (.c (.g (.rows 3 O)))), (24, i64 d), (25, i64 u)] ∧ m = [.lit 8 [cfg (.sym qa) (.sym qb) (.sym qc) (.sym qd) (.sym qe) (.sym qf) (.sym qg) (.bor 1 L)]])
    ops.length _ _ [0] [] [2, 14, 15, 16, 23, 24, 25] (by decide) rfl rfl rfl ⟨0, 0, _, rfl, rfl, hOn, Nat.zero_le _, (fun k ops h => by omega), rfl, rfl⟩ ?_
  clear hOn
  rintro next2 n2 hnext2 ts m ⟨j, u, d, hn3, hu, hd, hj, hg2, rfl, rfl⟩
  cbv
  refine .br (fun g => ?_) (fun g => ?_)
  rotate_left
  · have hjn : j = ops.length := by
      have : ¬ u < d := by simpa [hI, ints, rCmp] using g
      unfold isN at hu hd
      omega
    have hg3 := hgood1 (hb3 (fun k o hk => hg2 k o (by rw [hjn]; exact (List.getElem?_eq_some_iff.1 hk).1) hk))
    cbv
    exact hnext _ _ (ps.length - (i + 1)) [0] [] [2, 14, 15, 16] _ _ (by omega) (by decide) rfl rfl rfl ⟨i + 1, _, c, rfl, hz1, hc, hi1, hg3, rfl, rfl⟩
  have hj1 : j < ops.length := by
    have : u < d := by simpa [hI, ints, rCmp] using g
    unfold isN at hu hd
    omega
  have hu1 : isN (I.bin .add .i64 u 1) (j + 1) := by unfold isN at hu ⊢; rw [hI]; simp only [ints, rBin]; rw [wrap_in] <;> omega
  have h9 : ∃ o, ops[j]? = some o := ⟨_, List.getElem?_eq_getElem hj1⟩
  obtain ⟨o, ho⟩ := h9
  have hrow := hOo.get ho
  have hjl : j < I.len O := by rw [hOl]; exact hj1
  have hb2 := hb2 j o ho
  have hor := hor o
  have hg3 : ok o = true → ∀ k o, k < j + 1 → ops[k]? = some o → ok o = true := fun hb k o' hk hk' => by
    by_cases h : k = j
    · subst h
      rw [ho] at hk'
      cases hk'
      exact hb
    · exact hg2 k o' (by omega) hk'
  generalize ok o = oko at hor hb2 hg3
  clear g ho hg2
  obtain ⟨oa, ob, oc⟩ := o
  cbv
  refine .idx j hu hjl (.nth _ hrow ?_)
  cbv
  refine .go [] [] [.bor 1] hor rfl rfl rfl rfl rfl rfl ?_
  rintro v m1 ⟨t, ht, rfl, rfl⟩
  clear hor
  cbv
  refine .br (fun g => ?_) (fun g => ?_)
  · have he := h2 (hb2 (by rw [← ht]; rw [hI] at g; cases t with | false => rfl | true => cases g))
    cbv
    exact hP _ _ [] [] _ _ .nil rfl rfl rfl rfl rfl ⟨.lit false, rfl, he, rfl⟩
  · have hg4 := hg3 (by rw [← ht]; rw [hI] at g; cases t with | true => rfl | false => cases g)
    cbv
    exact hnext2 _ _ (ops.length - (j + 1)) [0] [] [2, 14, 15, 16, 23, 24, 25] _ _ (by omega) (by decide) rfl rfl rfl ⟨j + 1, _, d, rfl, hu1, hd, hj1, hg4, rfl, rfl⟩
end
end Go.Proofs.Ytdfbpdbfiffpbaa.E
