/- Contracts: operations out of numbers; may an operation be, by the document. -/
import Derived.Test.YtdfbpdbfiffpbaaPO
namespace Go.Proofs.Ytdfbpdbfiffpbaa.E
open Go
set_option linter.unusedVariables false
set_option maxRecDepth 100000

theorem bc_nat2 (q : CF) (hq : q.ok) : q.b * q.c = ((q.b.toNat * q.c.toNat : Nat) : Int) ∧ q.b.toNat * q.c.toNat ≤ 8 := by
  have h1 := hq.hb
  have h2 := hq.hc
  have e1 : q.b = (q.b.toNat : Int) := by omega
  have e2 : q.c = (q.c.toNat : Int) := by omega
  constructor
  · rw [Int.natCast_mul, ← e1, ← e2]
  · exact Nat.mul_le_mul (show q.b.toNat ≤ 4 by omega) (show q.c.toNat ≤ 2 by omega)
section
variable {P : Program} {I : Ints} {p : Nat}
theorem br3 {b : Bool} {t e : Unit → Tree} {Q : Prop} (h1 : b = true → Q → Holds P I p (t ())) (h2 : b = false → Q → Holds P I p (e ())) (h : Q) : Holds P I p (.br b t e) := .br (fun g => h1 g h) (fun g => h2 g h)
end
section
variable {P : Program} (hp : P = Try.prog)
include hp
theorem pat_ (l : List (List G)) (xs : List Int) (hl : isL .i64 l xs) (z : Z) (i : Nat) (hz : isN z.val i) : LValid P 30 [.c (.bor 1 l), .c (.g (.int .i64 z))] [] (fun v m1 => ∃ t : Int, (t = 0 ∨ t ∈ xs) ∧ v = i64 t ∧ m1 = []) := by
  refine LValid.sy ?_
  show LValid P 30 [.c (.bor 1 l), .c (.g (.int .i64 (.sym z.val)))] [] _
  generalize z.val = z at hz
  refine LValid.syv (R := fun v m1 => ∃ t : Z, (t.val = 0 ∨ t.val ∈ xs) ∧ v = .one (.c (.g (.int .i64 t))) ∧ m1 = []) ?_ (fun v m1 ⟨t, h0, h1, h2⟩ => ⟨t.val, h0, by rw [h1]; rfl, h2⟩)
  obtain ⟨I, hI⟩ := ref
  have hle : I.len l = xs.length := by rw [hI]; exact hl.len
  have hc : I.cmp .lss z (I.ofNat (I.len l)) = true → i < xs.length := fun h => by
    unfold isN at hz
    rw [hle, hz, hI] at h
    have := of_decide_eq_true (show decide ((i : Int) < (xs.length : Int)) = true from h)
    omega
  refine fn_sim hI (mo hp) (cc hp c30) fun Post hP => ?_
  cbv
  refine .br (fun g => ?_) (fun g => ?_)
  · have hi := hc g
    obtain ⟨x, hx⟩ : ∃ x, xs[i]? = some x := ⟨_, List.getElem?_eq_getElem hi⟩
    have hr : l[i]? = some [.int .i64 (.sym x)] := by rw [hl.get, hx]; rfl
    have hil : i < I.len l := by rw [hle]; exact hi
    have hm := List.mem_of_getElem? hx
    clear hc g
    cbv
    refine .idx i hz hil (.nth _ hr ?_)
    cbv
    exact hP _ _ [] [] _ _ .nil rfl rfl rfl rfl rfl ⟨.sym x, .inr hm, rfl, rfl⟩
  · clear hc
    cbv
    exact hP _ _ [] [] _ _ .nil rfl rfl rfl rfl rfl ⟨.lit 0, .inl rfl, rfl, rfl⟩
set_option maxHeartbeats 20000000 in
theorem playOps (A0 B0 V0 : List (List G)) (as0 bs0 vs0 : List Int) (hA : isL .i64 A0 as0) (hB : isL .i64 B0 bs0) (hV : isL .i64 V0 vs0) (R : Int → Prop) (h0R : R 0) (hRv : ∀ x ∈ vs0, R x) : LValid P 24 [.c (.bor 1 A0), .c (.bor 1 B0), .c (.bor 1 V0)] [] (fun v m1 => ∃ OL ops, isO OL ops ∧ ops.length ≤ 30 ∧ (∀ o ∈ ops, R o.v) ∧ v = .one (.c (.row 0 3 none)) ∧ m1 = [.sym 3 OL]) := by
  obtain ⟨I, hI⟩ := ref
  have hle : I.len A0 = as0.length := by rw [hI]; exact hA.len
  have hat1 := fun (z : Int) i (h : isN z i) => pat_ hp B0 bs0 hB (.sym z) i h
  have hat2 := fun (z : Int) i (h : isN z i) => (pat_ hp V0 vs0 hV (.sym z) i h).mono (R' := fun v m1 => ∃ t : Int, R t ∧ v = i64 t ∧ m1 = []) fun v m1 ⟨t, h1, h2⟩ => ⟨t, h1.elim (fun h => by rw [h]; exact h0R) (hRv t), h2⟩
  refine fn_sim hI (mo hp) (ccj hp c24) fun Post hP => ?_
  cbv
  refine .own 7 3 rfl ?_
  refine .loop_next (fun n ts m => ∃ (i : Nat) (z : Int) (OL : List (List G)) (ops : List OP), n = 30 - i ∧ isN z i ∧ i ≤ 30 ∧ isO OL ops ∧ ops.length ≤ i ∧ (∀ o ∈ ops, R o.v) ∧
      ts = fr 73 [(0, .one (.c (.bor 1 A0))), (1, .one (.c (.bor 1 B0))), (2, .one (.c (.bor 1 V0))), (7, .one (.c (.row 0 3 none))), (8, i64 z)] ∧ m = [.sym 3 OL])
    30 _ _ [0] [] [0, 1, 2, 7, 8] (by decide) rfl rfl rfl ⟨0, 0, [], [], rfl, rfl, by omega, rfl, by simp, (fun o h => by cases h), rfl, rfl⟩ ?_
  rintro next n hnext ts m ⟨i, z, OL, ops, hn, hz, hi, hO, hol, hRo, rfl, rfl⟩
  cbv
  refine .br (fun g1 => ?_) (fun g1 => ?_)
  · have hi1 : i < as0.length := by
      have h' : rCmp .lss z ((I.len A0 : Nat) : Int) = true := by rw [hI] at g1 ⊢; exact g1
      rw [hle] at h'
      have : z < (as0.length : Nat) := by simpa [rCmp] using h'
      unfold isN at hz
      omega
    cbv
    refine .br (fun g2 => ?_) (fun g2 => ?_)
    · have hi2 : i < 30 := by
        have : z < 30 := by simpa [hI, ints, rCmp] using g2
        unfold isN at hz
        omega
      have hz1 : isN (I.bin .add .i64 z 1) (i + 1) := by unfold isN at hz ⊢; rw [hI]; simp only [ints, rBin]; rw [wrap_in] <;> omega
      have h9 : ∃ x, as0[i]? = some x := ⟨_, List.getElem?_eq_getElem hi1⟩
      obtain ⟨x, hx⟩ := h9
      have hr : A0[i]? = some [.int .i64 (.sym x)] := by rw [hA.get, hx]; rfl
      have hil : i < I.len A0 := by rw [hle]; exact hi1
      have ha1 := hat1 z i hz
      have ha2 := hat2 z i hz
      clear g1 g2 hx
      cbv
      refine .idx i hz hil (.nth _ hr ?_)
      cbv
      refine .go [] [] [] (within hp _ _) rfl rfl rfl rfl rfl rfl ?_
      rintro r m1 ⟨y, hy, rfl, rfl⟩
      clear hy
      cbv
      refine .go [] [] [] ha1 rfl rfl rfl rfl rfl rfl ?_
      rintro r m1 ⟨y2, -, rfl, rfl⟩
      cbv
      refine .go [] [] [] (within hp _ _) rfl rfl rfl rfl rfl rfl ?_
      rintro r m1 ⟨y3, hy, rfl, rfl⟩
      clear hy
      cbv
      apply br3
      case h1 =>
        intro g3 hq
        cbv
        refine .join_next (fun ts m => ∃ k a x : Int, R x ∧ ts = fr 73 [(0, .one (.c (.bor 1 A0))), (1, .one (.c (.bor 1 B0))), (2, .one (.c (.bor 1 V0))), (7, .one (.c (.row 0 3 none))), (8, i64 z), (9, .one (.c (.ptr 1 (.lit 0) 3 0)))] ∧ m = [.sym 3 OL, .lit 3 [[.g (.int .i64 (.sym k)), .g (.int .i64 (.sym a)), .g (.int .i64 (.sym x))]]]) ?_ hq
        intro next hnx
        cbv
        refine .go [] [] [] ha2 rfl rfl rfl rfl rfl rfl ?_
        rintro r m1 ⟨y4, h4R, rfl, rfl⟩
        cbv
        exact hnx _ _ [0, 1] [] [0, 1, 2, 7, 8, 9] _ _ (by decide) rfl rfl rfl ⟨_, _, _, h4R, rfl, rfl⟩
      case h2 =>
        intro g3 hq
        cbv
        refine .join_next (fun ts m => ∃ k a x : Int, R x ∧ ts = fr 73 [(0, .one (.c (.bor 1 A0))), (1, .one (.c (.bor 1 B0))), (2, .one (.c (.bor 1 V0))), (7, .one (.c (.row 0 3 none))), (8, i64 z), (9, .one (.c (.ptr 1 (.lit 0) 3 0)))] ∧ m = [.sym 3 OL, .lit 3 [[.g (.int .i64 (.sym k)), .g (.int .i64 (.sym a)), .g (.int .i64 (.sym x))]]]) ?_ hq
        intro next hnx
        cbv
        refine .br (fun g4 => ?_) (fun g4 => ?_)
        · cbv
          refine .go [] [] [] ha2 rfl rfl rfl rfl rfl rfl ?_
          rintro r m1 ⟨y4, h4R, rfl, rfl⟩
          cbv
          exact hnx _ _ [0, 1] [] [0, 1, 2, 7, 8, 9] _ _ (by decide) rfl rfl rfl ⟨_, _, _, h4R, rfl, rfl⟩
        · cbv
          exact hnx _ _ [0, 1] [] [0, 1, 2, 7, 8, 9] _ _ (by decide) rfl rfl rfl ⟨_, _, _, h0R, rfl, rfl⟩
      case h =>
        rintro ts m ⟨k, a, x2, hx2, rfl, rfl⟩
        cbv
        refine .idx i hz hil (.nth _ hr ?_)
        cbv
        refine .join_next (fun ts m => ∃ k a x : Int, R x ∧ ts = fr 73 [(0, .one (.c (.bor 1 A0))), (1, .one (.c (.bor 1 B0))), (2, .one (.c (.bor 1 V0))), (7, .one (.c (.row 0 3 none))), (8, i64 z), (9, .one (.c (.ptr 1 (.lit 0) 3 0)))] ∧ m = [.sym 3 OL, .lit 3 [[.g (.int .i64 (.sym k)), .g (.int .i64 (.sym a)), .g (.int .i64 (.sym x))]]]) ?_ ?_
        · intro next hnx
          cbv
          refine .br (fun g4 => ?_) (fun g4 => ?_)
          · cbv
            refine .idx i hz hil (.nth _ hr ?_)
            cbv
            exact hnx _ _ [0, 1] [] [0, 1, 2, 7, 8, 9] _ _ (by decide) rfl rfl rfl ⟨_, _, _, hx2, rfl, rfl⟩
          · cbv
            refine .br (fun g5 => ?_) (fun g5 => ?_)
            · cbv
              refine .go [] [] [] ha1 rfl rfl rfl rfl rfl rfl ?_
              rintro r m1 ⟨y4, h4R, rfl, rfl⟩
              cbv
              exact hnx _ _ [0, 1] [] [0, 1, 2, 7, 8, 9] _ _ (by decide) rfl rfl rfl ⟨_, _, _, hx2, rfl, rfl⟩
            · cbv
              refine .br (fun g6 => ?_) (fun g6 => ?_)
              · cbv
                refine .go [] [] [] ha2 rfl rfl rfl rfl rfl rfl ?_
                rintro r m1 ⟨y4, h4R, rfl, rfl⟩
                cbv
                exact hnx _ _ [0, 1] [] [0, 1, 2, 7, 8, 9] _ _ (by decide) rfl rfl rfl ⟨_, _, _, h4R, rfl, rfl⟩
              · cbv
                exact hnx _ _ [0, 1] [] [0, 1, 2, 7, 8, 9] _ _ (by decide) rfl rfl rfl ⟨_, _, _, hx2, rfl, rfl⟩
        clear ha1 ha2
        rintro ts m ⟨k, a, x2, hx2, rfl, rfl⟩
        have hO2 : isO (I.app OL [[.int .i64 (.sym k), .int .i64 (.sym a), .int .i64 (.sym x2)]]) (ops ++ [⟨k, a, x2⟩]) := by rw [hI]; exact hO.app rfl
        have hR2 : ∀ o ∈ ops ++ [(⟨k, a, x2⟩ : OP)], R o.v := fun o h => by
          rcases List.mem_append.1 h with h | h
          · exact hRo o h
          · rw [List.mem_singleton.1 h]; exact hx2
        have hl2 : (ops ++ [(⟨k, a, x2⟩ : OP)]).length ≤ i + 1 := by rw [List.length_append]; simp; omega
        have hln : I.len (I.app OL [[.int .i64 (.sym k), .int .i64 (.sym a), .int .i64 (.sym x2)]]) ≤ 31 := by
          have := hO2.len
          rw [hI] at this ⊢
          exact Nat.le_trans (Nat.le_of_eq this) (by omega)
        generalize (ops ++ [(⟨k, a, x2⟩ : OP)]) = ops2 at hO2 hl2 hR2
        cbv
        refine .most (show I.len (I.app OL [[.int .i64 (.sym k), .int .i64 (.sym a), .int .i64 (.sym x2)]]) * 24 ≤ 140737488355328 from by omega) (show I.len (I.app OL [[.int .i64 (.sym k), .int .i64 (.sym a), .int .i64 (.sym x2)]]) ≤ 140737488355328 from by omega) ?_
        cbv
        exact hnext _ _ (30 - (i + 1)) [3] [] [0, 1, 2, 7, 8] _ _ (by omega) (by decide) rfl rfl rfl ⟨i + 1, _, _, ops2, rfl, hz1, hi2, hO2, hl2, hR2, rfl, rfl⟩
    · cbv
      exact hP _ _ [0] [] _ _ (by decide) rfl rfl rfl rfl rfl ⟨OL, ops, hO, by omega, hRo, rfl, rfl⟩
  · cbv
    exact hP _ _ [0] [] _ _ (by decide) rfl rfl rfl rfl rfl ⟨OL, ops, hO, by omega, hRo, rfl, rfl⟩
set_option maxHeartbeats 4000000 in
theorem opRight (q : CF) (hq : q.ok) (L : List (List G)) (o : OP) : LValid P 36 [q.arg L, o.arg] [] (fun v m1 => ∃ t, t = okOp q o ∧ v = boo t ∧ m1 = []) := by
  refine bx (LValid.boo ?_)
  obtain ⟨I, hI⟩ := ref
  obtain ⟨hbcN, hbc8⟩ := bc_nat2 q hq
  obtain ⟨qa, qb, qc, qd, qe, qf, qg, ini⟩ := q
  obtain ⟨k, a, v⟩ := o
  have hmul : I.bin .mul .i64 qb qc = qb * qc := by
    have e : qb * qc = ((qb.toNat * qc.toNat : Nat) : Int) := hbcN
    have h8 : qb.toNat * qc.toNat ≤ 8 := hbc8
    rw [hI]
    show IntKind.i64.wrap (qb * qc) = _
    rw [e, wrap_in] <;> omega
  have hok : okOp ⟨qa, qb, qc, qd, qe, qf, qg, ini⟩ ⟨k, a, v⟩ = (I.cmp .geq k 1 && I.cmp .leq k 4 && I.cmp .geq a 0 && I.cmp .lss a (I.bin .mul .i64 qb qc) && (I.cmp .eql v 0 || I.cmp .eql k 2 || I.cmp .eql k 3)) := by
    rw [hmul, hI]
    show (decide (1 ≤ k) && decide (k ≤ 4) && decide (0 ≤ a ∧ a < qb * qc) && ((v == 0) || (k == 2) || (k == 3))) = (decide (k ≥ 1) && decide (k ≤ 4) && decide (a ≥ 0) && decide (a < qb * qc) && ((v == 0) || (k == 2) || (k == 3)))
    rw [Bool.decide_and]
    simp [Bool.and_assoc]
  rw [hok]
  clear hok hbcN hbc8 hmul
  refine fn_sim hI (mo hp) (cc hp c36) fun Post hP => ?_
  cbv
  refine .br (fun g1 => ?_) (fun g1 => ?_)
  · cbv
    refine .br (fun g2 => ?_) (fun g2 => ?_)
    · cbv
      refine .br (fun g3 => ?_) (fun g3 => ?_)
      · cbv
        refine .br (fun g6 => ?_) (fun g6 => ?_)
        · cbv
          refine .br (fun g4 => ?_) (fun g4 => ?_)
          · cbv
            exact hP _ _ [] [] _ _ .nil rfl rfl rfl rfl rfl ⟨.lit true, rfl, show true = _ from by rw [g1, g2, g3, g6, g4]; rfl, rfl⟩
          · cbv
            refine .br (fun g5 => ?_) (fun g5 => ?_)
            · cbv
              exact hP _ _ [] [] _ _ .nil rfl rfl rfl rfl rfl ⟨.lit true, rfl, show true = _ from by rw [g1, g2, g3, g6, g4, g5]; rfl, rfl⟩
            · cbv
              exact hP _ _ [] [] _ _ .nil rfl rfl rfl rfl rfl ⟨.sym (I.cmp .eql k 3), rfl, show I.cmp .eql k 3 = _ from by rw [g1, g2, g3, g6, g4, g5]; rfl, rfl⟩
        · cbv
          exact hP _ _ [] [] _ _ .nil rfl rfl rfl rfl rfl ⟨.lit false, rfl, show false = _ from by rw [g1, g2, g3, g6]; rfl, rfl⟩
      · cbv
        exact hP _ _ [] [] _ _ .nil rfl rfl rfl rfl rfl ⟨.lit false, rfl, show false = _ from by rw [g1, g2, g3]; rfl, rfl⟩
    · cbv
      exact hP _ _ [] [] _ _ .nil rfl rfl rfl rfl rfl ⟨.lit false, rfl, show false = _ from by rw [g1, g2]; rfl, rfl⟩
  · cbv
    exact hP _ _ [] [] _ _ .nil rfl rfl rfl rfl rfl ⟨.lit false, rfl, show false = _ from by rw [g1]; rfl, rfl⟩
end
end Go.Proofs.Ytdfbpdbfiffpbaa.E
