/- Contracts: a processor. -/
import Derived.Test.YtkpilokfplpjnaaQPlay
namespace Go.Proofs.Ytkpilokfplpjnaa.E
open Go
set_option linter.unusedVariables false
set_option maxRecDepth 100000

def pr (L : List (List G)) (b : BB) : Blk := .lit 3 [[.g (.rows 3 L), .row 1 1 none, .g (.bool b)]]
section
variable {P : Program} (hp : P = Try.prog)
include hp
theorem cloneI (l : List (List G)) (hl : l.length * 8 ≤ 140737488355328) : LValid P 19 [.c (.bor 1 l)] [] (fun v m1 => v = .one (.c (.row 0 1 none)) ∧ m1 = [.sym 1 l]) := by
  refine LValid.own (R := fun v m1 => (v = .one (.c (.row 0 1 none)) ∧ m1 = [.sym 1 l]) ∨ (v = .one (.c (.g .nil)) ∧ m1 = [] ∧ l = [])) 1 ?_ (fun v m1 h => h.imp id (fun ⟨h1, h2, h3⟩ => ⟨h1, by rw [h2, h3]; exact ⟨rfl, rfl⟩⟩))
  obtain ⟨I, hI⟩ := ref
  refine fn_sim hI (mo hp) (cc hp c19) fun Post hP => ?_
  cbv
  refine .isnil (fun h => ?_) ?_
  · cbv
    exact hP _ _ [] [] _ _ .nil rfl rfl rfl rfl rfl (.inr ⟨rfl, rfl, h⟩)
  · cbv
    refine .most (by simpa [hI, ints] using hl) (by simp [hI, ints]; omega) ?_
    cbv
    exact hP _ _ [1] [] _ _ (by decide) rfl rfl rfl rfl rfl (.inl ⟨rfl, by rw [hI]; rfl⟩)
theorem cloneO (l : List (List G)) (hl : l.length * 24 ≤ 140737488355328) : LValid P 18 [.c (.bor 3 l)] [] (fun v m1 => v = .one (.c (.g (.rows 3 l))) ∧ m1 = []) := by
  refine LValid.nilr (R := fun v m1 => (v = .one (.c (.g (.rows 3 l))) ∧ m1 = []) ∨ (v = .one (.c (.g .nil)) ∧ m1 = [] ∧ l = [])) 3 ?_ (fun v m1 h => h.imp id (fun ⟨h1, h2, h3⟩ => ⟨h1, by rw [h2, h3]; exact ⟨rfl, rfl⟩⟩))
  obtain ⟨I, hI⟩ := ref
  refine fn_sim hI (mo hp) (cc hp c18) fun Post hP => ?_
  cbv
  refine .isnil (fun h => ?_) ?_
  · cbv
    exact hP _ _ [] [] _ _ .nil rfl rfl rfl rfl rfl (.inr ⟨rfl, rfl, h⟩)
  · cbv
    refine .most (by simpa [hI, ints] using hl) (by simp [hI, ints]; omega) ?_
    cbv
    exact hP _ _ [] [1] _ _ .nil rfl rfl rfl rfl rfl (.inl ⟨by rw [hI]; rfl, rfl⟩)
theorem new (l : List (List G)) (hl : l.length * 24 ≤ 140737488355328) : LValid P 7 [.c (.bor 3 l)] [] (fun v m1 => v = .one (.c (.ptr 0 (.lit 0) 3 0)) ∧ m1 = [pr l (.sym false), .sym 1 []]) := by
  refine LValid.syvm ?_ (R := fun v m1 => v = .one (.c (.ptr 0 (.lit 0) 3 0)) ∧ m1 = [pr l (.lit false), .sym 1 []]) (fun v m1 h => by rw [h.1, h.2]; exact ⟨rfl, rfl⟩)
  refine LValid.ownField (R := fun v m1 => v = .one (.c (.ptr 0 (.lit 0) 3 0)) ∧ m1 = [.lit 3 [[.g (.rows 3 l), .g .nil, .g (.bool (.lit false))]]]) 1 0 0 1 ?_ (fun v m1 h => by obtain ⟨rfl, rfl⟩ := h; exact ⟨3, _, _, rfl, rfl, rfl, rfl, rfl⟩)
  obtain ⟨I, hI⟩ := ref
  refine fn_sim hI (mo hp) (cc hp c7) fun Post hP => ?_
  cbv
  refine .go [] [] [] (cloneO hp l hl) rfl rfl rfl rfl rfl rfl ?_
  rintro v m1 ⟨rfl, rfl⟩
  cbv
  exact hP _ _ [0] [] _ _ (by decide) rfl rfl rfl rfl rfl ⟨rfl, rfl⟩
theorem left (L vs : List (List G)) (b : BB) (hv : vs.length ≤ L.length) (hl : L.length * 24 ≤ 140737488355328) : LValid P 12 [.c (.ptr 0 (.lit 0) 3 0)] [pr L b, .sym 1 vs] (fun v m1 => ∃ t, isN t (L.length - vs.length) ∧ v = i64 t ∧ m1 = [pr L b, .sym 1 vs]) := by
  obtain ⟨I, hI⟩ := ref
  refine fn_sim hI (mo hp) (cc hp c12) fun Post hP => ?_
  cbv
  have hX : isN (I.bin .sub .i64 (I.ofNat (I.len L)) (I.ofNat (I.len vs))) (L.length - vs.length) := by
    unfold isN
    rw [hI]
    simp only [ints, rBin]
    rw [wrap_in] <;> omega
  refine .drawn [] ?_
  cbv
  exact hP _ _ [0, 1] [] _ _ (by decide) rfl rfl rfl rfl rfl ⟨_, hX, rfl, rfl⟩
theorem begun (L vs : List (List G)) (b : BB) : LValid P 14 [.c (.ptr 0 (.lit 0) 3 0)] [pr L b, .sym 1 vs] (fun v m1 => ∃ t, t = b.val ∧ v = boo t ∧ m1 = [pr L b, .sym 1 vs]) := by
  refine LValid.syv (R := fun v m1 => v = .one (.c (.g (.bool b))) ∧ m1 = [pr L b, .sym 1 vs]) ?_ (fun v m1 h => ⟨_, rfl, by rw [h.1]; rfl, h.2⟩)
  obtain ⟨I, hI⟩ := ref
  refine fn_sim hI (mo hp) (cc hp c14) fun Post hP => ?_
  cbv
  exact hP _ _ [0, 1] [] _ _ (by decide) rfl rfl rfl rfl rfl ⟨rfl, rfl⟩
theorem values (L vs : List (List G)) (b : BB) (hl : vs.length * 8 ≤ 140737488355328) : LValid P 11 [.c (.ptr 0 (.lit 0) 3 0)] [pr L b, .sym 1 vs] (fun v m1 => v = .one (.c (.row 2 1 none)) ∧ m1 = [pr L b, .sym 1 vs, .sym 1 vs]) := by
  obtain ⟨I, hI⟩ := ref
  refine fn_sim hI (mo hp) (cc hp c11) fun Post hP => ?_
  cbv
  refine .go [] [] [.bor 1] (cloneI hp vs hl) rfl rfl rfl rfl rfl rfl ?_
  rintro v m1 ⟨rfl, rfl⟩
  cbv
  exact hP _ _ [0, 1, 2] [] _ _ (by decide) rfl rfl rfl rfl rfl ⟨rfl, rfl⟩
theorem begin_ (L vs : List (List G)) (b : BB) (hv : vs.length ≤ L.length) (hl : L.length * 24 ≤ 140737488355328) : LValid P 9 [.c (.ptr 0 (.lit 0) 3 0)] [pr L b, .sym 1 vs]
    (fun v m1 => ∃ t, v = i64 t ∧ ((t = 6 ∧ (b.val = true ∨ vs.length = L.length) ∧ m1 = [pr L (.sym b.val), .sym 1 vs]) ∨ (t = 0 ∧ b.val = false ∧ vs.length < L.length ∧ m1 = [pr L (.sym true), .sym 1 vs]))) := by
  refine LValid.syAll ?_
  show LValid P 9 [.c (.ptr 0 (.lit 0) 3 0)] [pr L (.sym b.val), .sym 1 vs] _
  generalize b.val = b
  refine LValid.syvm (R := fun v m1 => ∃ z : Z, v = .one (.c (.g (.int .i64 z))) ∧ ((z.val = 6 ∧ (b = true ∨ vs.length = L.length) ∧ m1 = [pr L (.sym b), .sym 1 vs]) ∨ (z.val = 0 ∧ b = false ∧ vs.length < L.length ∧ m1 = [pr L (.lit true), .sym 1 vs]))) ?_ (fun v m1 h => by
    obtain ⟨z, rfl, h⟩ := h
    exact ⟨z.val, rfl, h.imp (fun ⟨h1, h2, h3⟩ => ⟨h1, h2, by rw [h3]; rfl⟩) (fun ⟨h1, h2, h3, h4⟩ => ⟨h1, h2, h3, by rw [h4]; rfl⟩)⟩)
  obtain ⟨I, hI⟩ := ref
  refine fn_sim hI (mo hp) (cc hp c9) fun Post hP => ?_
  cbv
  refine .br (fun h => ?_) (fun h => ?_)
  · cbv
    exact hP _ _ [0, 1] [] _ _ (by decide) rfl rfl rfl rfl rfl ⟨_, rfl, .inl ⟨rfl, .inl h, rfl⟩⟩
  · cbv
    refine .go [0, 1] [] [] (left hp L vs (.sym b) hv hl) rfl rfl rfl rfl rfl rfl ?_
    rintro v m1 ⟨t, ht, rfl, rfl⟩
    cbv
    refine .br (fun h2 => ?_) (fun h2 => ?_)
    · have h2 : t = 0 := by simpa [hI, ints, rCmp] using h2
      cbv
      exact hP _ _ [0, 1] [] _ _ (by decide) rfl rfl rfl rfl rfl ⟨_, rfl, .inl ⟨rfl, .inr (by unfold isN at ht; omega), rfl⟩⟩
    · have h2 : ¬ t = 0 := by simpa [hI, ints, rCmp] using h2
      cbv
      exact hP _ _ [0, 1] [] _ _ (by decide) rfl rfl rfl rfl rfl ⟨_, rfl, .inr ⟨rfl, h, by unfold isN at ht; omega, rfl⟩⟩
theorem end_ (L vs : List (List G)) (b : BB) (z : Z) (hl : vs.length * 8 + 8 ≤ 140737488355328) : LValid P 10 [.c (.ptr 0 (.lit 0) 3 0), .c (.g (.int .i64 z))] [pr L b, .sym 1 vs]
    (fun v m1 => ∃ t, v = i64 t ∧ ((t = 6 ∧ b.val = false ∧ m1 = [pr L (.sym b.val), .sym 1 vs]) ∨ (t = 0 ∧ b.val = true ∧ ∃ vs', vs' = vs ++ [[.int .i64 (.sym z.val)]] ∧ m1 = [.lit 3 [[.g (.rows 3 L), .row 2 1 none, .g (.bool (.sym false))]], .dead, .sym 1 vs']))) := by
  refine LValid.syAll ?_
  show LValid P 10 [.c (.ptr 0 (.lit 0) 3 0), .c (.g (.int .i64 (.sym z.val)))] [pr L (.sym b.val), .sym 1 vs] _
  generalize b.val = b, z.val = z
  refine LValid.syvm (R := fun v m1 => ∃ t : Z, v = .one (.c (.g (.int .i64 t))) ∧ ((t.val = 6 ∧ b = false ∧ m1 = [pr L (.sym b), .sym 1 vs]) ∨ (t.val = 0 ∧ b = true ∧ ∃ vs', vs' = vs ++ [[.int .i64 (.sym z)]] ∧ m1 = [.lit 3 [[.g (.rows 3 L), .row 2 1 none, .g (.bool (.lit false))]], .dead, .sym 1 vs']))) ?_ (fun v m1 h => by
    obtain ⟨t, rfl, h⟩ := h
    exact ⟨t.val, rfl, h.imp (fun ⟨h1, h2, h3⟩ => ⟨h1, h2, by rw [h3]; rfl⟩) (fun ⟨h1, h2, vs', h3, h4⟩ => ⟨h1, h2, vs', h3, by rw [h4]; rfl⟩)⟩)
  obtain ⟨I, hI⟩ := ref
  refine fn_sim hI (mo hp) (cc hp c10) fun Post hP => ?_
  cbv
  refine .br (fun h => ?_) (fun h => ?_)
  · have h : b = false := by simpa [hI, ints] using h
    cbv
    exact hP _ _ [0, 1] [] _ _ (by decide) rfl rfl rfl rfl rfl ⟨_, rfl, .inl ⟨rfl, h, rfl⟩⟩
  · have h : b = true := by simpa [hI, ints] using h
    cbv
    refine .most (by have : (I.app vs [[.int .i64 (.sym z)]]).length * 8 ≤ 140737488355328 := by rw [hI]; simp [ints]; omega
                     rw [hI] at this ⊢; exact this) (by rw [hI]; simp [ints]; omega) ?_
    cbv
    exact hP _ _ [0, 1, 3] [] _ _ (by decide) rfl rfl rfl rfl rfl ⟨_, rfl, .inr ⟨rfl, h, _, by rw [hI]; rfl, rfl⟩⟩
theorem current (L vs : List (List G)) (ops : List (Int × Int × Int)) (b : BB) (hL : isO L ops) (hv : vs.length ≤ ops.length) (hl : ops.length * 24 ≤ 140737488355328) : LValid P 8 [.c (.ptr 0 (.lit 0) 3 0)] [pr L b, .sym 1 vs]
    (fun v m1 => ∃ (op : Int × Int × Int) (i : Int) (ok : Bool), (ok = true ∧ ops[vs.length]? = some op ∧ isN i vs.length ∨ ok = false ∧ vs.length = ops.length ∧ op = (0, 0, 0) ∧ i = 0) ∧
      v = .tup [.agg [.g (.int .i64 (.sym op.1)), .g (.int .i64 (.sym op.2.1)), .g (.int .i64 (.sym op.2.2))], gi .i64 i, gb ok] ∧ m1 = [pr L b, .sym 1 vs]) := by
  have hLl := hL.len
  refine LValid.syv (R := fun v m1 => ∃ (op : Z × Z × Z) (i : Z) (ok : BB), (ok.val = true ∧ ops[vs.length]? = some (op.1.val, op.2.1.val, op.2.2.val) ∧ isN i.val vs.length ∨ ok.val = false ∧ vs.length = ops.length ∧ op = (.lit 0, .lit 0, .lit 0) ∧ i.val = 0) ∧
      v = .tup [.agg [.g (.int .i64 op.1), .g (.int .i64 op.2.1), .g (.int .i64 op.2.2)], .c (.g (.int .i64 i)), .c (.g (.bool ok))] ∧ m1 = [pr L b, .sym 1 vs]) ?_ (fun v m1 h => by
    obtain ⟨op, i, ok, h1, rfl, h3⟩ := h
    exact ⟨(op.1.val, op.2.1.val, op.2.2.val), i.val, ok.val, h1.imp id (fun ⟨g1, g2, g3, g4⟩ => ⟨g1, g2, by rw [g3]; rfl, g4⟩), rfl, h3⟩)
  obtain ⟨I, hI⟩ := ref
  refine fn_sim hI (mo hp) (cc hp c8) fun Post hP => ?_
  cbv
  refine .go [0, 1] [] [] (left hp L vs b (by omega) (by omega)) rfl rfl rfl rfl rfl rfl ?_
  rintro v m1 ⟨t, ht, rfl, rfl⟩
  cbv
  refine .br (fun h2 => ?_) (fun h2 => ?_)
  · have h2 : t = 0 := by simpa [hI, ints, rCmp] using h2
    cbv
    exact hP _ _ [0, 1] [] _ _ (by decide) rfl rfl rfl rfl rfl ⟨(.lit 0, .lit 0, .lit 0), _, _, .inr ⟨rfl, by unfold isN at ht; omega, rfl, rfl⟩, rfl, rfl⟩
  · have h2 : ¬ t = 0 := by simpa [hI, ints, rCmp] using h2
    have hlt : vs.length < ops.length := by unfold isN at ht; omega
    have hop : ops[vs.length]? = some ops[vs.length] := List.getElem?_eq_getElem hlt
    generalize ops[vs.length] = op at hop
    have hr : L[vs.length]? = some [.int .i64 (.sym op.1), .int .i64 (.sym op.2.1), .int .i64 (.sym op.2.2)] := by rw [hL.get, hop]; rfl
    cbv
    refine .drawn [2] ?_
    cbv
    refine .idx vs.length (by rw [hI]; rfl) (by rw [hI]; show vs.length < L.length; omega) (.nth _ hr ?_)
    cbv
    have hX : isN (I.ofNat (I.len vs)) vs.length := by rw [hI]; rfl
    exact hP _ _ [0, 1] [] _ _ (by decide) rfl rfl rfl rfl rfl ⟨(.sym op.1, .sym op.2.1, .sym op.2.2), .sym (I.ofNat (I.len vs)), .lit true, .inl ⟨rfl, hop, hX⟩, rfl, rfl⟩
theorem wakes : LValid P 13 [] [] (fun v m1 => v = boo true ∧ m1 = []) := by
  refine LValid.boo ?_
  obtain ⟨I, hI⟩ := ref
  refine fn_sim hI (mo hp) (cc hp c13) fun Post hP => ?_
  cbv
  refine .go [] [] [.bor 3] (new hp [] (by simp)) rfl rfl rfl rfl rfl rfl ?_
  rintro v m1 ⟨rfl, rfl⟩
  cbv
  refine .go [0, 1] [] [] (current hp [] [] [] (.sym false) rfl (Nat.le_refl _) (by simp)) rfl rfl rfl rfl rfl rfl ?_
  rintro v m1 ⟨op, i, ok, h1, rfl, rfl⟩
  have hok : ok = false := by
    rcases h1 with ⟨_, h1, _⟩ | ⟨h1, _⟩
    · simp at h1
    · exact h1
  cbv
  refine br_t (by rw [hI, hok]; rfl) ?_
  cbv
  refine .go [0, 1] [] [] (begin_ hp [] [] (.sym false) (Nat.le_refl _) (by simp)) rfl rfl rfl rfl rfl rfl ?_
  rintro v m1 ⟨t, rfl, hm⟩
  obtain ⟨ht, rfl⟩ : t = 6 ∧ m1 = [pr [] (.sym false), .sym 1 []] := by
    rcases hm with ⟨h1, _, h2⟩ | ⟨_, _, h, _⟩
    · exact ⟨h1, h2⟩
    · simp at h
  cbv
  refine br_t (by rw [hI, ht]; rfl) ?_
  cbv
  refine .go [0, 1] [] [] (left hp [] [] (.sym false) (Nat.le_refl _) (by simp)) rfl rfl rfl rfl rfl rfl ?_
  rintro v m1 ⟨t2, ht2, rfl, rfl⟩
  cbv
  exact hP _ _ [] [] _ _ .nil rfl rfl rfl rfl rfl ⟨_, rfl, by
    have : t2 = 0 := ht2
    rw [hI, this]
    rfl, rfl⟩
end
end Go.Proofs.Ytkpilokfplpjnaa.E
