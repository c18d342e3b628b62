/- Contracts: packets in a queue. -/
import Derived.Test.YtioihcojooibmaaQA
import Derived.Test.YtioihcojooibmaaDel
namespace Go.Proofs.Ytioihcojooibmaa.E
open Go
set_option linter.unusedVariables false
set_option maxRecDepth 100000

/-- A packet. -/
structure PK where
  k : Int
  f : Int
  t : Int
  i : Int
  l : Int
  p : Int
  s : Int
  b : Bool
  d : List Int
  deriving DecidableEq
def PK.row (q : PK) (D : List (List G)) : List G := [.int .i64 (.sym q.k), .int .i64 (.sym q.f), .int .i64 (.sym q.t), .int .i64 (.sym q.i), .int .i64 (.sym q.l), .int .i64 (.sym q.p), .int .i64 (.sym q.s), .bool (.sym q.b), .rows 1 D]
/-- A packet that is told, its data in cell c. -/
def PK.told (q : PK) (c : C) : V1 := .agg [.g (.int .i64 (.sym q.k)), .g (.int .i64 (.sym q.f)), .g (.int .i64 (.sym q.t)), .g (.int .i64 (.sym q.i)), .g (.int .i64 (.sym q.l)), .g (.int .i64 (.sym q.p)), .g (.int .i64 (.sym q.s)), .g (.bool (.sym q.b)), c]
def PK.nought : PK := ⟨0, 0, 0, 0, 0, 0, 0, false, []⟩
structure PZ where
  k : Z
  f : Z
  t : Z
  i : Z
  l : Z
  p : Z
  s : Z
  b : BB
def PZ.pk (q : PZ) (d : List Int) : PK := ⟨q.k.val, q.f.val, q.t.val, q.i.val, q.l.val, q.p.val, q.s.val, q.b.val, d⟩
/-- A packet that is handed in, its data lent. -/
def PZ.arg (q : PZ) (D : List (List G)) : V1 := .agg [.g (.int .i64 q.k), .g (.int .i64 q.f), .g (.int .i64 q.t), .g (.int .i64 q.i), .g (.int .i64 q.l), .g (.int .i64 q.p), .g (.int .i64 q.s), .g (.bool q.b), .bor 1 D]
theorem eraseIdx_map {α β : Type} (f : α → β) : ∀ (l : List α) (i : Nat), (l.eraseIdx i).map f = (l.map f).eraseIdx i
  | [], _ => by simp
  | a :: l, 0 => by simp
  | a :: l, i + 1 => by simp [eraseIdx_map f l i]
def isP (L : List (List G)) (ps : List PK) : Prop := L = ps.map fun q => q.row (nrow .i64 q.d)
theorem isP.len {L : List (List G)} {ps : List PK} (h : isP L ps) : L.length = ps.length := by rw [h]; simp
theorem isP.get {L : List (List G)} {ps : List PK} (h : isP L ps) {i : Nat} {q : PK} (hq : ps[i]? = some q) : ∃ D, isL .i64 D q.d ∧ L[i]? = some (q.row D) := ⟨nrow .i64 q.d, rfl, by rw [h]; simp [hq]⟩
theorem isP.app {L : List (List G)} {ps : List PK} (h : isP L ps) (q : PK) (D : List (List G)) (hD : isL .i64 D q.d) : isP (L ++ [q.row D]) (ps ++ [q]) := by unfold isP at h ⊢; rw [h, hD]; simp
theorem isP.del {L : List (List G)} {ps : List PK} (h : isP L ps) (i : Nat) : isP (L.eraseIdx i) (ps.eraseIdx i) := by unfold isP at h ⊢; rw [h]; exact (eraseIdx_map _ ps i).symm
def qu (rm : Int) (c : C) : Blk := .lit 2 [[c, .g (.int .i64 (.sym rm))]]
section
variable {P : Program} (hp : P = Try.prog)
include hp
theorem cloneI (l : List (List G)) (hl : l.length * 8 ≤ 140737488355328) : LValid P 23 [.c (.bor 1 l)] [] (fun v m1 => v = .one (.c (.row 0 1 none)) ∧ m1 = [.sym 1 l]) := by
  refine LValid.own (R := fun v m1 => (v = .one (.c (.row 0 1 none)) ∧ m1 = [.sym 1 l]) ∨ (v = .one (.c (.g .nil)) ∧ m1 = [] ∧ l = [])) 1 ?_ (fun v m1 h => h.imp id (fun ⟨h1, h2, h3⟩ => ⟨h1, by rw [h2, h3]; exact ⟨rfl, rfl⟩⟩))
  obtain ⟨I, hI⟩ := ref
  refine fn_sim hI (mo hp) (cc hp c23) fun Post hP => ?_
  cbv
  refine .isnil (fun h => ?_) ?_
  · cbv
    exact hP _ _ [] [] _ _ .nil rfl rfl rfl rfl rfl (.inr ⟨rfl, rfl, h⟩)
  · cbv
    refine .most (by simpa [hI, ints] using hl) (by simp [hI, ints]; omega) ?_
    cbv
    exact hP _ _ [1] [] _ _ (by decide) rfl rfl rfl rfl rfl (.inl ⟨rfl, by rw [hI]; rfl⟩)
theorem own_ (z : PZ) (D : List (List G)) (d : List Int) (hD : isL .i64 D d) (hl : D.length * 8 ≤ 140737488355328) : LValid P 21 [z.arg D] [] (fun v m1 => v = .one ((z.pk d).told (.row 0 1 none)) ∧ m1 = [.sym 1 D]) := by
  refine LValid.syvm (R := fun v m1 => v = .one (.agg [.g (.int .i64 z.k), .g (.int .i64 z.f), .g (.int .i64 z.t), .g (.int .i64 z.i), .g (.int .i64 z.l), .g (.int .i64 z.p), .g (.int .i64 z.s), .g (.bool z.b), .row 0 1 none]) ∧ m1 = [.sym 1 D]) ?_ (fun v m1 h => by obtain ⟨rfl, rfl⟩ := h; exact ⟨rfl, rfl⟩)
  obtain ⟨zk, zf, zt, zi, zl, zp, zs, zb⟩ := z
  obtain ⟨I, hI⟩ := ref
  refine fn_sim hI (mo hp) (cc hp c21) fun Post hP => ?_
  cbv
  refine .go [] [] [] (cloneI hp D hl) rfl rfl rfl rfl rfl rfl ?_
  rintro v m1 ⟨rfl, rfl⟩
  cbv
  exact hP _ _ [2] [] _ _ (by decide) rfl rfl rfl rfl rfl ⟨rfl, rfl⟩
/-- The same, its data frozen. -/
theorem ownF (z : PZ) (D : List (List G)) (d : List Int) (hD : isL .i64 D d) (hl : D.length * 8 ≤ 140737488355328) : LValid P 21 [z.arg D] [] (fun v m1 => v = .one ((z.pk d).told (.g (.rows 1 D))) ∧ m1 = []) := by
  refine LValid.syvm (R := fun v m1 => v = .one (.agg [.g (.int .i64 z.k), .g (.int .i64 z.f), .g (.int .i64 z.t), .g (.int .i64 z.i), .g (.int .i64 z.l), .g (.int .i64 z.p), .g (.int .i64 z.s), .g (.bool z.b), .g (.rows 1 D)]) ∧ m1 = []) ?_ (fun v m1 h => by obtain ⟨rfl, rfl⟩ := h; exact ⟨rfl, rfl⟩)
  obtain ⟨zk, zf, zt, zi, zl, zp, zs, zb⟩ := z
  obtain ⟨I, hI⟩ := ref
  refine fn_sim hI (mo hp) (cc hp c21) fun Post hP => ?_
  cbv
  refine .go [] [] [] (cloneI hp D hl) rfl rfl rfl rfl rfl rfl ?_
  rintro v m1 ⟨rfl, rfl⟩
  cbv
  exact hP _ _ [] [2] _ _ .nil rfl rfl rfl rfl rfl ⟨rfl, rfl⟩
theorem new (room : Z) : LValid P 8 [.c (.g (.int .i64 room))] [] (fun v m1 => ∃ rm, rm = max 0 room.val ∧ v = .one (.c (.ptr 0 (.lit 0) 2 0)) ∧ m1 = [qu rm (.row 1 9 none), .sym 9 []]) := by
  refine LValid.sy ?_
  show LValid P 8 [.c (.g (.int .i64 (.sym room.val)))] [] _
  generalize room.val = z
  refine LValid.ownField (R := fun v m1 => ∃ rm, rm = max 0 z ∧ v = .one (.c (.ptr 0 (.lit 0) 2 0)) ∧ m1 = [qu rm (.g .nil)]) 9 0 0 0 ?_ (fun v m1 h => by obtain ⟨rm, h1, rfl, rfl⟩ := h; exact ⟨2, _, _, rfl, rfl, rfl, rm, h1, rfl, rfl⟩)
  obtain ⟨I, hI⟩ := ref
  refine fn_sim hI (mo hp) (cc hp c8) fun Post hP => ?_
  cbv
  have hX : I.mx 0 z = max 0 z := by
    rw [hI]
    show (if z > 0 then z else 0) = _
    split <;> omega
  exact hP _ _ [0] [] _ _ (by decide) rfl rfl rfl rfl rfl ⟨_, hX, rfl, rfl⟩
theorem room_ (rm : Int) (L : List (List G)) (h0 : 0 ≤ rm) (h1 : rm ≤ 1000000) (hl : L.length ≤ 1000000) : LValid P 13 [.c (.ptr 0 (.lit 0) 2 0)] [qu rm (.row 1 9 none), .sym 9 L] (fun v m1 => ∃ t, t = rm - L.length ∧ v = i64 t ∧ m1 = [qu rm (.row 1 9 none), .sym 9 L]) := by
  obtain ⟨I, hI⟩ := ref
  refine fn_sim hI (mo hp) (cc hp c13) fun Post hP => ?_
  cbv
  refine .drawn [] ?_
  cbv
  have hX : I.bin .sub .i64 rm (I.ofNat (I.len L)) = rm - L.length := by
    rw [hI]
    simp only [ints, rBin]
    rw [wrap_in] <;> omega
  exact hP _ _ [0, 1] [] _ _ (by decide) rfl rfl rfl rfl rfl ⟨_, hX, rfl, rfl⟩
theorem len_ (rm : Int) (L : List (List G)) : LValid P 12 [.c (.ptr 0 (.lit 0) 2 0)] [qu rm (.row 1 9 none), .sym 9 L] (fun v m1 => ∃ t, t = ((L.length : Nat) : Int) ∧ v = i64 t ∧ m1 = [qu rm (.row 1 9 none), .sym 9 L]) := by
  obtain ⟨I, hI⟩ := ref
  refine fn_sim hI (mo hp) (cc hp c12) fun Post hP => ?_
  cbv
  have hX : I.ofNat (I.len L) = ((L.length : Nat) : Int) := by rw [hI]; rfl
  exact hP _ _ [0, 1] [] _ _ (by decide) rfl rfl rfl rfl rfl ⟨_, hX, rfl, rfl⟩
theorem put (z : PZ) (D : List (List G)) (d : List Int) (hD : isL .i64 D d) (hd : D.length * 8 ≤ 140737488355328) (rm : Int) (L : List (List G)) (h0 : 0 ≤ rm) (h1 : rm ≤ 1000000) (hl : L.length ≤ 1000000) : LValid P 9 [.c (.ptr 0 (.lit 0) 2 0), z.arg D] [qu rm (.row 1 9 none), .sym 9 L]
    (fun v m1 => ∃ t, v = i64 t ∧ ((t = 5 ∧ (L.length : Int) = rm ∧ m1 = [qu rm (.row 1 9 none), .sym 9 L]) ∨ (t = 0 ∧ (L.length : Int) ≠ rm ∧ ∃ L', L' = L ++ [(z.pk d).row D] ∧ m1 = [qu rm (.row 2 9 none), .dead, .sym 9 L']))) := by
  refine LValid.sy ?_
  obtain ⟨q, hq⟩ : ∃ q, q = z.pk d := ⟨_, rfl⟩
  show LValid P 9 [.c (.ptr 0 (.lit 0) 2 0), .agg [.g (.int .i64 (.sym z.k.val)), .g (.int .i64 (.sym z.f.val)), .g (.int .i64 (.sym z.t.val)), .g (.int .i64 (.sym z.i.val)), .g (.int .i64 (.sym z.l.val)), .g (.int .i64 (.sym z.p.val)), .g (.int .i64 (.sym z.s.val)), .g (.bool (.sym z.b.val)), .bor 1 D]] _ _
  rw [show z.pk d = ⟨z.k.val, z.f.val, z.t.val, z.i.val, z.l.val, z.p.val, z.s.val, z.b.val, d⟩ from rfl]
  generalize z.k.val = k, z.f.val = f, z.t.val = t, z.i.val = i, z.l.val = l, z.p.val = p, z.s.val = s, z.b.val = b
  clear hq q
  refine LValid.syv (R := fun v m1 => ∃ t' : Z, v = .one (.c (.g (.int .i64 t'))) ∧ ((t'.val = 5 ∧ (L.length : Int) = rm ∧ m1 = [qu rm (.row 1 9 none), .sym 9 L]) ∨ (t'.val = 0 ∧ (L.length : Int) ≠ rm ∧ ∃ L', L' = L ++ [PK.row ⟨k, f, t, i, l, p, s, b, d⟩ D] ∧ m1 = [qu rm (.row 2 9 none), .dead, .sym 9 L']))) ?_ (fun v m1 h => by obtain ⟨t', rfl, h⟩ := h; exact ⟨t'.val, rfl, h⟩)
  obtain ⟨I, hI⟩ := ref
  refine fn_sim hI (mo hp) (cc hp c9) fun Post hP => ?_
  have hap : I.app L [PK.row ⟨k, f, t, i, l, p, s, b, d⟩ D] = L ++ [PK.row ⟨k, f, t, i, l, p, s, b, d⟩ D] := by rw [hI]; rfl
  have hm1 : I.len (I.app L [PK.row ⟨k, f, t, i, l, p, s, b, d⟩ D]) * 88 ≤ 140737488355328 := by rw [hap, hI]; simp [ints]; omega
  have hm2 : I.len (I.app L [PK.row ⟨k, f, t, i, l, p, s, b, d⟩ D]) ≤ 140737488355328 := by rw [hap, hI]; simp [ints]; omega
  cbv
  refine .go [0, 1] [] [] (room_ hp rm L h0 h1 hl) rfl rfl rfl rfl rfl rfl ?_
  rintro v m1 ⟨t0, ht0, rfl, rfl⟩
  cbv
  refine .br (fun h => ?_) (fun h => ?_)
  · have h : t0 = 0 := by simpa [hI, ints, rCmp] using h
    cbv
    exact hP _ _ [0, 1] [] _ _ (by decide) rfl rfl rfl rfl rfl ⟨_, rfl, .inl ⟨rfl, by omega, rfl⟩⟩
  · have h : ¬ t0 = 0 := by simpa [hI, ints, rCmp] using h
    cbv
    refine .drawn [0, 1] ?_
    cbv
    repeat' (first
      | (refine .both ?_ ?_ <;> cbv)
      | (refine .go [] [] [] (ownF hp ⟨.sym k, .sym f, .sym t, .sym i, .sym l, .sym p, .sym s, .sym b⟩ D d hD hd) rfl rfl rfl rfl rfl rfl ?_; rintro v m1 ⟨rfl, rfl⟩; cbv)
      | (refine .most hm1 hm2 ?_; cbv))
    all_goals exact hP _ _ [0, 1, 4] [] _ _ (by decide) rfl rfl rfl rfl rfl ⟨_, rfl, .inr ⟨rfl, by omega, _, hap, rfl⟩⟩
/-- The packet at a place, or none. -/
theorem get (z : Z) (rm : Int) (L : List (List G)) (ps : List PK) (hL : isP L ps) (hd : ∀ q ∈ ps, q.d.length * 8 ≤ 140737488355328) (hl : L.length ≤ 1000000) : LValid P 10 [.c (.ptr 0 (.lit 0) 2 0), .c (.g (.int .i64 z))] [qu rm (.row 1 9 none), .sym 9 L]
    (fun v m1 => (((z.val < 0 ∨ ∃ i, isN z.val i ∧ ps.length ≤ i) ∧ v = .tup [PK.nought.told (.g .nil), gb false] ∧ m1 = [qu rm (.row 1 9 none), .sym 9 L])) ∨ (∃ i q D, isN z.val i ∧ ps[i]? = some q ∧ isL .i64 D q.d ∧ v = .tup [q.told (.row 2 1 none), gb true] ∧ m1 = [qu rm (.row 1 9 none), .sym 9 L, .sym 1 D])) := by
  refine LValid.sy ?_
  show LValid P 10 [.c (.ptr 0 (.lit 0) 2 0), .c (.g (.int .i64 (.sym z.val)))] _ _
  generalize z.val = z
  refine LValid.syv (R := fun v m1 => ((z < 0 ∨ ∃ i, isN z i ∧ ps.length ≤ i) ∧ v = .tup [.agg [.g (.int .i64 (.lit 0)), .g (.int .i64 (.lit 0)), .g (.int .i64 (.lit 0)), .g (.int .i64 (.lit 0)), .g (.int .i64 (.lit 0)), .g (.int .i64 (.lit 0)), .g (.int .i64 (.lit 0)), .g (.bool (.lit false)), .g .nil], .c (.g (.bool (.lit false)))] ∧ m1 = [qu rm (.row 1 9 none), .sym 9 L]) ∨ (∃ i q D, isN z i ∧ ps[i]? = some q ∧ isL .i64 D q.d ∧ v = .tup [q.told (.row 2 1 none), .c (.g (.bool (.lit true)))] ∧ m1 = [qu rm (.row 1 9 none), .sym 9 L, .sym 1 D])) ?_ (fun v m1 h => h.imp (fun ⟨h1, h2, h3⟩ => ⟨h1, by rw [h2]; rfl, h3⟩) (fun ⟨i, q, D, h0, h1, h2, h3, h4⟩ => ⟨i, q, D, h0, h1, h2, by rw [h3]; rfl, h4⟩))
  obtain ⟨I, hI⟩ := ref
  have hle : I.len L = ps.length := by rw [hI]; exact hL.len
  refine fn_sim hI (mo hp) (cc hp c10) fun Post hP => ?_
  cbv
  refine .br (fun h => ?_) (fun h => ?_)
  · have h1 : z < 0 := by simpa [hI, ints, rCmp] using h
    cbv
    exact hP _ _ [0, 1] [] _ _ (by decide) rfl rfl rfl rfl rfl (.inl ⟨.inl h1, rfl, rfl⟩)
  · have h1 : ¬ z < 0 := by simpa [hI, ints, rCmp] using h
    obtain ⟨i, hi⟩ : ∃ i : Nat, isN z i := ⟨z.toNat, by unfold isN; omega⟩
    cbv
    refine .br (fun h2 => ?_) (fun h2 => ?_)
    · have h2 : ps.length ≤ i := by
        have h' : rCmp .geq z ((I.len L : Nat) : Int) = true := by rw [hI] at h2 ⊢; exact h2
        rw [hle] at h'
        have : z ≥ (ps.length : Int) := by simpa [rCmp] using h'
        unfold isN at hi
        omega
      cbv
      exact hP _ _ [0, 1] [] _ _ (by decide) rfl rfl rfl rfl rfl (.inl ⟨.inr ⟨i, hi, h2⟩, rfl, rfl⟩)
    · have h2 : i < ps.length := by
        have h' : rCmp .geq z ((I.len L : Nat) : Int) = false := by rw [hI] at h2 ⊢; exact h2
        rw [hle] at h'
        have : ¬ z ≥ (ps.length : Int) := by simpa [rCmp] using h'
        unfold isN at hi
        omega
      obtain ⟨q, hq⟩ : ∃ q, ps[i]? = some q := ⟨_, List.getElem?_eq_getElem h2⟩
      obtain ⟨D, hD, hr⟩ := hL.get hq
      have hdd : D.length * 8 ≤ 140737488355328 := by rw [hD.len]; exact hd q (List.mem_of_getElem? hq)
      obtain ⟨k, f, t, i2, l, p, s, b, d⟩ := q
      cbv
      refine .idx i hi (show i < I.len L from by rw [hle]; exact h2) (.nth _ hr ?_)
      cbv
      refine .go [] [] [.bor 1] (own_ hp ⟨.sym k, .sym f, .sym t, .sym i2, .sym l, .sym p, .sym s, .sym b⟩ D d hD hdd) rfl rfl rfl rfl rfl rfl ?_
      rintro v m1 ⟨rfl, rfl⟩
      cbv
      exact hP _ _ [0, 1, 3] [] _ _ (by decide) rfl rfl rfl rfl rfl (.inr ⟨i, ⟨k, f, t, i2, l, p, s, b, d⟩, D, hi, hq, hD, rfl, rfl⟩)
theorem remove (z : Z) (rm : Int) (L : List (List G)) (ps : List PK) (hL : isP L ps) (hd : ∀ q ∈ ps, q.d.length * 8 ≤ 140737488355328) (hl : L.length ≤ 1000000) : LValid P 11 [.c (.ptr 0 (.lit 0) 2 0), .c (.g (.int .i64 z))] [qu rm (.row 1 9 none), .sym 9 L]
    (fun v m1 => (((z.val < 0 ∨ ∃ i, isN z.val i ∧ ps.length ≤ i) ∧ v = .tup [PK.nought.told (.g .nil), gb false] ∧ m1 = [qu rm (.row 1 9 none), .sym 9 L])) ∨ (∃ i q D L', isN z.val i ∧ ps[i]? = some q ∧ isL .i64 D q.d ∧ isP L' (ps.eraseIdx i) ∧ v = .tup [q.told (.row 3 1 none), gb true] ∧ m1 = [qu rm (.row 2 9 none), .dead, .sym 9 L', .sym 1 D])) := by
  refine LValid.sy ?_
  show LValid P 11 [.c (.ptr 0 (.lit 0) 2 0), .c (.g (.int .i64 (.sym z.val)))] _ _
  generalize z.val = z
  obtain ⟨I, hI⟩ := ref
  have hle : I.len L = ps.length := by rw [hI]; exact hL.len
  refine fn_sim hI (mo hp) (cc hp c11) fun Post hP => ?_
  cbv
  refine .go [0, 1] [] [] (get hp (.sym z) rm L ps hL hd hl) rfl rfl rfl rfl rfl rfl ?_
  rintro v m1 (⟨h1, rfl, rfl⟩ | ⟨i, q, D, hi, h1, hD, rfl, rfl⟩)
  · cbv
    refine br_f rfl ?_
    cbv
    exact hP _ _ [0, 1] [] _ _ (by decide) rfl rfl rfl rfl rfl (.inl ⟨h1, rfl, rfl⟩)
  · obtain ⟨k, f, t, i2, l, p, s, b, d⟩ := q
    have hi : isN z i := hi
    have hpi : i < L.length := by rw [hL.len]; exact (List.getElem?_eq_some_iff.1 h1).1
    have hz1 : I.bin .add .i64 z 1 = (i : Int) + 1 := by
      unfold isN at hi
      rw [hI, hi]
      simp only [ints, rBin]
      rw [wrap_in] <;> omega
    have hdel := delete_ hp L i (.sym z) (.sym (I.bin .add .i64 z 1)) hpi hi hz1 (by omega)
    cbv
    refine br_t rfl ?_
    cbv
    refine .go [1] [] [] hdel rfl rfl rfl rfl rfl rfl ?_
    rintro v m1 ⟨rfl, L', hL', rfl⟩
    cbv
    exact hP _ _ [0, 1, 5, 3] [] _ _ (by decide) rfl rfl rfl rfl rfl (.inr ⟨i, ⟨k, f, t, i2, l, p, s, b, d⟩, D, L', hi, h1, hD, by rw [hL']; exact hL.del i, rfl, rfl⟩)
set_option maxHeartbeats 1000000 in
/-- All of them, in new rows. -/
theorem all_ (rm : Int) (L : List (List G)) (ps : List PK) (hL : isP L ps) (hd : ∀ q ∈ ps, q.d.length * 8 ≤ 140737488355328) (hl : L.length ≤ 1000000) : LValid P 18 [.c (.ptr 0 (.lit 0) 2 0)] [qu rm (.row 1 9 none), .sym 9 L]
    (fun v m1 => ∃ L2, isP L2 ps ∧ v = .one (.c (.row 2 9 none)) ∧ m1 = [qu rm (.row 1 9 none), .sym 9 L, .sym 9 L2]) := by
  obtain ⟨I, hI⟩ := ref
  have hle : I.len L = ps.length := by rw [hI]; exact hL.len
  have hpl : ps.length ≤ 1000000 := by rw [← hL.len]; exact hl
  refine fn_sim hI (mo hp) (cc hp c18) fun Post hP => ?_
  cbv
  refine .own 3 9 rfl ?_
  refine .loop_next (fun n ts m => ∃ (i : Nat) (z c : Int) (O : List (List G)), n = ps.length - i ∧ isN z i ∧ isN c ps.length ∧ i ≤ ps.length ∧ isP O (ps.take i) ∧
      ts = fr 22 [(3, .one (.c (.row 2 9 none))), (9, .one (.c (.row 1 9 none))), (10, i64 c), (11, i64 z)] ∧ m = [qu rm (.row 1 9 none), .sym 9 L, .sym 9 O])
    ps.length _ _ [0, 1, 2] [] [3, 9, 10, 11] (by decide) rfl rfl rfl ⟨0, 0, I.ofNat (I.len L), [], rfl, rfl, by rw [hle, hI]; rfl, Nat.zero_le _, rfl, rfl, rfl⟩ ?_
  rintro next n hnext ts m ⟨i, z, c, O, hn, hz, hc, hi, hO, rfl, rfl⟩
  cbv
  refine .br (fun g1 => ?_) (fun g1 => ?_)
  · have hi1 : i < ps.length := by
      have : z < c := by simpa [hI, ints, rCmp] using g1
      unfold isN at hz hc
      omega
    obtain ⟨q, hq⟩ : ∃ q, ps[i]? = some q := ⟨_, List.getElem?_eq_getElem hi1⟩
    obtain ⟨D, hD, hr⟩ := hL.get hq
    have hdd : D.length * 8 ≤ 140737488355328 := by rw [hD.len]; exact hd q (List.mem_of_getElem? hq)
    have hap : isP (I.app O [q.row D]) (ps.take (i + 1)) := by
      rw [List.take_add_one, hq, hI]
      exact hO.app q D hD
    have hal : I.len (I.app O [q.row D]) = i + 1 := by
      have := hap.len
      rw [List.length_take] at this
      rw [hI] at this ⊢
      rw [show ints.len = List.length from rfl, this]
      omega
    have hm1 : I.len (I.app O [q.row D]) * 88 ≤ 140737488355328 := by rw [hal]; omega
    have hm2 : I.len (I.app O [q.row D]) ≤ 140737488355328 := by rw [hal]; omega
    have hz1 : isN (I.bin .add .i64 z 1) (i + 1) := by unfold isN at hz ⊢; rw [hI]; simp only [ints, rBin]; rw [wrap_in] <;> omega
    obtain ⟨k, f, t, q5, l, p, s, b, d⟩ := q
    cbv
    refine .idx i hz (show i < I.len L from by rw [hle]; exact hi1) (.nth _ hr ?_)
    cbv
    refine .go [] [] [.bor 1] (ownF hp ⟨.sym k, .sym f, .sym t, .sym q5, .sym l, .sym p, .sym s, .sym b⟩ D d hD hdd) rfl rfl rfl rfl rfl rfl ?_
    rintro v m1 ⟨rfl, rfl⟩
    cbv
    refine .most hm1 hm2 ?_
    cbv
    exact hnext _ _ (ps.length - (i + 1)) [0, 1, 5] [] [3, 9, 10, 11] _ _ (by omega) (by decide) rfl rfl rfl ⟨i + 1, _, c, _, rfl, hz1, hc, hi1, hap, rfl, rfl⟩
  · have hi1 : i = ps.length := by
      have : ¬ z < c := by simpa [hI, ints, rCmp] using g1
      unfold isN at hz hc
      omega
    cbv
    exact hP _ _ [0, 1, 2] [] _ _ (by decide) rfl rfl rfl rfl rfl ⟨O, by rw [hi1, List.take_length] at hO; exact hO, rfl, rfl⟩
theorem wakes : LValid P 14 [] [] (fun v m1 => v = boo true ∧ m1 = []) := by
  refine LValid.boo ?_
  obtain ⟨I, hI⟩ := ref
  refine fn_sim hI (mo hp) (cc hp c14) fun Post hP => ?_
  cbv
  refine .go [] [] [] (new hp (.lit 1)) rfl rfl rfl rfl rfl rfl ?_
  rintro v m1 ⟨rm, hrm, rfl, rfl⟩
  have hrm : rm = 1 := hrm
  subst hrm
  cbv
  refine .go [0, 1] [] [] (get hp (.lit 0) 1 [] [] rfl (by simp) (by simp)) rfl rfl rfl rfl rfl rfl ?_
  rintro v m1 hm
  obtain ⟨rfl, rfl⟩ : v = .tup [PK.nought.told (.g .nil), gb false] ∧ m1 = [qu 1 (.row 1 9 none), .sym 9 []] := by
    rcases hm with ⟨_, h1, h2⟩ | ⟨i, _, _, hi, h, _⟩
    · exact ⟨h1, h2⟩
    · simp at h
  cbv
  refine br_t (by rw [hI]; rfl) ?_
  cbv
  refine .go [0, 1] [] [.keep, .bor 1] (put hp ⟨_, _, _, _, _, _, _, _⟩ [] [] rfl (by simp) 1 [] (by omega) (by omega) (by simp)) rfl rfl rfl rfl rfl rfl ?_
  rintro v m1 ⟨t, rfl, hm⟩
  obtain ⟨ht, L', hL', rfl⟩ : t = 0 ∧ ∃ L', L'.length = 1 ∧ m1 = [qu 1 (.row 2 9 none), .dead, .sym 9 L'] := by
    rcases hm with ⟨_, h, _⟩ | ⟨h1, _, L', h2, h3⟩
    · simp at h
    · exact ⟨h1, L', by rw [h2]; rfl, h3⟩
  cbv
  refine br_t (by rw [hI, ht]; rfl) ?_
  cbv
  refine .go [0, 3] [] [.keep, .bor 1] (put hp ⟨_, _, _, _, _, _, _, _⟩ [] [] rfl (by simp) 1 L' (by omega) (by omega) (by omega)) rfl rfl rfl rfl rfl rfl ?_
  rintro v m1 ⟨t2, rfl, hm⟩
  obtain ⟨ht2, rfl⟩ : t2 = 5 ∧ m1 = [qu 1 (.row 1 9 none), .sym 9 L'] := by
    rcases hm with ⟨h1, _, h3⟩ | ⟨_, h, _⟩
    · exact ⟨h1, h3⟩
    · rw [hL'] at h; simp at h
  cbv
  refine br_t (by rw [hI, ht2]; rfl) ?_
  cbv
  refine .go [0, 3] [] [] (len_ hp 1 L') rfl rfl rfl rfl rfl rfl ?_
  rintro v m1 ⟨t3, ht3, rfl, rfl⟩
  cbv
  exact hP _ _ [] [] _ _ .nil rfl rfl rfl rfl rfl ⟨_, rfl, by
    rw [hI, ht3, hL']
    rfl, rfl⟩
end
end Go.Proofs.Ytioihcojooibmaa.E
