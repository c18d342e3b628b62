/- Quiet operations: comparisons, structs that are built; all of them in one. -/
import Derived.Test.YtccfcenhpmdemaaE4
namespace Go.Proofs.Ytccfcenhpmdemaa.E
open Go
set_option linter.unusedVariables false

section
variable {P : Program} {I : Ints} {p : Nat} {E : Env} {m : Mem} {w : World} {ts : List A} {a : Act}
variable {wr : Option (List Nat × Nat)} {er : Bool} {o : Oper} {k : A → Mem → Tree}
theorem eqV_bool {x y : V1} {b : BB} (h : eqV I .bool x y = some b) : ∃ c d, x = .c (.g (.bool c)) ∧ y = .c (.g (.bool d)) ∧ b = bEq I c d := by
  unfold eqV at h
  split at h
  all_goals first | (cases h; exact ⟨_, _, rfl, rfl, rfl⟩) | (simp_all; done)
theorem eqV_ptr {x y : V1} {b : BB} (h : eqV I .ptr x y = some b) : (x = .c (.g .nilp) ∧ y = .c (.g .nilp) ∧ b = .lit true) ∨ (∃ b' i es j, x = .c (.ptr b' i es j) ∧ y = .c (.g .nilp) ∧ b = .lit false) ∨ ∃ b' i es j, x = .c (.g .nilp) ∧ y = .c (.ptr b' i es j) ∧ b = .lit false := by
  unfold eqV at h
  split at h
  all_goals first | (cases h; exact .inl ⟨rfl, rfl, rfl⟩) | (cases h; exact .inr (.inl ⟨_, _, _, _, rfl, rfl, rfl⟩)) | (cases h; exact .inr (.inr ⟨_, _, _, _, rfl, rfl, rfl⟩)) | (simp_all; done)
theorem eqV_agg {x y : V1} {b : BB} {ks : List Bool} (h : eqV I (.agg ks) x y = some b) : ∃ l r, x = .agg l ∧ y = .agg r ∧ eqCells I ks l r = some b := by
  unfold eqV at h
  split at h
  all_goals first | (rename_i e _ _; cases e; exact ⟨_, _, rfl, rfl, h⟩) | (simp_all; done)
theorem eqV_str {x y : V1} {b : BB} (h : eqV I .str x y = some b) : ∃ c d, x = .c (.g (.str c)) ∧ y = .c (.g (.str d)) ∧ b = .sym (I.seq c d) := by
  unfold eqV at h
  split at h
  all_goals first | (cases h; exact ⟨_, _, rfl, rfl, rfl⟩) | (simp_all; done)
def EqOk (P : Program) (t : TypeId) (kd : EqK) : Prop :=
  (kd = .bool ∧ P.underlying t = some .bool) ∨ (kd = .ptr ∧ ∃ e, P.underlying t = some (.pointer e)) ∨ (kd = .str ∧ P.underlying t = some .string) ∨ ∃ fs ks, kd = .agg ks ∧ P.underlying t = some (.struct fs) ∧ flat P fs.toList 0 = some ks ∧ P.eqGuardType P.depth t = false ∧ P.stoodInHeld t = false
theorem eqV_run (hI : I = ints) {t : TypeId} {kd : EqK} {x y : V1} {b : BB} {u v : Value} (h : eqV I kd x y = some b) (hx : V1Rep E m w x u) (hy : V1Rep E m w y v) (hk : EqOk P t kd) (X Y : Operand) (w' : World) :
    (eqGuard .eql t X Y u v).run P w' = .ok () w' ∧ (eqGuard .neq t X Y u v).run P w' = .ok () w' ∧ (binOp .eql t u v).run P w' = .ok (.bool b.val) w' ∧ (binOp .neq t u v).run P w' = .ok (.bool !b.val) w' := by
  obtain ⟨d, hd⟩ : ∃ d, Op.maxDepth = d + 1 + 1 := ⟨9998, rfl⟩
  rcases hk with ⟨rfl, ht⟩ | ⟨rfl, e, ht⟩ | ⟨rfl, ht⟩ | ⟨fs, ks, rfl, ht, hf, hg, hp⟩
  · obtain ⟨c, e, rfl, rfl, rfl⟩ := eqV_bool h
    rcases hx with hx | hx <;> cases hx
    rcases hy with hy | hy <;> cases hy
    rw [bEq_val hI]
    have : (Op.equal t (.bool c.val) (.bool e.val)).run P w' = .ok (c.val == e.val) w' := by unfold Op.equal; rw [hd]; simp [Op.equalIn, run_underlying ht]
    refine ⟨rfl, rfl, ?_, ?_⟩ <;> simp [binOp, this]
  · rcases eqV_ptr h with ⟨rfl, rfl, rfl⟩ | ⟨b', i, es, j, rfl, rfl, rfl⟩ | ⟨b', i, es, j, rfl, rfl, rfl⟩
    · rcases hx with hx | hx <;> cases hx
      rcases hy with hy | hy <;> cases hy
      have : (Op.equal t (.pointer none) (.pointer none)).run P w' = .ok true w' := by unfold Op.equal; rw [hd]; simp [Op.equalIn, run_underlying ht]
      refine ⟨rfl, rfl, ?_, ?_⟩ <;> simp [binOp, this]
    · rcases hx with hx | hx
      · cases hx
      rcases hy with hy | hy <;> cases hy
      obtain ⟨_, a_, base, _, rfl⟩ := hx
      have : (Op.equal t (.pointer (some (at_ a_ (base + (i.val * es + j))))) (.pointer none)).run P w' = .ok false w' := by unfold Op.equal; rw [hd]; simp [Op.equalIn, run_underlying ht]
      refine ⟨rfl, rfl, ?_, ?_⟩ <;> simp [binOp, this]
    · rcases hx with hx | hx <;> cases hx
      rcases hy with hy | hy
      · cases hy
      obtain ⟨_, a_, base, _, rfl⟩ := hy
      have : (Op.equal t (.pointer none) (.pointer (some (at_ a_ (base + (i.val * es + j)))))).run P w' = .ok false w' := by unfold Op.equal; rw [hd]; simp [Op.equalIn, run_underlying ht]
      refine ⟨rfl, rfl, ?_, ?_⟩ <;> simp [binOp, this]
  · obtain ⟨c, e, rfl, rfl, rfl⟩ := eqV_str h
    rcases hx with hx | hx <;> cases hx
    rcases hy with hy | hy <;> cases hy
    have hb : (BB.sym (I.seq c e)).val = (c.toList == e.toList) := by rw [hI]; rfl
    rw [hb]
    exact ⟨rfl, rfl, by simp [binOp, Op.stringOp], by simp [binOp, Op.stringOp]⟩
  · obtain ⟨l, r, rfl, rfl, h⟩ := eqV_agg h
    obtain ⟨xs, rfl, _, hx⟩ := hx
    obtain ⟨ys, rfl, _, hy⟩ := hy
    have hfs : P.fieldsOf t = fs := by simp [Program.fieldsOf, ht]
    have : (Op.equal t (.agg xs) (.agg ys)).run P w' = .ok b.val w' := by
      unfold Op.equal
      rw [hd, run_equalIn_struct (P := P) w' (d + 1) t xs ys (by rw [hfs]; exact ht) hp, hfs]
      exact eqFields_run (E := E) (m := m) (w := w) hI w' fs.toList 0 ks l r b hf h (fun i x hi => by simpa using hx i x hi) (fun i x hi => by simpa using hy i x hi)
    refine ⟨run_eqGuard_agg (w := w') .eql t X Y xs ys hg, run_eqGuard_agg (w := w') .neq t X Y xs ys hg, ?_, ?_⟩ <;> simp [binOp, this]
theorem q_eq {t u : TypeId} {X Y : Operand} {x y : Opd} {ng : Bool} {kd : EqK} (hI : I = ints) (hop : o.op = .binOp (match ng with | true => .neq | false => .eql) t X Y u) (hk : EqOk P t kd) (ho : opd X = some x) (ho' : opd Y = some y) (hA : At E m w ts a) (h : Holds P I p (evOp I er wr (.eq ng kd x y) ts m k)) : QRes P I p E m w wr er a o k := by
  obtain ⟨c, hc, h⟩ := ev1_inv ho hA h
  obtain ⟨d, hd, h⟩ := ev1_inv ho' hA h
  split at h
  · rename_i r hr
    cases ng
    · refine ⟨_, _, h, bool_rep _, fun w' _ => ?_⟩
      obtain ⟨h1, h2, h3, h4⟩ := eqV_run hI hr hc hd hk X Y w'
      simp [execOp, hop, h1, h3]
    · refine ⟨_, _, h, bool_rep _, fun w' _ => ?_⟩
      obtain ⟨h1, h2, h3, h4⟩ := eqV_run hI hr hc hd hk X Y w'
      rw [bNot_val hI]
      simp [execOp, hop, h2, h4]
  · exact (holds_fail h).elim

theorem slice_equal {t e : TypeId} (ht : P.underlying t = some (.slice e)) (A_ : Option Addr) (n c : Nat) (w' : World) : (Op.equal t (.slice A_ n c) (.slice none 0 0)).run P w' = .ok A_.isNone w' := by
  obtain ⟨d, hd⟩ : ∃ d, Op.maxDepth = d + 1 + 1 := ⟨9998, rfl⟩
  unfold Op.equal
  rw [hd]
  cases A_ <;> simp [Op.equalIn, run_underlying ht]
theorem q_isNil {t u e : TypeId} {X Y : Operand} {x : Opd} {ng : Bool} (hop : o.op = .binOp (match ng with | true => .neq | false => .eql) t X Y u) (ht : P.underlying t = some (.slice e)) (ho : opd X = some x) (ho' : opd Y = some (.cst (.g .nil))) (hA : At E m w ts a) (h : Holds P I p (evOp I er wr (.isNil ng x) ts m k)) : QRes P I p E m w wr er a o k := by
  obtain ⟨c, hc, h⟩ := evC_inv ho hA h
  have hy : a.eval Y = .slice none 0 0 := by
    have := opd_rep ho' hA
    generalize a.eval Y = vY at this
    rcases this with h | h <;> cases h
    rfl
  have fin : ∀ (A_ : Option Addr) (n q : Nat) (b : Bool), a.eval X = .slice A_ n q → A_.isNone = b → Holds P I p (k (.one (.c (.g (.bool (.lit (b != ng)))))) m) → QRes P I p E m w wr er a o k := by
    intro A_ n q b hx hb hk
    refine ⟨_, _, hk, bool_rep _, fun w' _ => ?_⟩
    have h1 : ∀ w', (binOp .eql t (.slice A_ n q) (.slice none 0 0)).run P w' = .ok (.bool b) w' := fun w' => by simp [binOp, slice_equal ht A_ n q, hb]
    have h2 : ∀ w', (binOp .neq t (.slice A_ n q) (.slice none 0 0)).run P w' = .ok (.bool !b) w' := fun w' => by simp [binOp, slice_equal ht A_ n q, hb]
    have g1 : ∀ w', (eqGuard .eql t X Y (.slice A_ n q) (.slice none 0 0)).run P w' = .ok () w' := fun _ => rfl
    have g2 : ∀ w', (eqGuard .neq t X Y (.slice A_ n q) (.slice none 0 0)).run P w' = .ok () w' := fun _ => rfl
    cases ng
    · simp [execOp, hop, hx, hy, g1, h1, BB.val]
    · simp [execOp, hop, hx, hy, g2, h2, BB.val]
  have row : ∀ (l : List (List G)) (es : Nat) (A_ : Option Addr) (q : Nat) (T : Nat → Prop) (f : Nat → Nat → Value), a.eval X = .slice A_ l.length q → RowAt w T es l A_ f → Holds P I p (.isnil l (fun _ => k (.one (.c (.g (.bool (.lit (!ng)))))) m) (fun _ => k (.one (.c (.g (.bool (.lit ng))))) m)) → QRes P I p E m w wr er a o k := by
    intro l es A_ q T f hx hr h
    cases h with
    | isnil h1 h2 =>
    cases hA_ : A_ with
    | none =>
      have : l = [] := by
        cases l with
        | nil => rfl
        | cons r l =>
          obtain ⟨a_, off, e, _⟩ := hr.some_ (by simp)
          rw [hA_] at e
          cases e
      exact fin A_ _ q true hx (by rw [hA_]; rfl) (by cases ng <;> exact h1 this)
    | some y => exact fin A_ _ q false hx (by rw [hA_]; rfl) (by cases ng <;> exact h2)
  split at h
  · rcases hc with hc | hc
    · cases hc
    · generalize hX : a.eval X = vX at hc
      cases hc
      exact fin none 0 0 true hX rfl (by cases ng <;> exact h)
  · rcases hc with hc | hc
    · cases hc
    · generalize hX : a.eval X = vX at hc
      cases hc with
      | rows u hc hr hg =>
        exact row _ _ _ _ _ _ hX hr h
  · rcases hc with hc | ⟨A_, q, f, hX, _, hr, _⟩
    · cases hc
    · skip
      exact row _ _ _ _ _ _ hX hr h
  · exact (holds_fail h).elim
/-! ### Structs and arrays that are built -/
/-- Cells that are these ones, one by one. -/
def CellsRep (E : Env) (m : Mem) (w : World) (l : List C) (cs : Array Value) : Prop := cs.size = l.length ∧ ∀ (i : Nat) (x : C), l[i]? = some x → ∃ u, cs[i]? = some u ∧ CRep E m w x u
theorem CellsRep.set {l : List C} {cs : Array Value} (h : CellsRep E m w l cs) {c : C} {u : Value} (hc : CRep E m w c u) (j : Nat) : CellsRep E m w (l.set j c) (cs.setIfInBounds j u) := by
  refine ⟨by simpa using h.1, fun i x hi => ?_⟩
  rw [List.getElem?_set] at hi
  by_cases hj : j = i
  · subst hj
    by_cases hl : j < l.length
    · simp only [hl, if_true, Option.some.injEq] at hi
      subst hi
      have : j < cs.size := by rw [h.1]; exact hl
      exact ⟨u, by simp [this], hc⟩
    · simp [hl] at hi
  · simp only [hj, if_false] at hi
    obtain ⟨v, h1, h2⟩ := h.2 i x hi
    exact ⟨v, by rw [Array.getElem?_setIfInBounds_ne hj]; exact h1, h2⟩
theorem fold_setSeg {l : List C} {cs : Array Value} : ∀ (vs : List C) (us : List Value) (j : Nat) (l : List C) (cs : Array Value), CellsRep E m w l cs → us.length = vs.length → (∀ (i : Nat) (x : C), vs[i]? = some x → ∃ u, us[i]? = some u ∧ CRep E m w x u) → ∀ off n, j = off + n →
    CellsRep E m w (setSeg l j vs) ((us.zipIdx n).foldl (fun cs (c, i) => cs.setIfInBounds (off + i) c) cs)
  | [], us, j, l, cs, h, hl, hv, off, n, hj => by
    obtain rfl : us = [] := List.eq_nil_of_length_eq_zero (by simpa using hl)
    exact h
  | x :: vs, us, j, l, cs, h, hl, hv, off, n, hj => by
    cases us with
    | nil => simp at hl
    | cons u us =>
      obtain ⟨u', h1, h2⟩ := hv 0 x rfl
      simp at h1
      subst h1
      subst hj
      simp only [setSeg, List.zipIdx_cons, List.foldl_cons]
      exact fold_setSeg (l := l) (cs := cs) vs us _ _ _ (h.set h2 _) (by simpa using hl) (fun i x hi => by simpa using hv (i + 1) x (by simpa using hi)) off (n + 1) (by omega)
/-- A value's cells. -/
theorem cells_rep {v : V1} {u : Value} (h : V1Rep E m w v u) (hn : v ≠ .c .any) : CellsRep E m w v.cells u.cells ∧ (∀ q ∈ u.cells.toList, q.oneCell' = true) := by
  cases v with
  | c x =>
    rcases h with h | h
    · exact absurd (by rw [h]) hn
    · have h1 := h.one
      have hcs : u.cells = #[u] := by cases u <;> first | rfl | simp [Value.oneCell'] at h1
      rw [hcs]
      refine ⟨⟨rfl, fun i y hi => ?_⟩, by simpa using h1⟩
      cases i with
      | zero => simp [V1.cells] at hi; subst hi; exact ⟨u, rfl, h⟩
      | succ i => simp [V1.cells] at hi
  | agg l =>
    obtain ⟨cs, rfl, h1, h2⟩ := h
    refine ⟨⟨h1, h2⟩, fun q hq => ?_⟩
    obtain ⟨i, hi⟩ := List.mem_iff_getElem?.1 hq
    have hi' : cs[i]? = some q := by simpa [Value.cells] using hi
    obtain ⟨hlt, -⟩ := Array.getElem?_eq_some_iff.1 hi'
    obtain ⟨x, hx⟩ : ∃ x, l[i]? = some x := ⟨l[i]'(by omega), List.getElem?_eq_getElem _⟩
    obtain ⟨u, h3, h4⟩ := h2 i x hx
    rw [hi'] at h3
    cases h3
    exact h4.one
theorem zero_rep {t : TypeId} {z : List C} (h : zero P t = some z) (E : Env) (m : Mem) (w : World) : ∃ i v, P.info? t = some i ∧ i.zero = some v ∧ v.cells.size = i.size ∧ CellsRep E m w z v.cells ∧ (∀ q ∈ v.cells.toList, q.oneCell' = true) := by
  unfold zero at h
  split at h
  · rename_i i hi
    split at h
    · rename_i v hv
      split at h
      · rename_i hs
        have key : ∀ (l : List Value) (z : List C), csts l = some z → l.length = z.length ∧ ∀ (i : Nat) (x : C), z[i]? = some x → ∃ u, l[i]? = some u ∧ CRep E m w x u := by
          intro l
          induction l with
          | nil => intro z hz; cases hz; exact ⟨rfl, fun i x hi => by simp at hi⟩
          | cons v l ih =>
            intro z hz
            simp only [csts] at hz
            split at hz
            · rename_i x l' hx hl
              cases hz
              obtain ⟨h1, h2⟩ := ih l' hl
              refine ⟨by simp [h1], fun i y hi => ?_⟩
              cases i with
              | zero => simp at hi; subst hi; exact ⟨v, rfl, zcst_rep hx E m w⟩
              | succ i => simpa using h2 i y (by simpa using hi)
            · cases hz
        obtain ⟨h1, h2⟩ := key _ _ h
        have hcr : CellsRep E m w z v.cells := ⟨by simpa using h1, fun i x hi => by simpa using h2 i x hi⟩
        refine ⟨i, v, hi, hv, by simpa using hs, hcr, fun q hq => ?_⟩
        obtain ⟨j, hj⟩ := List.mem_iff_getElem?.1 hq
        have hj' : v.cells[j]? = some q := by simpa using hj
        obtain ⟨hlt, -⟩ := Array.getElem?_eq_some_iff.1 hj'
        obtain ⟨x, hx⟩ : ∃ x, z[j]? = some x := ⟨z[j]'(by rw [← hcr.1]; exact hlt), List.getElem?_eq_getElem _⟩
        obtain ⟨u, h3, h4⟩ := hcr.2 j x hx
        rw [hj'] at h3
        cases h3
        exact h4.one
      · cases h
    · cases h
  · cases h
/-- What is put where. -/
inductive Parts (E : Env) (m : Mem) (w : World) (a : Act) (place : Nat → Option (Nat × Nat)) : List (Nat × Operand) → List (Nat × Nat × V1) → Prop where
  | nil : Parts E m w a place [] []
  | cons {i off n : Nat} {X : Operand} {v : V1} {ps : List (Nat × Operand)} {vs : List (Nat × Nat × V1)} (hp : place i = some (off, n)) (hv : V1Rep E m w v (a.eval X)) (hn : v ≠ .c .any) (h : Parts E m w a place ps vs) : Parts E m w a place ((i, X) :: ps) ((off, n, v) :: vs)
theorem fill_places {place : Nat → Option (Nat × Nat)} : ∀ {ps : List (Nat × Operand)} {vs : List (Nat × Nat × V1)} {z cs : List C} {zc : Array Value}, Parts E m w a place ps vs → places z vs = some cs → CellsRep E m w z zc → (∀ q ∈ zc.toList, q.oneCell' = true) →
    ∃ cells, Instr.fill place zc (ps.map fun (i, x) => (i, a.eval x)) = some cells ∧ CellsRep E m w cs cells
  | _, _, z, cs, zc, .nil, h, hz, _ => by cases h; exact ⟨zc, rfl, hz⟩
  | _, _, z, cs, zc, .cons (i := i) (off := off) (n := n) (X := X) (v := v) hp hv hn hP, h, hz, h1 => by
    simp only [places] at h
    split at h
    · rename_i e1 e2
      have e1 : v.cells.length = n := by simpa using e1
      have e2 := of_decide_eq_true e2
      obtain ⟨c1, c2⟩ := cells_rep hv hn
      have hfs := fold_setSeg (l := z) (cs := zc) v.cells (a.eval X).cells.toList off z zc hz (by simpa using c1.1) (fun i x hi => by simpa using c1.2 i x hi) off 0 (by omega)
      have heq : (a.eval X).cells.zipIdx.foldl (fun cs (c, j) => cs.setIfInBounds (off + j) c) zc = ((a.eval X).cells.toList.zipIdx 0).foldl (fun cs (c, i) => cs.setIfInBounds (off + i) c) zc := by
        rw [← Array.foldl_toList, Array.toList_zipIdx]
      obtain ⟨cells, g1, g2⟩ := fill_places (zc := ((a.eval X).cells.toList.zipIdx 0).foldl (fun cs (c, i) => cs.setIfInBounds (off + i) c) zc) hP h hfs (fun q hq => by
        obtain ⟨j, hj⟩ := List.mem_iff_getElem?.1 hq
        have hj' : (((a.eval X).cells.toList.zipIdx 0).foldl (fun cs (c, i) => cs.setIfInBounds (off + i) c) zc)[j]? = some q := by simpa using hj
        obtain ⟨hlt, -⟩ := Array.getElem?_eq_some_iff.1 hj'
        obtain ⟨x, hx⟩ : ∃ x, (setSeg z off v.cells)[j]? = some x := ⟨(setSeg z off v.cells)[j]'(by rw [← hfs.1]; exact hlt), List.getElem?_eq_getElem _⟩
        obtain ⟨u, h3, h4⟩ := hfs.2 j x hx
        rw [hj'] at h3
        cases h3
        exact h4.one)
      refine ⟨cells, ?_, g2⟩
      simp only [List.map_cons, Instr.fill, hp]
      rw [if_neg (by have q1 : (a.eval X).cells.size = v.cells.length := c1.1; have q2 : zc.size = z.length := hz.1; simp only [Bool.or_eq_true, decide_eq_true_eq]; omega), heq]
      exact g1
    · cases h
theorem evParts_inv {t : TypeId} {place : Nat → Option (Nat × Nat)} (hpl : ∀ (fs : Array Field) (i : Nat) (f : Field) (n : Nat), P.underlying t = some (.struct fs) → fs[i]? = some f → size? P f.type = some n → place i = some (f.offset, n)) (hpa : ∀ N e i n, P.underlying t = some (.array N e) → size? P e = some n → place i = some (i * n, n)) :
    ∀ {ps : List (Nat × Operand)} {l : List (Nat × Nat × Opd)} {k : List (Nat × Nat × V1) → Tree}, compBuild P t ps = some l → At E m w ts a → Holds P I p (evParts ts l k) → ∃ vs, Parts E m w a place ps vs ∧ Holds P I p (k vs)
  | [], l, k, hc, hA, h => by cases hc; exact ⟨[], .nil, h⟩
  | (i, X) :: ps, l, k, hc, hA, h => by
    simp only [compBuild] at hc
    split at hc
    · rename_i x l' hx hl
      have fin : ∀ off n, l = (off, n, x) :: l' → place i = some (off, n) → ∃ vs, Parts E m w a place ((i, X) :: ps) vs ∧ Holds P I p (k vs) := by
        rintro off n rfl hp
        obtain ⟨v, h1, h2, h3⟩ := evV_inv hx hA h
        obtain ⟨vs, h4, h5⟩ := evParts_inv hpl hpa hl hA h3
        exact ⟨_, .cons hp h1 h2 h4, h5⟩
      split at hc
      · rename_i fs hfs
        split at hc
        · rename_i f hf
          split at hc
          · rename_i n hn
            cases hc
            exact fin _ _ rfl (hpl fs i f n hfs hf hn)
          · cases hc
        · cases hc
      · rename_i N e he
        split at hc
        · rename_i n hn
          cases hc
          exact fin _ _ rfl (hpa N e i n he hn)
        · cases hc
      · cases hc
    · cases hc
theorem mapM_places : ∀ (fs : List Field), fs.all (fun f => (size? P f.type).isSome) = true → ∃ pl, fs.mapM (fun f => (P.info? f.type).map fun i => (f.offset, i.size)) = some pl ∧ ∀ (i : Nat) (f : Field) (n : Nat), fs[i]? = some f → size? P f.type = some n → pl[i]? = some (f.offset, n)
  | [], _ => ⟨[], rfl, fun i f n hf => by simp at hf⟩
  | f :: fs, h => by
    simp only [List.all_cons, Bool.and_eq_true] at h
    obtain ⟨pl, h1, h2⟩ := mapM_places fs h.2
    unfold size? at h
    cases hq : P.info? f.type with
    | none => simp [hq] at h
    | some inf =>
      refine ⟨(f.offset, inf.size) :: pl, by simp [List.mapM_cons, hq, h1], fun i g n hg hn => ?_⟩
      cases i with
      | zero =>
        simp at hg
        subst hg
        unfold size? at hn
        simp [hq] at hn
        simp [hn]
      | succ i => simpa using h2 i g n (by simpa using hg) hn
theorem q_build {t : TypeId} {ps : Array (Nat × Operand)} {z : List C} {l : List (Nat × Nat × Opd)} (hop : o.op = .build t ps) (hz : zero P t = some z) (hl : compBuild P t ps.toList = some l) (hsz : sized P t = true) (hA : At E m w ts a) (h : Holds P I p (evOp I er wr (.build z l) ts m k)) : QRes P I p E m w wr er a o k := by
  obtain ⟨it, zv, hi, hzv, hs, hzr, hz1⟩ := zero_rep hz E m w
  have key : ∃ place : Nat → Option (Nat × Nat), (∀ (fs : Array Field) (i : Nat) (f : Field) (n : Nat), P.underlying t = some (.struct fs) → fs[i]? = some f → size? P f.type = some n → place i = some (f.offset, n)) ∧ (∀ N e i n, P.underlying t = some (.array N e) → size? P e = some n → place i = some (i * n, n)) ∧
      ∀ parts cells, Instr.fill place zv.cells parts = some cells → P.built t parts = some cells := by
    unfold sized at hsz
    split at hsz
    · rename_i fs hfs
      obtain ⟨pl, h1, h2⟩ := mapM_places fs.toList (by simpa using hsz)
      refine ⟨(pl.toArray[·]?), fun fs' i f n hf hi hn => ?_, fun N e i n he => (by rw [hfs] at he; cases he), fun parts cells hf => ?_⟩
      · rw [hfs] at hf
        cases hf
        simpa using h2 i f n (by simpa using hi) hn
      · simp only [Program.built, hi, hfs, hzv, h1]
        exact hf
    · rename_i N e he
      cases hq : P.info? e with
      | none => simp [size?, hq] at hsz
      | some ie =>
        refine ⟨fun i => some (i * ie.size, ie.size), fun fs i f n hf => (by rw [he] at hf; cases hf), fun N' e' i n he' hn => ?_, fun parts cells hf => ?_⟩
        · rw [he] at he'
          cases he'
          simp [size?, hq] at hn
          simp [hn]
        · simp only [Program.built, hi, he, hzv, hq]
          exact hf
    · cases hsz
  obtain ⟨place, hp1, hp2, hb⟩ := key
  obtain ⟨vs, hP, h⟩ := evParts_inv hp1 hp2 hl hA h
  split at h
  · rename_i cs hcs
    obtain ⟨cells, h1, h2⟩ := fill_places hP hcs hzr hz1
    refine ⟨_, .agg cells, h, ⟨cells, rfl, h2.1, h2.2⟩, fun w' _ => ?_⟩
    have := run_build (P := P) w' t (ps.map fun (i, x) => (i, a.eval x)) cells (by rw [Array.toList_map]; exact hb _ _ h1)
    simp [execOp, hop, this]
  · exact (holds_fail h).elim
/-- **Quiet operations, all of them.** -/
theorem quiet_sim {x : XOp} (hI : I = ints) (hx : comp1 P o = some x) (hq : x.quiet = true) (hA : At E m w ts a) (her : er = true → wr.isSome = true) (h : Holds P I p (evOp I er wr x ts m k)) : QRes P I p E m w wr er a o k := by
  unfold comp1 at hx
  split at hx
  · cases hx; cases hq
  · cases hx; cases hq
  · split at hx
    · cases hx; cases hq
    · cases hx
  · split at hx
    · cases hx; cases hq
    · cases hx
  · split at hx
    · cases hx; cases hq
    · cases hx
  · split at hx
    · cases hx; cases hq
    · cases hx
  · split at hx
    · cases hx; cases hq
    · cases hx
  · rename_i X hop
    obtain ⟨y, hy, rfl⟩ := Option.map_eq_some_iff.1 hx
    exact q_move (.inl hop) hy hA h
  · rename_i X hop
    obtain ⟨y, hy, rfl⟩ := Option.map_eq_some_iff.1 hx
    exact q_move (.inr hop) hy hA h
  · rename_i C_ X Y hop
    split at hx
    · rename_i h1 h2 h3
      cases hx
      exact q_pick hop h1 h2 h3 hA h
    · cases hx
  · obtain ⟨y, hy, rfl⟩ := Option.map_eq_some_iff.1 hx
    cases hq
  · obtain ⟨y, hy, rfl⟩ := Option.map_eq_some_iff.1 hx
    cases hq
  · rename_i t ps hop
    split at hx
    · rename_i h1 h2 h3
      cases hx
      exact q_build hop h1 h2 h3 hA h
    · cases hx
  · split at hx
    · split at hx
      · split at hx
        · cases hx; cases hq
        · cases hx
      · cases hx
    · cases hx
  · rename_i t X hop
    split at hx
    · rename_i h1 h2
      cases hx
      exact q_load hop h1 h2 hA her h
    · cases hx
  · split at hx
    · cases hx; cases hq
    · cases hx
  · rename_i X hop
    obtain ⟨y, hy, rfl⟩ := Option.map_eq_some_iff.1 hx
    exact q_nilCheck hop hy hA h
  · rename_i op t X Y u hop
    split at hx
    · rename_i x1 y1 h1 h2
      unfold compBin at hx
      split at hx
      · split at hx
        · rename_i ha
          cases hx
          exact q_bin hI hop ha h1 h2 hA h
        · rename_i ha _
          cases hx
          exact q_div hI hop ha h1 h2 hA h
        · rename_i ha _ _
          cases hx
          exact q_shift hI hop ha h1 h2 hA h
        · rename_i ha _ _ _
          cases hx
          exact q_cmp hI hop ha h1 h2 hA h
        · cases hx
      · rename_i ht
        split at hx
        · cases hx; exact q_eq (ng := false) hI hop (.inl ⟨rfl, ht⟩) h1 h2 hA h
        · cases hx; exact q_eq (ng := true) hI hop (.inl ⟨rfl, ht⟩) h1 h2 hA h
        · cases hx
      · rename_i e ht
        split at hx
        · cases hx; exact q_eq (ng := false) hI hop (.inr (.inl ⟨rfl, e, ht⟩)) h1 h2 hA h
        · cases hx; exact q_eq (ng := true) hI hop (.inr (.inl ⟨rfl, e, ht⟩)) h1 h2 hA h
        · cases hx
      · rename_i ht
        split at hx
        · cases hx; exact q_eq (ng := false) hI hop (.inr (.inr (.inl ⟨rfl, ht⟩))) h1 h2 hA h
        · cases hx; exact q_eq (ng := true) hI hop (.inr (.inr (.inl ⟨rfl, ht⟩))) h1 h2 hA h
        · cases hx
      · rename_i e ht
        split at hx
        · cases hx; exact q_isNil (ng := false) hop ht h1 h2 hA h
        · cases hx; exact q_isNil (ng := true) hop ht h1 h2 hA h
        · cases hx
      · rename_i fs ht
        split at hx
        · rename_i ks hf hg hp
          split at hx
          · cases hx; exact q_eq (ng := false) hI hop (.inr (.inr (.inr ⟨fs, ks, rfl, ht, hf, hg, hp⟩))) h1 h2 hA h
          · cases hx; exact q_eq (ng := true) hI hop (.inr (.inr (.inr ⟨fs, ks, rfl, ht, hf, hg, hp⟩))) h1 h2 hA h
          · cases hx
        · cases hx
      · cases hx
    · cases hx
  · rename_i op t X hop
    split at hx
    · obtain ⟨y, hy, rfl⟩ := Option.map_eq_some_iff.1 hx
      exact q_not hI hop hy hA h
    · obtain ⟨y, hy, rfl⟩ := Option.map_eq_some_iff.1 hx
      exact q_neg hI hop hy hA h
    · obtain ⟨y, hy, rfl⟩ := Option.map_eq_some_iff.1 hx
      exact q_cpl hI hop hy hA h
    · cases hx
  · rename_i s d X hop
    split at hx
    · rename_i h1 h2
      obtain ⟨y, hy, rfl⟩ := Option.map_eq_some_iff.1 hx
      exact q_conv hI hop h1 h2 hy hA h
    · split at hx
      · obtain ⟨y, hy, rfl⟩ := Option.map_eq_some_iff.1 hx
        cases hq
      · cases hx
    · split at hx
      · cases hx; cases hq
      · cases hx
    · cases hx
  · rename_i s X f hop
    split at hx
    · rename_i fs hs
      split at hx
      · rename_i fd y hf hy
        split at hx
        · rename_i n hn
          split at hx
          · rename_i hz
            cases hx
            exact q_fieldAddr hop hs hf hn (by simpa using hz) hy hA h
          · cases hx
        · cases hx
      · cases hx
    · cases hx
  · rename_i s X f hop
    split at hx
    · rename_i fs hs
      split at hx
      · rename_i fd y hf hy
        split at hx
        · rename_i ag hag
          cases hx
          exact q_field hop hs hf hag hy hA h
        · cases hx
      · cases hx
    · cases hx
  · rename_i t X Y hop
    split at hx
    · rename_i h1 h2 h3
      obtain ⟨es, hes, rfl⟩ := Option.map_eq_some_iff.1 hx
      exact q_indexArr hop h1 hes h2 h3 hA h
    · rename_i h1 h2 h3
      obtain ⟨es, hes, rfl⟩ := Option.map_eq_some_iff.1 hx
      exact q_indexRow hI hop h1 hes h2 h3 hA h
    · cases hx
  · rename_i t X Y hop
    split at hx
    · rename_i h1 h2 h3
      split at hx
      · rename_i h4 h5
        cases hx
        exact q_index hop h1 h4 h5 h2 h3 hA h
      · cases hx
    · cases hx
  · rename_i t X lo hi hop
    split at hx
    · rename_i h1
      split at hx
      · rename_i h2 h3 h4 h5
        cases hx
        exact q_slice hI hop h1 h2 h3 h4 h5 hA h
      · cases hx
    · cases hx
  · exfalso
    split at hx
    · split at hx
      · split at hx
        all_goals first | (split at hx <;> cases hx <;> cases hq) | (cases hx; cases hq) | cases hx
      · cases hx
    · cases hx
  · rename_i X i hop
    obtain ⟨y, hy, rfl⟩ := Option.map_eq_some_iff.1 hx
    exact q_extract hop hy hA h
  · rename_i c hop
    obtain ⟨callee, args, ats⟩ := c
    unfold compCall at hx
    simp only at hx
    split at hx
    · exfalso
      split at hx
      · split at hx
        · cases hx; cases hq
        · cases hx
      · cases hx
    · exfalso
      split at hx
      · split at hx
        · split at hx
          · split at hx
            · cases hx; cases hq
            · cases hx
          · cases hx
        · cases hx
      · cases hx
    · split at hx
      · rename_i X t hX ht
        split at hx
        · rename_i e y hu hy
          cases hx
          obtain rfl : args = #[X] := by rw [← Array.toArray_toList (xs := args), hX]
          exact q_len (ty := 0) hI hop ht hu hy hA h
        · cases hx; cases hq
        · cases hx
      · cases hx
    · split at hx
      · rename_i X t hX ht
        split at hx
        · rename_i e y hu hy
          cases hx
          obtain rfl : args = #[X] := by rw [← Array.toArray_toList (xs := args), hX]
          exact q_cap (ty := 0) hI hop ht hu hy hA h
        · cases hx
      · cases hx
    · split at hx
      · rename_i y l hy
        cases hx
        cases hL : args.toList with
        | nil => rw [hL] at hy; cases hy
        | cons X L =>
          rw [hL] at hy
          simp only [opds] at hy
          split at hy
          · rename_i h1 h2
            cases hy
            exact q_mnmx (mx := false) hI hop hL h1 h2 hA h
          · cases hy
      · cases hx
    · split at hx
      · rename_i y l hy
        cases hx
        cases hL : args.toList with
        | nil => rw [hL] at hy; cases hy
        | cons X L =>
          rw [hL] at hy
          simp only [opds] at hy
          split at hy
          · rename_i h1 h2
            cases hy
            exact q_mnmx (mx := true) hI hop hL h1 h2 hA h
          · cases hy
      · cases hx
    · exfalso
      split at hx
      · split at hx
        · split at hx
          · split at hx
            · cases hx; cases hq
            · cases hx
          · cases hx
        · split at hx
          · split at hx
            · cases hx; cases hq
            · cases hx
          · cases hx
        · cases hx
      · cases hx
    · obtain ⟨l, hl, rfl⟩ := Option.map_eq_some_iff.1 hx; cases hq
    · cases hx
  · split at hx
    · cases hx; cases hq
    · cases hx
  · cases hx
end
end Go.Proofs.Ytccfcenhpmdemaa.E
