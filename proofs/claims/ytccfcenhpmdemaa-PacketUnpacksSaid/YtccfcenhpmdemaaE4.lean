/- Operations that leave the memory alone: what the evaluator says of them holds. -/
import Derived.Test.YtccfcenhpmdemaaE3
import Derived.Laws.StructEq
namespace Go.Proofs.Ytccfcenhpmdemaa.E
open Go
set_option linter.unusedVariables false

@[simp] theorem Z.val_lit (n : Int) : (Z.lit n).val = n := rfl
@[simp] theorem Z.val_sym (n : Int) : (Z.sym n).val = n := rfl
@[simp] theorem NN.val_lit (n : Nat) : (NN.lit n).val = n := rfl
@[simp] theorem NN.val_sym (n : Nat) : (NN.sym n).val = n := rfl
@[simp] theorem BB.val_lit (n : Bool) : (BB.lit n).val = n := rfl
@[simp] theorem BB.val_sym (n : Bool) : (BB.sym n).val = n := rfl
section
variable {P : Program} {I : Ints} {p : Nat} {E : Env} {m : Mem} {w : World} {ts : List A} {a : Act}

theorem holds_fail (h : Holds P I p .fail) : False := by cases h
theorem cst_rep {v : Value} {c : C} (h : cst v = some c) (E : Env) (m : Mem) (w : World) : CRep E m w c v := by
  unfold cst at h
  split at h
  all_goals first
    | (cases h; exact GRep.bool (.lit _))
    | (cases h; exact GRep.int _ (.lit _))
    | (cases h; exact GRep.str _)
    | (cases h; exact GRep.nilp)
    | (cases h; exact GRep.nil)
    | cases h
theorem zcst_rep {v : Value} {c : C} (h : zcst v = some c) (E : Env) (m : Mem) (w : World) : CRep E m w c v := by
  unfold zcst at h
  split at h
  · cases h; rfl
  · cases h; rfl
  · exact cst_rep h E m w
theorem opd_rep {X : Operand} {x : Opd} (h : opd X = some x) (hA : At E m w ts a) : ARep E m w (x.ev ts) (a.eval X) := by
  unfold opd at h
  split at h
  · cases h
    rename_i t
    show ARep E m w (getT ts t) (a.tmps.getD t undef)
    unfold getT
    rw [List.getD_eq_getElem?_getD]
    cases ht : ts[t]? with
    | none => exact Or.inl rfl
    | some y => exact hA.ts.2 t y ht
  · split at h
    · rename_i v c hc
      cases h
      exact Or.inr (zcst_rep hc E m w)
    · cases h
  · cases h
    exact Or.inr ⟨#[], rfl, rfl, fun i b es j h => by simp at h⟩
  · cases h
theorem evC_inv {X : Operand} {x : Opd} {k : C → Tree} (ho : opd X = some x) (hA : At E m w ts a) (h : Holds P I p (evC ts x k)) :
    ∃ c, (c = .any ∨ CRep E m w c (a.eval X)) ∧ Holds P I p (k c) := by
  have hr := opd_rep ho hA
  unfold evC at h
  split at h
  · rename_i v hv
    rw [hv] at hr
    exact ⟨v, hr, h⟩
  · exact (holds_fail h).elim
theorem ev1_inv {X : Operand} {x : Opd} {k : V1 → Tree} (ho : opd X = some x) (hA : At E m w ts a) (h : Holds P I p (ev1 ts x k)) :
    ∃ c, V1Rep E m w c (a.eval X) ∧ Holds P I p (k c) := by
  have hr := opd_rep ho hA
  unfold ev1 at h
  split at h
  · rename_i v hv
    rw [hv] at hr
    exact ⟨v, hr, h⟩
  · exact (holds_fail h).elim
theorem evV_inv {X : Operand} {x : Opd} {k : V1 → Tree} (ho : opd X = some x) (hA : At E m w ts a) (h : Holds P I p (evV ts x k)) :
    ∃ c, V1Rep E m w c (a.eval X) ∧ c ≠ .c .any ∧ Holds P I p (k c) := by
  have hr := opd_rep ho hA
  unfold evV at h
  split at h
  · exact (holds_fail h).elim
  · rename_i v hn hv
    rw [hv] at hr
    exact ⟨v, hr, hn, h⟩
  · exact (holds_fail h).elim
theorem evZ_inv {X : Operand} {x : Opd} {k : IntKind → Z → Tree} (ho : opd X = some x) (hA : At E m w ts a) (h : Holds P I p (evZ ts x k)) :
    ∃ i z, a.eval X = .int i z.val ∧ Holds P I p (k i z) := by
  have hr := opd_rep ho hA
  unfold evZ at h
  split at h
  · rename_i i z hv
    rw [hv] at hr
    rcases hr with hr | hr
    · cases hr
    · generalize hu : a.eval X = u at hr
      cases hr
      exact ⟨i, z, rfl, h⟩
  · exact (holds_fail h).elim
theorem evB_inv {X : Operand} {x : Opd} {k : Bool → Tree} (ho : opd X = some x) (hA : At E m w ts a) (h : Holds P I p (evB ts x k)) :
    ∃ b, a.eval X = .bool b ∧ Holds P I p (k b) := by
  have hr := opd_rep ho hA
  unfold evB at h
  split at h
  · rename_i b hv
    rw [hv] at hr
    rcases hr with hr | hr
    · cases hr
    · generalize hu : a.eval X = u at hr
      cases hr
      exact ⟨b, rfl, h⟩
  · rename_i b hv
    rw [hv] at hr
    rcases hr with hr | hr
    · cases hr
    · generalize hu : a.eval X = u at hr
      cases hr
      cases h with
      | br h1 h2 =>
        cases b
        · exact ⟨false, rfl, h2 rfl⟩
        · exact ⟨true, rfl, h1 rfl⟩
  · exact (holds_fail h).elim

/-- A world that is this one but for blocks that the region may write. -/
def Same (wr : Option (List Nat × Nat)) (E : Env) (m : Mem) (w w' : World) : Prop := ∀ k, k < w.heap.size → ¬ Foot (fun b => okW wr b = true) E m k → w'.heap[k]? = w.heap[k]?
/-- A quiet operation: a value, and the world stays. -/
def QRes (P : Program) (I : Ints) (p : Nat) (E : Env) (m : Mem) (w : World) (wr : Option (List Nat × Nat)) (er : Bool) (a : Act) (o : Oper) (k : A → Mem → Tree) : Prop :=
  ∃ av v, Holds P I p (k av m) ∧ ARep E m w av v ∧ ∀ w', (w' = w ∨ (er = true ∧ Same wr E m w w')) → (execOp a.eval o).run P w' = .ok (.value v) w'

variable {wr : Option (List Nat × Nat)} {er : Bool} {o : Oper} {k : A → Mem → Tree}
theorem q_move {X : Operand} {x : Opd} (hop : o.op = .move X ∨ o.op = .assign X) (ho : opd X = some x) (hA : At E m w ts a) (h : Holds P I p (evOp I er wr (.move x) ts m k)) : QRes P I p E m w wr er a o k := by
  refine ⟨_, _, h, opd_rep ho hA, fun w' _ => ?_⟩
  rcases hop with hop | hop <;> simp [execOp, hop]
theorem q_pick {C_ X Y : Operand} {c x y : Opd} (hop : o.op = .pick C_ X Y) (hc : opd C_ = some c) (ho : opd X = some x) (ho' : opd Y = some y) (hA : At E m w ts a) (h : Holds P I p (evOp I er wr (.pick c x y) ts m k)) : QRes P I p E m w wr er a o k := by
  obtain ⟨b, hb, h⟩ := evB_inv hc hA h
  cases b
  · refine ⟨_, _, h, opd_rep ho' hA, fun w' _ => ?_⟩
    simp [execOp, hop, hb, asBool]
  · refine ⟨_, _, h, opd_rep ho hA, fun w' _ => ?_⟩
    simp [execOp, hop, hb, asBool]
theorem num_rep (i : IntKind) (z : Z) : ARep E m w (.one (.c (.g (.int i z)))) (.int i z.val) := .inr (.int i z)
theorem bool_rep (b : BB) : ARep E m w (.one (.c (.g (.bool b)))) (.bool b.val) := .inr (.bool b)
theorem zBin_val (hI : I = ints) (op : BinOp) (i : IntKind) (x y : Z) : (zBin I op i x y).val = rBin op i x.val y.val := by
  subst hI
  cases x <;> cases y <;> rfl
theorem zCmp_val (hI : I = ints) (op : BinOp) (x y : Z) : (zCmp I op x y).val = rCmp op x.val y.val := by
  subst hI
  cases x <;> cases y <;> rfl
theorem eqGuard_int (op : BinOp) (t : TypeId) (X Y : Operand) (i j : IntKind) (x y : Int) (w' : World) : (eqGuard op t X Y (.int i x) (.int j y)).run P w' = .ok () w' := by
  cases op <;> rfl
theorem run_bin {op : BinOp} (h : isArith op = true) (t : TypeId) (i : IntKind) (x y : Int) (w' : World) : (binOp op t (.int i x) (.int i y)).run P w' = .ok (.int i (rBin op i x y)) w' := by
  cases op <;> simp [isArith] at h <;> simp [binOp, Op.intArith, Op.intBits, rBin]
theorem run_div {op : BinOp} (h : isDiv op = true) (t : TypeId) (i : IntKind) (x y : Int) (hy : y ≠ 0) (w' : World) : (binOp op t (.int i x) (.int i y)).run P w' = .ok (.int i (rBin op i x y)) w' := by
  cases op <;> simp [isDiv] at h <;> simp [binOp, Op.intDiv, rBin, hy]
theorem run_shift {op : BinOp} (h : isShift op = true) (t : TypeId) (i j : IntKind) (x y : Int) (hy : 0 ≤ y) (w' : World) : (binOp op t (.int i x) (.int j y)).run P w' = .ok (.int i (rBin op i x y)) w' := by
  have : ¬ y < 0 := by omega
  cases op <;> simp [isShift] at h <;> simp [binOp, Op.shift, rBin, this]
theorem run_cmp {op : BinOp} (h : isCmp op = true) (t : TypeId) (i : IntKind) (x y : Int) (w' : World) : (binOp op t (.int i x) (.int i y)).run P w' = .ok (.bool (rCmp op x y)) w' := by
  cases op <;> simp [isCmp] at h <;> simp [binOp, Op.intCmp, rCmp]
theorem q_bin {op : BinOp} {t u : TypeId} {X Y : Operand} {x y : Opd} (hI : I = ints) (hop : o.op = .binOp op t X Y u) (ha : isArith op = true) (ho : opd X = some x) (ho' : opd Y = some y) (hA : At E m w ts a) (h : Holds P I p (evOp I er wr (.bin op x y) ts m k)) : QRes P I p E m w wr er a o k := by
  obtain ⟨i, z, hz, h⟩ := evZ_inv ho hA h
  obtain ⟨j, y', hy, h⟩ := evZ_inv ho' hA h
  split at h
  · rename_i hij
    obtain rfl : i = j := of_decide_eq_true hij
    refine ⟨_, _, h, num_rep _ _, fun w' _ => ?_⟩
    rw [zBin_val hI]
    simp [execOp, hop, hz, hy, eqGuard_int, run_bin ha]
  · exact (holds_fail h).elim
theorem q_div {op : BinOp} {t u : TypeId} {X Y : Operand} {x y : Opd} (hI : I = ints) (hop : o.op = .binOp op t X Y u) (ha : isDiv op = true) (ho : opd X = some x) (ho' : opd Y = some y) (hA : At E m w ts a) (h : Holds P I p (evOp I er wr (.div op x y) ts m k)) : QRes P I p E m w wr er a o k := by
  obtain ⟨i, z, hz, h⟩ := evZ_inv ho hA h
  obtain ⟨j, y', hy, h⟩ := evZ_inv ho' hA h
  split at h
  · rename_i hij
    obtain rfl : i = j := of_decide_eq_true hij
    have key : y'.val ≠ 0 ∧ Holds P I p (k (.one (.c (.g (.int i (zBin I op i z y'))))) m) := by
      cases y' with
      | lit n =>
        simp only at h
        split at h
        · exact (holds_fail h).elim
        · rename_i hn
          exact ⟨of_decide_eq_false hn, h⟩
      | sym n =>
        cases h with
        | nz h1 h => exact ⟨h1, h⟩
    refine ⟨_, _, key.2, num_rep _ _, fun w' _ => ?_⟩
    rw [zBin_val hI]
    simp [execOp, hop, hz, hy, eqGuard_int, run_div ha _ _ _ _ key.1]
  · exact (holds_fail h).elim
theorem q_shift {op : BinOp} {t u : TypeId} {X Y : Operand} {x y : Opd} (hI : I = ints) (hop : o.op = .binOp op t X Y u) (ha : isShift op = true) (ho : opd X = some x) (ho' : opd Y = some y) (hA : At E m w ts a) (h : Holds P I p (evOp I er wr (.shift op x y) ts m k)) : QRes P I p E m w wr er a o k := by
  obtain ⟨i, z, hz, h⟩ := evZ_inv ho hA h
  obtain ⟨j, y', hy, h⟩ := evZ_inv ho' hA h
  have key : 0 ≤ y'.val ∧ Holds P I p (k (.one (.c (.g (.int i (zBin I op i z y'))))) m) := by
    cases y' with
    | lit n =>
      simp only at h
      split at h
      · rename_i hn
        exact ⟨of_decide_eq_true hn, h⟩
      · exact (holds_fail h).elim
    | sym n =>
      cases h with
      | nonneg h1 h => exact ⟨h1, h⟩
  refine ⟨_, _, key.2, num_rep _ _, fun w' _ => ?_⟩
  rw [zBin_val hI]
  simp [execOp, hop, hz, hy, eqGuard_int, run_shift ha _ _ _ _ _ key.1]
theorem q_cmp {op : BinOp} {t u : TypeId} {X Y : Operand} {x y : Opd} (hI : I = ints) (hop : o.op = .binOp op t X Y u) (ha : isCmp op = true) (ho : opd X = some x) (ho' : opd Y = some y) (hA : At E m w ts a) (h : Holds P I p (evOp I er wr (.cmp op x y) ts m k)) : QRes P I p E m w wr er a o k := by
  obtain ⟨i, z, hz, h⟩ := evZ_inv ho hA h
  obtain ⟨j, y', hy, h⟩ := evZ_inv ho' hA h
  split at h
  · rename_i hij
    obtain rfl : i = j := of_decide_eq_true hij
    refine ⟨_, _, h, bool_rep _, fun w' _ => ?_⟩
    rw [zCmp_val hI]
    simp [execOp, hop, hz, hy, eqGuard_int, run_cmp ha]
  · exact (holds_fail h).elim
theorem bNot_val (hI : I = ints) (b : BB) : (bNot I b).val = !b.val := by
  subst hI
  cases b <;> rfl
theorem q_not {t : TypeId} {X : Operand} {x : Opd} (hI : I = ints) (hop : o.op = .unOp .not t X) (ho : opd X = some x) (hA : At E m w ts a) (h : Holds P I p (evOp I er wr (.not x) ts m k)) : QRes P I p E m w wr er a o k := by
  have hr := opd_rep ho hA
  simp only [evOp] at h
  split at h
  · rename_i b hv
    rw [hv] at hr
    rcases hr with hr | hr
    · cases hr
    · generalize hu : a.eval X = u at hr
      cases hr
      refine ⟨_, _, h, bool_rep _, fun w' _ => ?_⟩
      rw [bNot_val hI]
      simp [execOp, hop, hu, Op.unary]
  · exact (holds_fail h).elim
theorem q_neg {t : TypeId} {X : Operand} {x : Opd} (hI : I = ints) (hop : o.op = .unOp .neg t X) (ho : opd X = some x) (hA : At E m w ts a) (h : Holds P I p (evOp I er wr (.neg x) ts m k)) : QRes P I p E m w wr er a o k := by
  obtain ⟨i, z, hz, h⟩ := evZ_inv ho hA h
  refine ⟨_, .int i (rNeg i z.val), h, ?_, fun w' _ => ?_⟩
  · have : (zNeg I i z).val = rNeg i z.val := by subst hI; cases z <;> rfl
    rw [← this]; exact num_rep _ _
  · simp [execOp, hop, hz, Op.unary, Op.intArith, rNeg]
theorem q_cpl {t : TypeId} {X : Operand} {x : Opd} (hI : I = ints) (hop : o.op = .unOp .xor t X) (ho : opd X = some x) (hA : At E m w ts a) (h : Holds P I p (evOp I er wr (.cpl x) ts m k)) : QRes P I p E m w wr er a o k := by
  obtain ⟨i, z, hz, h⟩ := evZ_inv ho hA h
  refine ⟨_, .int i (rCpl i z.val), h, ?_, fun w' _ => ?_⟩
  · have : (zCpl I i z).val = rCpl i z.val := by subst hI; cases z <;> rfl
    rw [← this]; exact num_rep _ _
  · simp [execOp, hop, hz, Op.unary, Op.intBits, rCpl]
theorem q_conv {s d : TypeId} {X : Operand} {x : Opd} {i0 i : IntKind} (hI : I = ints) (hop : o.op = .convert s d X) (hs : P.underlying s = some (.int i0)) (hd : P.underlying d = some (.int i)) (ho : opd X = some x) (hA : At E m w ts a) (h : Holds P I p (evOp I er wr (.conv i x) ts m k)) : QRes P I p E m w wr er a o k := by
  obtain ⟨j, z, hz, h⟩ := evZ_inv ho hA h
  refine ⟨_, .int i (i.wrap z.val), h, ?_, fun w' _ => ?_⟩
  · have : (zConv I i z).val = i.wrap z.val := by subst hI; cases z <;> rfl
    rw [← this]; exact num_rep _ _
  · simp [execOp, hop, hz, convert, run_underlying hs, run_underlying hd, Conv.intToInt]

theorem seg_inv {row : List C} {j : Nat} {ag : Option Nat} {k : V1 → Tree} (h : Holds P I p (seg row j ag k)) :
    (ag = none ∧ ∃ c, row[j]? = some c ∧ Holds P I p (k (.c c))) ∨ ∃ n, ag = some n ∧ j + n ≤ row.length ∧ Holds P I p (k (.agg ((row.drop j).take n))) := by
  unfold seg at h
  split at h
  · split at h
    · exact .inl ⟨rfl, _, by assumption, h⟩
    · exact (holds_fail h).elim
  · rename_i n
    split at h
    · rename_i hd
      exact .inr ⟨n, rfl, of_decide_eq_true hd, h⟩
    · exact (holds_fail h).elim
theorem ag_none {t : TypeId} (h : agOf P t = some none) (w' : World) : (isAgg t).run P w' = .ok false w' := by
  unfold agOf at h
  unfold isAgg
  split at h
  · unfold size? at h; cases hq : P.info? t <;> simp [hq] at h
  · unfold size? at h; cases hq : P.info? t <;> simp [hq] at h
  · rename_i d h1 h2 hd
    rw [Sem.run_bind, run_underlying hd w']
    cases d <;> simp_all
  · cases h
theorem ag_some {t : TypeId} {n : Nat} (h : agOf P t = some (some n)) : ∃ d, P.underlying t = some d ∧ d.isRow = true ∧ (P.info? t).map (·.size) = some n := by
  unfold agOf at h
  split at h
  · rename_i fs hd
    exact ⟨_, hd, rfl, by simpa [size?] using h⟩
  · rename_i n e hd
    exact ⟨_, hd, rfl, by simpa [size?] using h⟩
  · cases h
  · cases h
theorem ag_agg {t : TypeId} {n : Nat} (h : agOf P t = some (some n)) (w' : World) : (isAgg t).run P w' = .ok true w' := by
  obtain ⟨d, hd, hr, _⟩ := ag_some h
  unfold isAgg
  rw [Sem.run_bind, run_underlying hd w']
  cases d <;> simp_all
theorem load_at {t : TypeId} {ag : Option Nat} {row : List C} {a_ off j : Nat} {k : V1 → Tree} (hag : agOf P t = some ag) (h : Holds P I p (seg row j ag k))
    (hc : ∀ (jj : Nat) (c : C), row[jj]? = some c → ∃ u, w.cell? (at_ a_ (off + jj)) = some u ∧ CRep E m w c u) :
    ∃ av v, Holds P I p (k av) ∧ V1Rep E m w av v ∧ ∀ w' : World, w'.heap[a_]? = w.heap[a_]? → (loadVar t (at_ a_ (off + j))).run P w' = .ok v w' := by
  rcases seg_inv h with ⟨rfl, c, hj, h⟩ | ⟨n, rfl, hn, h⟩
  · obtain ⟨u, h1, h2⟩ := hc j c hj
    refine ⟨_, u, h, .inr h2, fun w' hw => ?_⟩
    have : w'.cell? (at_ a_ (off + j)) = some u := (cell_frz hw).trans h1
    simp [loadVar, Sem.run_bind, ag_none hag, load, Sem.run, this]
  · obtain ⟨d, hd, hr, hs⟩ := ag_some hag
    have hx : ∀ i, i < n → ∃ c u, row[j + i]? = some c ∧ w.cell? (at_ a_ (off + (j + i))) = some u ∧ CRep E m w c u := by
      intro i hi
      obtain ⟨c, hc'⟩ : ∃ c, row[j + i]? = some c := ⟨row[j + i], List.getElem?_eq_getElem (by omega)⟩
      obtain ⟨u, h1, h2⟩ := hc _ c hc'
      exact ⟨c, u, hc', h1, h2⟩
    refine ⟨_, .agg ((List.range n).map fun i => (w.cell? (at_ a_ (off + (j + i)))).getD undef).toArray, h, ⟨_, rfl, by simp; omega, fun i x hi => ?_⟩, fun w' hw => ?_⟩
    · rw [List.getElem?_take] at hi
      split at hi
      · rename_i hin
        rw [List.getElem?_drop] at hi
        obtain ⟨c, u, h1, h2, h3⟩ := hx i hin
        rw [h1] at hi
        cases hi
        exact ⟨u, by simp [hin, h2], h3⟩
      · cases hi
    · refine run_loadVar_mid w' a_ (off + j) t _ d (fun i v hv => ?_) hd hr (by simpa using hs)
      obtain ⟨hi, hv⟩ := List.getElem?_eq_some_iff.1 hv
      have hin : i < n := by simpa using hi
      obtain ⟨c, u, h1, h2, h3⟩ := hx i hin
      simp only [List.getElem_map, List.getElem_range, h2, Option.getD_some] at hv
      subst hv
      rw [show off + j + i = off + (j + i) by omega]
      exact (cell_frz hw).trans h2
theorem part_at {t : TypeId} {ag : Option Nat} {l : List C} {cs : Array Value} {off : Nat} {k : V1 → Tree} (hag : agOf P t = some ag) (h : Holds P I p (seg l off ag k))
    (hs : cs.size = l.length) (hc : ∀ (i : Nat) (x : C), l[i]? = some x → ∃ u, cs[i]? = some u ∧ CRep E m w x u) :
    ∃ av v, Holds P I p (k av) ∧ V1Rep E m w av v ∧ ∀ w', (part t cs off).run P w' = .ok v w' := by
  rcases seg_inv h with ⟨rfl, c, hj, h⟩ | ⟨n, rfl, hn, h⟩
  · obtain ⟨u, h1, h2⟩ := hc off c hj
    exact ⟨_, u, h, .inr h2, fun w' => by simp [part, Sem.run_bind, ag_none hag, h1]⟩
  · obtain ⟨d, hd, hr, hsz⟩ := ag_some hag
    refine ⟨_, .agg (cs.extract off (off + n)), h, ⟨_, rfl, by simp; omega, fun i x hi => ?_⟩, fun w' => ?_⟩
    · rw [List.getElem?_take] at hi
      split at hi
      · rename_i hin
        rw [List.getElem?_drop] at hi
        obtain ⟨u, h1, h2⟩ := hc _ x hi
        exact ⟨u, by rw [Array.getElem?_extract]; simp [h1]; omega, h2⟩
      · cases hi
    · cases hq : P.info? t with
      | none => simp [hq] at hsz
      | some i =>
        have : i.size = n := by simpa [hq] using hsz
        simp [part, Sem.run_bind, ag_agg hag, sizeOf, typeInfo, hq, this]
theorem foot_not_frz {k' : Nat} {Wt : Nat → Prop} (hs : Sat E m w) (h : E.F k' ∨ E.B k') : ¬ Foot Wt E m k' := by
  rintro ⟨id, blk, x, h1, h2, h3, h4⟩
  have := hs.dis id blk k' x h1 h2 h4
  exact h.elim this.1 this.2
/-- A block that is read early is as it was. -/
theorem same_ptr {b a_ base : Nat} {blk : Blk} {w' : World} (hs : Sat E m w) (hb : m[b]? = some blk) (hl : blk.live) (hr : E.ρ b = some (a_, base)) (ha : a_ < w.heap.size)
    (hw : w' = w ∨ (er = true ∧ Same wr E m w w')) (ho : er = true → okW wr b = false) : w'.heap[a_]? = w.heap[a_]? := by
  rcases hw with rfl | ⟨he, hw⟩
  · rfl
  · refine hw a_ ha ?_
    rintro ⟨id, blk', x, h1, h2, h3, h4⟩
    obtain rfl := hs.inj id b blk' blk a_ x base h1 hb h2 hl h4 hr
    rw [ho he] at h3
    cases h3
theorem same_frz {a_ : Nat} {w' : World} (hs : Sat E m w) (h : E.F a_ ∨ E.B a_) (hw : w' = w ∨ (er = true ∧ Same wr E m w w')) : w'.heap[a_]? = w.heap[a_]? := by
  rcases hw with rfl | ⟨he, hw⟩
  · rfl
  · exact hw a_ (hs.old a_ h) (foot_not_frz hs h)
theorem grounds_map0 : ∀ {l : List C} {g : List G}, grounds l = some g → g.map C.g = l
  | [], g, h => by cases h; rfl
  | .g x :: r, g, h => by
    simp only [grounds] at h
    split at h
    · rename_i l hl
      cases h
      simp [grounds_map0 hl]
    · cases h
  | .any :: r, g, h => by cases h
  | .bor _ _ :: r, g, h => by cases h
  | .gp _ _ :: r, g, h => by cases h
  | .ptr _ _ _ _ :: r, g, h => by cases h
  | .row _ _ _ :: r, g, h => by cases h
  | .sl _ _ _ _ _ :: r, g, h => by cases h
  | .fn _ _ :: r, g, h => by cases h
  | .map _ :: r, g, h => by cases h
  | .stamp _ _ :: r, g, h => by cases h
theorem groundRows_map0 : ∀ {l : List (List C)} {g : List (List G)}, groundRows l = some g → g.map (fun r => r.map C.g) = l
  | [], g, h => by cases h; rfl
  | x :: r, g, h => by
    simp only [groundRows] at h
    split at h
    · rename_i x' l hx hl
      cases h
      simp [grounds_map0 hx, groundRows_map0 hl]
    · cases h
theorem ground_row {rows : List (List C)} {l : List (List G)} {i : Nat} {r : List G} (h : groundRows rows = some l) (hr : l[i]? = some r) : rows[i]? = some (r.map C.g) := by
  rw [← groundRows_map0 h, List.getElem?_map, hr]
  rfl
theorem sy_row {r : List G} {jj : Nat} {c : C} (h : (r.map fun x => C.g x.sy)[jj]? = some c) : ∃ g, (r.map C.g)[jj]? = some (.g g) ∧ c = .g g.sy := by
  rw [List.getElem?_map] at h
  cases hq : r[jj]? with
  | none => simp [hq] at h
  | some g =>
    simp [hq] at h
    exact ⟨g, by rw [List.getElem?_map, hq]; rfl, h.symm⟩
theorem q_load {t : TypeId} {X : Operand} {x : Opd} {ag : Option Nat} (hop : o.op = .load t X) (hag : agOf P t = some ag) (ho : opd X = some x) (hA : At E m w ts a) (her : er = true → wr.isSome = true) (h : Holds P I p (evOp I er wr (.load ag x) ts m k)) : QRes P I p E m w wr er a o k := by
  obtain ⟨c, hc, h⟩ := evC_inv ho hA h
  have hok : (er = true → okR wr c = true) ∧ Holds P I p (ld ag c m fun v => k (.one v) m) := by
    split at h
    · exact (holds_fail h).elim
    · rename_i hn
      refine ⟨fun he => ?_, h⟩
      cases hq : okR wr c
      · exact (hn he hq).elim
      · rfl
  obtain ⟨hok, h⟩ := hok
  suffices hk : ∃ a_ off j row, a.eval X = .pointer (some (at_ a_ (off + j))) ∧ Holds P I p (seg row j ag fun v => k (.one v) m) ∧
      (∀ (jj : Nat) (c : C), row[jj]? = some c → ∃ u, w.cell? (at_ a_ (off + jj)) = some u ∧ CRep E m w c u) ∧ ∀ w', (w' = w ∨ (er = true ∧ Same wr E m w w')) → w'.heap[a_]? = w.heap[a_]? by
    obtain ⟨a_, off, j, row, h1, h2, h3, h4⟩ := hk
    obtain ⟨av, v, g1, g2, g3⟩ := load_at hag h2 h3
    refine ⟨_, v, g1, g2, fun w' hw => ?_⟩
    simp [execOp, hop, h1, Instr.loadAt, Instr.sureAddr, g3 w' (h4 w' hw)]
  cases c with
  | gp row j =>
    simp only [ld] at h
    rcases hc with hc | ⟨a_, off, h1, h2, h3⟩
    · cases hc
    · refine ⟨a_, off, j, row.map .g, h1, h, fun jj c hj => ?_, fun w' hw => same_frz hA.sat h2 hw⟩
      rw [List.getElem?_map] at hj
      cases hq : row[jj]? with
      | none => simp [hq] at hj
      | some g =>
        simp [hq] at hj
        subst hj
        exact h3 jj g hq
  | ptr b i es j =>
    simp only [ld] at h
    rcases hc with hc | ⟨hb, a_, base, h1, h2⟩
    · cases hc
    have hnw : er = true → okW wr b = false := fun he => by
      have h3 := hok he
      cases wr with
      | none => exact absurd (her he) (by simp)
      | some q =>
        obtain ⟨l, n⟩ := q
        simp only [okR, Bool.and_eq_true, Bool.not_eq_true', decide_eq_true_eq] at h3
        simp only [okW, h3.1, Bool.false_or, decide_eq_false_iff_not]
        omega
    cases hm : m[b]? with
    | none => rw [hm] at h; exact (holds_fail h).elim
    | some blk =>
      rw [hm] at h
      cases blk with
      | dead => exact (holds_fail h).elim
      | mp _ _ => exact (holds_fail h).elim
      | lit es' rows =>
        try simp only at h
        cases i with
        | sym i =>
          try simp only at h
          split at h
          · rename_i heq he
            cases heq
          · rename_i i'' heq he
            cases heq
            split at h
            · rename_i l hl
              cases h with
              | nth r hr h =>
              obtain rfl : es = es' := by simpa using he
              rcases hA.sat.rep b _ hm trivial with ⟨e, _⟩ | ⟨a', base', e, g1, g2, g3⟩
              · rw [e] at h1; cases h1
              · rw [e] at h1
                cases h1
                refine ⟨a_, base + i * es, j, _, by rw [h2, Nat.add_assoc]; rfl, h, fun jj c hj => ?_, fun w' hw => same_ptr hA.sat hm trivial e g2 hw hnw⟩
                obtain ⟨g, hg, rfl⟩ := sy_row hj
                obtain ⟨u, q1, q2⟩ := (g3 i _ (ground_row hl hr)).2 jj _ hg
                exact ⟨u, by rw [Nat.add_assoc]; exact q1, G_sy q2⟩
            · exact (holds_fail h).elim
          · exact (holds_fail h).elim
        | lit i =>
          try simp only at h
          split at h
          · rename_i i'' heq he
            cases heq
            split at h
            · rename_i row hr
              obtain rfl : es = es' := by simpa using he
              rcases hA.sat.rep b _ hm trivial with ⟨e, _⟩ | ⟨a', base', e, g1, g2, g3⟩
              · rw [e] at h1; cases h1
              · rw [e] at h1
                cases h1
                refine ⟨a_, base + i * es, j, row, by rw [h2, Nat.add_assoc]; rfl, h, fun jj c hj => ?_, fun w' hw => same_ptr hA.sat hm trivial e g2 hw hnw⟩
                obtain ⟨u, q1, q2⟩ := (g3 i row hr).2 jj c hj
                exact ⟨u, by rw [Nat.add_assoc]; exact q1, q2⟩
            · exact (holds_fail h).elim
          · rename_i heq he
            cases heq
          · exact (holds_fail h).elim
      | sym es' l =>
        try simp only at h
        split at h
        · rename_i he
          obtain rfl : es = es' := by simpa using he
          cases h with
          | nth r hr h =>
          rcases hA.sat.rep b _ hm trivial with ⟨e, _⟩ | ⟨a', base', e, g1, g2, g3⟩
          · rw [e] at h1; cases h1
          · rw [e] at h1
            cases h1
            refine ⟨a_, base + i.val * es, j, r.map .g, by rw [h2, Nat.add_assoc], h, fun jj c hj => ?_, fun w' hw => same_ptr hA.sat hm trivial e g2 hw hnw⟩
            obtain ⟨u, q1, q2⟩ := (g3 i.val (r.map .g) (by simp [Blk.rows, hr])).2 jj c hj
            exact ⟨u, by rw [Nat.add_assoc]; exact q1, q2⟩
        · exact (holds_fail h).elim
  | _ => exact (holds_fail h).elim
theorem fieldPlace_run {fd : Field} {n : Nat} (hs : size? P fd.type = some n) (hn : n ≠ 0) (a_ off : Nat) (w' : World) : (fieldPlace (at_ a_ off) fd).run P w' = .ok (at_ a_ (off + fd.offset)) w' := by
  unfold size? at hs
  cases hq : P.info? fd.type with
  | none => simp [hq] at hs
  | some i =>
    have : i.size = n := by simpa [hq] using hs
    simp [fieldPlace, sizeOf, typeInfo, hq, this, hn, at_, Addr.add_mid]
theorem q_fieldAddr {s : TypeId} {fs : Array Field} {f n : Nat} {fd : Field} {X : Operand} {x : Opd} (hop : o.op = .fieldAddr s X f) (hs : P.underlying s = some (.struct fs)) (hf : fs[f]? = some fd) (hz : size? P fd.type = some n) (hn : n ≠ 0)
    (ho : opd X = some x) (hA : At E m w ts a) (h : Holds P I p (evOp I er wr (.fieldAddr fd.offset x) ts m k)) : QRes P I p E m w wr er a o k := by
  obtain ⟨c, hc, h⟩ := evC_inv ho hA h
  cases c with
  | ptr b i es j =>
    rcases hc with hc | ⟨hb, a_, base, h1, h2⟩
    · cases hc
    refine ⟨_, .pointer (some (at_ a_ (base + (i.val * es + (j + fd.offset))))), h, .inr ⟨hb, a_, base, h1, rfl⟩, fun w' _ => ?_⟩
    simp [execOp, hop, h2, Instr.fieldAt, run_underlying hs, hf, Instr.sureAddr, fieldPlace_run hz hn, Nat.add_assoc]
  | gp row j =>
    rcases hc with hc | ⟨a_, off, h1, h2, h3⟩
    · cases hc
    refine ⟨_, .pointer (some (at_ a_ (off + (j + fd.offset)))), h, .inr ⟨a_, off, rfl, h2, h3⟩, fun w' _ => ?_⟩
    simp [execOp, hop, h1, Instr.fieldAt, run_underlying hs, hf, Instr.sureAddr, fieldPlace_run hz hn, Nat.add_assoc]
  | _ => exact (holds_fail h).elim
theorem q_nilCheck {X : Operand} {x : Opd} (hop : o.op = .nilCheck X) (ho : opd X = some x) (hA : At E m w ts a) (h : Holds P I p (evOp I er wr (.nilCheck x) ts m k)) : QRes P I p E m w wr er a o k := by
  obtain ⟨c, hc, h⟩ := evC_inv ho hA h
  cases c with
  | ptr b i es j =>
    rcases hc with hc | ⟨hb, a_, base, h1, h2⟩
    · cases hc
    refine ⟨_, _, h, .inr ⟨hb, a_, base, h1, rfl⟩, fun w' _ => ?_⟩
    simp [execOp, hop, h2]
  | gp row j =>
    rcases hc with hc | ⟨a_, off, h1, h2, h3⟩
    · cases hc
    refine ⟨_, _, h, .inr ⟨a_, off, rfl, h2, h3⟩, fun w' _ => ?_⟩
    simp [execOp, hop, h1]
  | _ => exact (holds_fail h).elim
theorem q_field {s : TypeId} {fs : Array Field} {f : Nat} {fd : Field} {X : Operand} {x : Opd} {ag : Option Nat} (hop : o.op = .field s X f) (hs : P.underlying s = some (.struct fs)) (hf : fs[f]? = some fd) (hag : agOf P fd.type = some ag)
    (ho : opd X = some x) (hA : At E m w ts a) (h : Holds P I p (evOp I er wr (.field fd.offset ag x) ts m k)) : QRes P I p E m w wr er a o k := by
  obtain ⟨c, hc, h⟩ := ev1_inv ho hA h
  cases c with
  | c x => exact (holds_fail h).elim
  | agg l =>
    obtain ⟨cs, h1, h2, h3⟩ := hc
    obtain ⟨av, v, g1, g2, g3⟩ := part_at hag h h2 h3
    refine ⟨_, v, g1, g2, fun w' _ => ?_⟩
    simp [execOp, hop, h1, Instr.field, run_underlying hs, hf, asAgg, g3]
theorem q_extract {X : Operand} {x : Opd} {i : Nat} (hop : o.op = .extract X i) (ho : opd X = some x) (hA : At E m w ts a) (h : Holds P I p (evOp I er wr (.extract x i) ts m k)) : QRes P I p E m w wr er a o k := by
  have hr := opd_rep ho hA
  simp only [evOp] at h
  split at h
  · rename_i l hv
    rw [hv] at hr
    obtain ⟨us, h1, h2, h3⟩ := hr
    split at h
    · rename_i v hi
      obtain ⟨u, g1, g2⟩ := h3 i v hi
      refine ⟨_, u, h, g2, fun w' _ => ?_⟩
      simp [execOp, hop, h1, Instr.extract, g1]
    · exact (holds_fail h).elim
  · exact (holds_fail h).elim
theorem size_run {t : TypeId} {n : Nat} (h : size? P t = some n) (w' : World) : (sizeOf t).run P w' = .ok n w' := by
  unfold size? at h
  cases hq : P.info? t with
  | none => simp [hq] at h
  | some i =>
    have : i.size = n := by simpa [hq] using h
    simp [sizeOf, typeInfo, hq, this]
theorem zIdx_inv {lit : Bool} {z : Z} {n : NN} {k : NN → Tree} (h : Holds P I p (zIdx lit z n k)) : ∃ i : NN, z.val = (i.val : Int) ∧ i.val < n.val ∧ Holds P I p (k i) := by
  unfold zIdx at h
  split at h
  · rename_i z n
    split at h
    · rename_i h1 h2
      have h1 := of_decide_eq_true h1
      have h2 := of_decide_eq_true h2
      exact ⟨_, by show z = ((z.toNat : Nat) : Int); omega, by show z.toNat < n; omega, h⟩
    · exact (holds_fail h).elim
  · cases h with
    | idx i h1 h2 h =>
      cases lit
      · exact ⟨.sym i, h1, h2, h⟩
      · exact ⟨.lit i, h1, h2, h⟩

theorem zRng_inv {lo hi : Option Z} {n : NN} {k : NN → NN → Tree} (h : Holds P I p (zRng lo hi n k)) :
    ∃ l r : NN, (lo.map Z.val).getD 0 = (l.val : Int) ∧ (hi.map Z.val).getD n.val = (r.val : Int) ∧ l.val ≤ r.val ∧ r.val ≤ n.val ∧ Holds P I p (k l r) := by
  unfold zRng at h
  split at h
  · exact ⟨.lit 0, n, rfl, rfl, Nat.zero_le _, Nat.le_refl _, h⟩
  · split at h
    · rename_i h1 h2
      have h1 := of_decide_eq_true h1
      have h2 := of_decide_eq_true h2
      exact ⟨_, _, rfl, by simp; omega, Nat.zero_le _, by simp; omega, h⟩
    · exact (holds_fail h).elim
  · split at h
    · rename_i h1 h2
      have h1 := of_decide_eq_true h1
      have h2 := of_decide_eq_true h2
      exact ⟨_, _, by simp; omega, rfl, by simp; omega, Nat.le_refl _, h⟩
    · exact (holds_fail h).elim
  · split at h
    · rename_i h1 h2 h3
      have h1 := of_decide_eq_true h1
      have h2 := of_decide_eq_true h2
      have h3 := of_decide_eq_true h3
      exact ⟨_, _, by simp; omega, by simp; omega, by simp; omega, by simp; omega, h⟩
    · exact (holds_fail h).elim
  · cases h with
    | rng l r h1 h2 h3 h4 h =>
      refine ⟨_, _, ?_, ?_, ?_, ?_, h⟩
      · cases lo with
        | none => rfl
        | some z => cases z <;> simp at h1 ⊢ <;> omega
      · cases hi with
        | none => rfl
        | some z => cases z <;> simp at h2 ⊢ <;> omega
      · rcases lo with _ | (z | z) <;> rcases hi with _ | (y | y) <;> simp at h1 h2 ⊢ <;> omega
      · rcases hi with _ | (y | y) <;> simp at h2 ⊢ <;> omega
theorem nAdd_val (hI : I = ints) (x y : NN) : (nAdd I x y).val = x.val + y.val := by
  subst hI
  unfold nAdd
  split <;> simp [ints]
theorem nSub_val (hI : I = ints) (x y : NN) : (nSub I x y).val = x.val - y.val := by
  subst hI
  unfold nSub
  split <;> simp [ints]
theorem zOfN_val (hI : I = ints) (x : NN) : (zOfN I x).val = (x.val : Int) := by
  subst hI
  cases x <;> rfl
theorem blk_len_val (hI : I = ints) (b : Blk) : (b.len I).val = b.rows.length := by
  subst hI
  cases b <;> simp [Blk.len, Blk.rows, ints]
/-- The length of a slice. -/
theorem lenOf_rep (hI : I = ints) (hs : Sat E m w) {c : C} {n : NN} {v : Value} (h : lenOf I c m = some n) (hc : c = .any ∨ CRep E m w c v) : ∃ A c', v = .slice A n.val c' ∧ n.val ≤ c' := by
  subst hI
  unfold lenOf at h
  split at h
  · cases h
    rcases hc with hc | hc
    · cases hc
    · cases hc
      exact ⟨none, 0, rfl, Nat.le_refl _⟩
  · cases h
    rcases hc with hc | hc
    · cases hc
    · cases hc with
      | rows u hc hr hg => exact ⟨_, _, rfl, hc⟩
  · cases h
    rcases hc with hc | ⟨A, c, u, h1, h2, _⟩
    · cases hc
    · exact ⟨A, c, h1, h2⟩
  · rename_i b es cap
    split at h
    · cases h
    · rename_i blk hb hm
      cases h
      rcases hc with hc | ⟨h0, ho, hc⟩
      · cases hc
      rw [blk_len_val rfl]
      have hl : blk.live := by cases blk <;> first | trivial | exact absurd rfl hb
      obtain ⟨k1, k2, k3⟩ := hc blk hm hl
      rcases k3 with ⟨e1, e2⟩ | ⟨a, base, c, e1, e2, e3, _⟩
      · rcases hs.rep b blk hm hl with ⟨_, e3⟩ | ⟨a', base', e3, _⟩
        · rw [e3]; exact ⟨none, 0, e2, Nat.le_refl _⟩
        · rw [e1] at e3; cases e3
      · exact ⟨_, _, e2, e3⟩
    · cases h
  · rename_i b i es n' cap
    split at h
    · cases h
    · rename_i blk hb hm
      cases h
      rcases hc with hc | ⟨h0, ho, hc⟩
      · cases hc
      have hl : blk.live := by cases blk <;> first | trivial | exact absurd rfl hb
      obtain ⟨k1, k2, k3, k4⟩ := hc blk hm hl
      rcases k4 with ⟨e1, e2, e3⟩ | ⟨a, base, c, off, e1, e2, e3, e4, _⟩
      · rw [e3]; exact ⟨none, 0, e2, Nat.le_refl _⟩
      · exact ⟨_, _, e2, e4⟩
    · cases h
  · cases h
theorem q_len {t e ty : TypeId} {X : Operand} {x : Opd} {ats : Array TypeId} (hI : I = ints) (hop : o.op = .call { callee := .builtin .len, args := #[X], argTypes := ats }) (h0 : ats[0]? = some t) (ht : P.underlying t = some (.slice e))
    (ho : opd X = some x) (hA : At E m w ts a) (h : Holds P I p (evOp I er wr (.len x) ts m k)) : QRes P I p E m w wr er a o k := by
  obtain ⟨c, hc, h⟩ := evC_inv ho hA h
  split at h
  · rename_i n hn
    obtain ⟨A_, c', h1, h2⟩ := lenOf_rep hI hA.sat hn hc
    refine ⟨_, _, h, num_rep _ _, fun w' _ => ?_⟩
    rw [zOfN_val hI]
    simp [execOp, hop, resolve, invoke, builtin, h1, Builtin.len_, h0, run_underlying ht, goInt]
  · exact (holds_fail h).elim
theorem q_cap {t e ty : TypeId} {X : Operand} {x : Opd} {ats : Array TypeId} (hI : I = ints) (hop : o.op = .call { callee := .builtin .cap, args := #[X], argTypes := ats }) (h0 : ats[0]? = some t) (ht : P.underlying t = some (.slice e))
    (ho : opd X = some x) (hA : At E m w ts a) (h : Holds P I p (evOp I er wr (.cap x) ts m k)) : QRes P I p E m w wr er a o k := by
  obtain ⟨c, hc, h⟩ := evC_inv ho hA h
  have key : ∃ n : NN, (∃ A_ l, a.eval X = .slice A_ l n.val) ∧ Holds P I p (k (.one (.c (.g (.int .i64 (zOfN I n))))) m) := by
    cases c with
    | row b es cap =>
      cases cap with
      | none => exact (holds_fail h).elim
      | some c' =>
        cases hm : m[b]? with
        | none => simp only [hm] at h; exact (holds_fail h).elim
        | some blk =>
          cases blk with
          | dead => simp only [hm] at h; exact (holds_fail h).elim
          | _ =>
            simp only [hm] at h
            rcases hc with hc | ⟨h1, ho, hc⟩
            · cases hc
            obtain ⟨k1, k2, k3⟩ := hc _ hm trivial
            refine ⟨c', ?_, h⟩
            rcases k3 with ⟨e1, e2⟩ | ⟨a, base, c, e1, e2, e3, e4, _⟩
            · rcases hA.sat.rep b _ hm trivial with ⟨_, e3⟩ | ⟨a', base', e3, _⟩
              · have := k2 c' rfl
                rw [e3] at this
                rw [this]
                exact ⟨_, _, e2⟩
              · rw [e1] at e3; cases e3
            · rw [← e4 c' rfl]; exact ⟨_, _, e2⟩
    | sl b i es n cap =>
      cases cap with
      | none => exact (holds_fail h).elim
      | some c' =>
        cases hm : m[b]? with
        | none => simp only [hm] at h; exact (holds_fail h).elim
        | some blk =>
          cases blk with
          | dead => simp only [hm] at h; exact (holds_fail h).elim
          | _ =>
            simp only [hm] at h
            rcases hc with hc | ⟨h1, ho, hc⟩
            · cases hc
            obtain ⟨k1, k2, k3, k4⟩ := hc _ hm trivial
            refine ⟨c', ?_, h⟩
            rcases k4 with ⟨e1, e2, e3⟩ | ⟨a, base, c, off, e1, e2, e3, e4, e5, _⟩
            · rcases hA.sat.rep b _ hm trivial with ⟨_, e4⟩ | ⟨a', base', e4, _⟩
              · have := k3 c' rfl
                rw [e4] at this
                rw [show c'.val = 0 by simpa using (by simp at this; omega)]
                exact ⟨_, _, e2⟩
              · rw [e1] at e4; cases e4
            · rw [← e5 c' rfl]; exact ⟨_, _, e2⟩
    | g x => cases x with
      | rows es l => cases l <;> exact (holds_fail h).elim
      | nil =>
        refine ⟨.lit 0, ?_, h⟩
        rcases hc with hc | hc
        · cases hc
        · generalize a.eval X = u at hc
          cases hc
          exact ⟨_, _, rfl⟩
      | _ => exact (holds_fail h).elim
    | _ => exact (holds_fail h).elim
  obtain ⟨n, ⟨A_, l, h1⟩, h⟩ := key
  refine ⟨_, _, h, num_rep _ _, fun w' _ => ?_⟩
  rw [zOfN_val hI]
  simp [execOp, hop, resolve, invoke, builtin, h1, Builtin.cap_, h0, run_underlying ht, goInt]
theorem evZs_inv : ∀ {l : List Operand} {xs : List Opd} {k : List Z → Tree}, opds l = some xs → At E m w ts a → Holds P I p (evZs ts xs k) →
    ∃ zs : List Z, zs.length = l.length ∧ (∀ (j : Nat) (X : Operand), l[j]? = some X → ∃ i z, zs[j]? = some z ∧ a.eval X = .int i z.val) ∧ Holds P I p (k zs)
  | [], xs, k, ho, hA, h => by
    cases ho
    exact ⟨[], rfl, fun j X hj => by simp at hj, h⟩
  | X :: r, xs, k, ho, hA, h => by
    simp only [opds] at ho
    split at ho
    · rename_i x l hx hl
      cases ho
      obtain ⟨i, z, hz, h⟩ := evZ_inv hx hA h
      obtain ⟨zs, h1, h2, h⟩ := evZs_inv hl hA h
      refine ⟨z :: zs, by simp [h1], fun j Y hj => ?_, h⟩
      cases j with
      | zero => simp at hj; subst hj; exact ⟨i, z, rfl, hz⟩
      | succ j => simpa using h2 j Y (by simpa using hj)
    · cases ho
theorem zMx_val (hI : I = ints) (mx : Bool) (x y : Z) : (zMx I mx x y).val = match mx with | true => (if y.val > x.val then y.val else x.val) | false => (if y.val < x.val then y.val else x.val) := by
  subst hI
  cases x <;> cases y <;> cases mx <;> rfl
theorem run_mnmx (mx : Bool) (hI : I = ints) (i : IntKind) (w' : World) : ∀ (l : List Operand) (zs : List Z) (z0 : Z), zs.length = l.length → (∀ (j : Nat) (X : Operand), l[j]? = some X → ∃ i z, zs[j]? = some z ∧ a.eval X = .int i z.val) →
    ((l.map a.eval).foldlM (match mx with | true => Builtin.max2 | false => Builtin.min2) (.int i z0.val)).run P w' = .ok (.int i (zs.foldl (zMx I mx) z0).val) w'
  | [], zs, z0, hl, _ => by
    obtain rfl : zs = [] := List.eq_nil_of_length_eq_zero (by simpa using hl)
    simp
  | X :: r, zs, z0, hl, h => by
    cases zs with
    | nil => simp at hl
    | cons z zs =>
      obtain ⟨j, z', hz, hX⟩ := h 0 X rfl
      simp at hz
      subst hz
      have ih := run_mnmx mx hI i w' r zs (zMx I mx z0 z) (by simpa using hl) (fun j Y hj => by simpa using h (j + 1) Y (by simpa using hj))
      rw [zMx_val hI] at ih
      cases mx <;> simp only [List.map_cons, List.foldlM_cons, hX, Builtin.max2, Builtin.min2, List.foldl_cons, Sem.run_bind, Sem.run_pure, Result.andThen_ok] at ih ⊢ <;> exact ih
theorem q_mnmx {mx : Bool} {X : Operand} {L : List Operand} {args : Array Operand} {x : Opd} {l : List Opd} {ats : Array TypeId} (hI : I = ints) (hop : o.op = .call { callee := .builtin (match mx with | true => .max | false => .min), args := args, argTypes := ats }) (ha : args.toList = X :: L)
    (ho : opd X = some x) (hol : opds L = some l) (hA : At E m w ts a) (h : Holds P I p (evOp I er wr (.mnmx mx x l) ts m k)) : QRes P I p E m w wr er a o k := by
  obtain ⟨i, z, hz, h⟩ := evZ_inv ho hA h
  obtain ⟨zs, h1, h2, h⟩ := evZs_inv hol hA h
  refine ⟨_, _, h, num_rep _ _, fun w' _ => ?_⟩
  have hr := run_mnmx (P := P) (a := a) mx hI i w' L zs z h1 h2
  have hm : (args.map a.eval).toList = .int i z.val :: L.map a.eval := by simp [ha, hz]
  cases mx <;> simp only [execOp, hop, resolve, invoke, builtin, Builtin.max_, Builtin.min_, hm, Sem.run_bind, Sem.run_pure, Result.andThen_ok, hr]
theorem run_asIntOf (i : IntKind) (n : Int) (w' : World) : (asIntOf (.int i n)).run P w' = .ok (i, n) w' := rfl
theorem run_index_slice {t e : TypeId} {es : Nat} (ht : P.underlying t = some (.slice e)) (hs : size? P e = some es) (A_ : Addr) (n c j : Nat) (i : IntKind) (hj : j < n) (w' : World) :
    (Instr.indexAt t (.slice (some A_) n c) (.int i (j : Int))).run P w' = .ok (.pointer (some (A_.add (j * es)))) w' := by
  have h1 : (0 : Int) ≤ (j : Int) ∧ (j : Int) < (n : Int) := by omega
  simp [Instr.indexAt, run_asIntOf, run_underlying ht, size_run hs, hj]
theorem run_index_arr {t e : TypeId} {es n : Nat} (ht : P.underlying t = some (.array n e)) (hs : size? P e = some es) (A_ : Addr) (j : Nat) (i : IntKind) (hj : j < n) (w' : World) :
    (Instr.indexAt t (.pointer (some A_)) (.int i (j : Int))).run P w' = .ok (.pointer (some (A_.add (j * es)))) w' := by
  simp [Instr.indexAt, run_asIntOf, run_underlying ht, size_run hs, hj, Instr.sureAddr]
theorem at_add (a off n : Nat) : (at_ a off).add n = at_ a (off + n) := Addr.add_mid a off n
theorem q_indexArr {t e : TypeId} {es n : Nat} {X Y : Operand} {x y : Opd} (hop : o.op = .indexAddr t X Y) (ht : P.underlying t = some (.array n e)) (hz : size? P e = some es)
    (ho : opd X = some x) (ho' : opd Y = some y) (hA : At E m w ts a) (h : Holds P I p (evOp I er wr (.indexAddr (some n) es x y) ts m k)) : QRes P I p E m w wr er a o k := by
  obtain ⟨c, hc, h⟩ := evC_inv ho hA h
  obtain ⟨i, z, hz', h⟩ := evZ_inv ho' hA h
  cases c with
  | ptr b q es' j =>
    simp only at h
    obtain ⟨r, h1, h2, h⟩ := zIdx_inv h
    rcases hc with hc | ⟨hb, a_, base, h3, h4⟩
    · cases hc
    cases r with
    | sym r => exact (holds_fail h).elim
    | lit r =>
      refine ⟨_, .pointer (some (at_ a_ (base + (q.val * es' + (j + r * es))))), h, .inr ⟨hb, a_, base, h3, rfl⟩, fun w' _ => ?_⟩
      simp only [NN.val_lit] at h1 h2
      simp [execOp, hop, h4, hz', h1, run_index_arr ht hz _ r i h2, at_add, Nat.add_assoc]
  | _ => exact (holds_fail h).elim
theorem q_indexRow {t e : TypeId} {es : Nat} {X Y : Operand} {x y : Opd} (hI : I = ints) (hop : o.op = .indexAddr t X Y) (ht : P.underlying t = some (.slice e)) (hz : size? P e = some es)
    (ho : opd X = some x) (ho' : opd Y = some y) (hA : At E m w ts a) (h9 : Holds P I p (evOp I er wr (.indexAddr none es x y) ts m k)) : QRes P I p E m w wr er a o k := by
  obtain ⟨c, hc, h8⟩ := evC_inv ho hA h9
  clear h9
  obtain ⟨i, z, hz', h⟩ := evZ_inv ho' hA h8
  clear h8
  -- a row that is read
  have rd : ∀ (l : List (List G)) (A_ : Option Addr) (c' : Nat) (u : Nat → Nat → Value) (r : NN), a.eval X = .slice A_ l.length c' → l.length ≤ c' → RowAt w (fun k => E.F k ∨ E.B k) es l A_ u →
      (∀ (i : Nat) (r : List G) (j : Nat) (x : G), l[i]? = some r → r[j]? = some x → GRep E.F w x (u i j)) → z.val = (r.val : Int) → r.val < l.length →
      Holds P I p (.nth l r.val fun r => k (.one (.c (.gp r 0))) m) → QRes P I p E m w wr er a o k := by
    intro l A_ c' u r e1 e2 e3 e4 e5 e6 h
    cases h with
    | nth g hg h =>
    obtain ⟨a_, off, hA', hT⟩ := e3.some_ (by rintro rfl; simp at hg)
    refine ⟨_, .pointer (some (at_ a_ (off + r.val * es))), h, .inr ⟨a_, off + r.val * es, by simp, hT, fun j x hj => ?_⟩, fun w' _ => ?_⟩
    · obtain ⟨a2, off2, q1, q2, q3⟩ := e3.cell _ _ j x hg hj
      rw [hA'] at q1
      simp only [at_, Option.some.injEq, Addr.mk.injEq, and_true] at q1
      obtain ⟨rfl, rfl⟩ := q1
      exact ⟨_, by rw [Nat.add_assoc]; exact q3, e4 _ _ _ _ hg hj⟩
    · simp [execOp, hop, e1, hz', e5, hA', run_index_slice ht hz _ _ _ _ i e6, at_add]
  cases c with
  | g x =>
    cases x with
    | rows es' l =>
      simp only at h
      split at h
      · rename_i he
        obtain rfl : es = es' := by simpa using he
        obtain ⟨r, h1, h2, h⟩ := zIdx_inv h
        rcases hc with hc | hc
        · cases hc
        generalize hv : a.eval X = v at hc
        cases hc with
        | rows u g1 g2 g3 => exact rd l _ _ u r hv g1 (g2.step (fun _ h => .inl h) (fun _ _ => rfl)) g3 h1 (by subst hI; exact h2) h
      · exact (holds_fail h).elim
    | _ => exact (holds_fail h).elim
  | bor es' l =>
    simp only at h
    split at h
    · rename_i he
      obtain rfl : es = es' := by simpa using he
      obtain ⟨r, h1, h2, h⟩ := zIdx_inv h
      rcases hc with hc | ⟨A_, c', u, g1, g2, g3, g4⟩
      · cases hc
      exact rd l A_ c' u r g1 g2 g3 g4 h1 (by subst hI; exact h2) h
    · exact (holds_fail h).elim
  | row b es' cap =>
    have key : ∃ (blk : Blk) (r : NN), m[b]? = some blk ∧ blk.live ∧ es = es' ∧ z.val = (r.val : Int) ∧ r.val < blk.rows.length ∧ Holds P I p (k (.one (.c (.ptr b r es 0))) m) := by
      simp only at h
      split at h
      · rename_i he hm
        obtain ⟨r, h1, h2, h⟩ := zIdx_inv h
        exact ⟨_, r, hm, trivial, by simpa using he, h1, h2, h⟩
      · rename_i he hm
        obtain ⟨r, h1, h2, h⟩ := zIdx_inv h
        exact ⟨_, r, hm, trivial, by simpa using he, h1, by subst hI; simpa [Blk.rows, ints] using h2, h⟩
      · exact (holds_fail h).elim
    obtain ⟨blk, r, hm, hl, rfl, h1, h2, h⟩ := key
    rcases hc with hc | ⟨h0, ho, hc⟩
    · cases hc
    obtain ⟨k1, k2, k3⟩ := hc blk hm hl
    rcases k3 with ⟨e1, e2⟩ | ⟨a_, base, c, e1, e2, e3, _⟩
    · rcases hA.sat.rep b blk hm hl with ⟨_, e3⟩ | ⟨a', base', e3, _⟩
      · rw [e3] at h2; simp at h2
      · rw [e1] at e3; cases e3
    · refine ⟨_, .pointer (some (at_ a_ (base + (r.val * es + 0)))), h, .inr ⟨h0, a_, base, e1, rfl⟩, fun w' _ => ?_⟩
      simp [execOp, hop, e2, hz', h1, run_index_slice ht hz _ _ _ _ i h2, at_add]
  | sl b o' es' n cap =>
    have key : ∃ (blk : Blk) (r : NN), m[b]? = some blk ∧ blk.live ∧ es = es' ∧ z.val = (r.val : Int) ∧ r.val < n.val ∧ Holds P I p (k (.one (.c (.ptr b (nAdd I o' r) es 0))) m) := by
      simp only at h
      split at h
      · rename_i he hm
        obtain ⟨r, h1, h2, h⟩ := zIdx_inv h
        exact ⟨_, r, hm, trivial, by simpa using he, h1, h2, h⟩
      · rename_i he hm
        obtain ⟨r, h1, h2, h⟩ := zIdx_inv h
        exact ⟨_, r, hm, trivial, by simpa using he, h1, h2, h⟩
      · exact (holds_fail h).elim
    obtain ⟨blk, r, hm, hl, rfl, h1, h2, h⟩ := key
    rcases hc with hc | ⟨h0, ho, hc⟩
    · cases hc
    obtain ⟨k1, k2, k3, k4⟩ := hc blk hm hl
    rcases k4 with ⟨e1, e2, e3⟩ | ⟨a_, base, c, off, e1, e2, e3, e4, _⟩
    · omega
    · have := e3 (by omega)
      subst this
      refine ⟨_, .pointer (some (at_ a_ (base + ((nAdd I o' r).val * es + 0)))), h, .inr ⟨h0, a_, base, e1, rfl⟩, fun w' _ => ?_⟩
      simp [execOp, hop, e2, hz', h1, run_index_slice ht hz _ _ _ _ i h2, at_add, nAdd_val hI, Nat.add_mul, Nat.add_assoc]
  | _ => exact (holds_fail h).elim
theorem q_index {t e : TypeId} {es n : Nat} {X Y : Operand} {x y : Opd} {ag : Option Nat} (hop : o.op = .index t X Y) (ht : P.underlying t = some (.array n e)) (hz : size? P e = some es) (hag : agOf P e = some ag)
    (ho : opd X = some x) (ho' : opd Y = some y) (hA : At E m w ts a) (h : Holds P I p (evOp I er wr (.index n es ag x y) ts m k)) : QRes P I p E m w wr er a o k := by
  obtain ⟨c, hc, h⟩ := ev1_inv ho hA h
  obtain ⟨i, z, hz', h⟩ := evZ_inv ho' hA h
  cases c with
  | c x => exact (holds_fail h).elim
  | agg l =>
    simp only at h
    obtain ⟨r, h1, h2, h⟩ := zIdx_inv h
    cases r with
    | sym r => exact (holds_fail h).elim
    | lit r =>
      obtain ⟨cs, g1, g2, g3⟩ := hc
      obtain ⟨av, v, f1, f2, f3⟩ := part_at hag h g2 g3
      refine ⟨_, v, f1, f2, fun w' _ => ?_⟩
      simp only [NN.val_lit] at h1 h2
      simp [execOp, hop, g1, hz', Instr.index, run_asIntOf, run_underlying ht, h1, h2, size_run hz, f3]
theorem ext_get {α : Type} {l : List α} {p q i : Nat} {x : α} (h : ((l.take q).drop p)[i]? = some x) : p + i < q ∧ l[p + i]? = some x := by
  rw [List.getElem?_drop, List.getElem?_take] at h
  split at h
  · exact ⟨by assumption, h⟩
  · cases h
theorem RowAt.ext {T : Nat → Prop} {es : Nat} {l : List (List G)} {A_ : Option Addr} {u : Nat → Nat → Value} {p q c : Nat} (h : RowAt w T es l A_ u) (hq : q ≤ l.length) (hc : l.length ≤ c) :
    RowAt w T es ((l.take q).drop p) (if c = p then A_ else A_.map (·.add (p * es))) (fun i j => u (p + i) j) where
  wid := fun i r hi => h.wid _ r (ext_get hi).2
  cell := fun i r j x hi hj => by
    obtain ⟨hlt, hi⟩ := ext_get hi
    obtain ⟨a_, off, h1, h2, h3⟩ := h.cell _ r j x hi hj
    rw [if_neg (by omega), h1]
    exact ⟨a_, off + p * es, by simp [at_add], h2, by rw [← h3, Nat.add_mul]; congr 2; omega⟩
  some_ := fun hne => by
    have : p < q := by
      rcases Nat.lt_or_ge p q with h' | h'
      · exact h'
      · exact absurd (List.drop_eq_nil_of_le (by simp; omega)) hne
    obtain ⟨a_, off, h1, h2⟩ := h.some_ (by rintro rfl; simp at hq; omega)
    rw [if_neg (by omega), h1]
    exact ⟨a_, off + p * es, by simp [at_add], h2⟩
theorem run_slice {t e : TypeId} {es : Nat} (ht : P.underlying t = some (.slice e)) (hs : size? P e = some es) (A_ : Option Addr) (n c l r : Nat) (lo hi : Option Value) (i j : IntKind)
    (h1 : lo = none ∧ l = 0 ∨ lo = some (.int i (l : Int))) (h2 : hi = none ∧ r = n ∨ hi = some (.int j (r : Int)) ∧ r ≤ c) (h3 : l ≤ r) (w' : World) :
    (Instr.sliceAt t (.slice A_ n c) lo hi none).run P w' = .ok (.slice (if c = l then A_ else A_.map (·.add (l * es))) (r - l) (c - l)) w' := by
  rcases h1 with ⟨rfl, rfl⟩ | rfl <;> rcases h2 with ⟨rfl, rfl⟩ | ⟨rfl, h2⟩ <;>
    simp [Instr.sliceAt, Instr.slice, Instr.sliceBounds, Instr.sliceBound, run_asIntOf, run_underlying ht, size_run hs, *]
theorem evZ?_inv {X : Option Operand} {x : Option Opd} {k : Option Z → Tree} (ho : compOpt X = some x) (hA : At E m w ts a) (h : Holds P I p (evZ? ts x k)) :
    ∃ z : Option Z, (z = none ∧ X.map a.eval = none ∨ ∃ i y, z = some y ∧ X.map a.eval = some (.int i y.val)) ∧ (x = none ↔ z = none) ∧ Holds P I p (k z) := by
  unfold compOpt at ho
  split at ho
  · cases ho
    exact ⟨none, .inl ⟨rfl, rfl⟩, by simp, h⟩
  · split at ho
    · rename_i hx
      cases ho
      obtain ⟨i, z, hz, h⟩ := evZ_inv hx hA h
      exact ⟨some z, .inr ⟨i, z, rfl, by simp [hz]⟩, by simp, h⟩
    · cases ho
theorem q_slice {t e : TypeId} {es : Nat} {X : Operand} {Lo Hi : Option Operand} {x : Opd} {lo hi : Option Opd} (hI : I = ints) (hop : o.op = .slice t X Lo Hi none) (ht : P.underlying t = some (.slice e)) (hz : size? P e = some es)
    (ho : opd X = some x) (hlo : compOpt Lo = some lo) (hhi : compOpt Hi = some hi) (hA : At E m w ts a) (h9 : Holds P I p (evOp I er wr (.slice es x lo hi) ts m k)) : QRes P I p E m w wr er a o k := by
  obtain ⟨c, hc, h8⟩ := evC_inv ho hA h9
  clear h9
  obtain ⟨zl, hl, -, h7⟩ := evZ?_inv hlo hA h8
  clear h8
  obtain ⟨zh, hh, hn, h⟩ := evZ?_inv hhi hA h7
  clear h7
  -- what the operation does, by its bounds
  have run : ∀ (A_ : Option Addr) (n c' : Nat) (l r : NN), a.eval X = .slice A_ n c' → (zl.map Z.val).getD 0 = (l.val : Int) → (zh.map Z.val).getD n = (r.val : Int) → l.val ≤ r.val → (zh ≠ none → r.val ≤ c') →
      ∀ w', (execOp a.eval o).run P w' = .ok (.value (.slice (if c' = l.val then A_ else A_.map (·.add (l.val * es))) (r.val - l.val) (c' - l.val))) w' := by
    intro A_ n c' l r e1 e2 e3 e4 e5 w'
    have h1 : ∃ i, Lo.map a.eval = none ∧ l.val = 0 ∨ Lo.map a.eval = some (.int i (l.val : Int)) := by
      rcases hl with ⟨rfl, hl⟩ | ⟨i, y, rfl, hl⟩
      · exact ⟨.i64, .inl ⟨hl, by simp at e2; omega⟩⟩
      · exact ⟨i, .inr (by rw [hl]; simp at e2; rw [e2])⟩
    have h2 : ∃ i, Hi.map a.eval = none ∧ r.val = n ∨ Hi.map a.eval = some (.int i (r.val : Int)) ∧ r.val ≤ c' := by
      rcases hh with ⟨rfl, hh⟩ | ⟨i, y, rfl, hh⟩
      · exact ⟨.i64, .inl ⟨hh, by simp at e3; omega⟩⟩
      · exact ⟨i, .inr ⟨by rw [hh]; simp at e3; rw [e3], e5 (by simp)⟩⟩
    obtain ⟨i, h1⟩ := h1
    obtain ⟨j, h2⟩ := h2
    simp [execOp, hop, e1, run_slice ht hz A_ n c' l.val r.val (Lo.map a.eval) (Hi.map a.eval) i j h1 h2 e4]
  cases c with
  | g x =>
    cases x with
    | nil =>
      rcases hc with hc | hc
      · cases hc
      generalize hv : a.eval X = v at hc
      cases hc
      simp only at h
      obtain ⟨q, r, h1, h2, h3, h4, h⟩ := zRng_inv h
      simp only [NN.val_lit] at h4
      have hr : r.val = 0 := by omega
      have hq : q.val = 0 := by omega
      refine ⟨_, _, h, .inr GRep.nil, fun w' _ => ?_⟩
      have := run none 0 0 q r hv h1 (by simpa using h2) h3 (fun _ => by omega) w'
      simpa [hr, hq] using this
    | rows es' l =>
      rcases hc with hc | hc
      · cases hc
      generalize hv : a.eval X = v at hc
      cases hc with
      | rows u g1 g2 g3 =>
      rename_i A_ c'
      simp only at h
      split at h
      · rename_i he
        obtain rfl : es = es' := by simpa using he
        obtain ⟨q, r, h1, h2, h3, h4, h⟩ := zRng_inv h
        subst hI
        have h4' : r.val ≤ l.length := h4
        have hlen : ((l.take r.val).drop q.val).length = r.val - q.val := by simp; omega
        refine ⟨_, _, h, .inr (GRep.rows (l := ints.ext l q.val r.val) (fun i j => u (q.val + i) j) (c := c' - q.val) ?_ (g2.ext h4' g1) (fun i r' j x hi hj => g3 _ r' j x (ext_get hi).2 hj)), fun w' _ => ?_⟩
        · show ((l.take r.val).drop q.val).length ≤ _
          rw [hlen]; omega
        · have := run A_ _ c' q r hv h1 h2 h3 (fun _ => by omega) w'
          rw [this]
          show _ = Result.ok (Next.value (.slice _ ((l.take r.val).drop q.val).length _)) _
          rw [hlen]
      · exact (holds_fail h).elim
    | _ => exact (holds_fail h).elim
  | bor es' l =>
    simp only at h
    split at h
    · rename_i he
      obtain rfl : es = es' := by simpa using he
      obtain ⟨q, r, h1, h2, h3, h4, h⟩ := zRng_inv h
      rcases hc with hc | ⟨A_, c', u, g0, g1, g2, g3⟩
      · cases hc
      subst hI
      have h4' : r.val ≤ l.length := h4
      have hlen : ((l.take r.val).drop q.val).length = r.val - q.val := by simp; omega
      refine ⟨_, .slice (if c' = q.val then A_ else A_.map (·.add (q.val * es))) (r.val - q.val) (c' - q.val), h, .inr ⟨if c' = q.val then A_ else A_.map (·.add (q.val * es)), c' - q.val, fun i j => u (q.val + i) j, ?_, ?_, g2.ext h4' g1, fun i r' j x hi hj => g3 _ r' j x (ext_get hi).2 hj⟩, fun w' _ => ?_⟩
      · show _ = Value.slice _ ((l.take r.val).drop q.val).length _
        rw [hlen]
      · show ((l.take r.val).drop q.val).length ≤ _
        rw [hlen]; omega
      · exact run A_ _ c' q r g0 h1 h2 h3 (fun _ => by omega) w'
    · exact (holds_fail h).elim
  | row b es' cap =>
    have key : ∃ (blk : Blk) (q r : NN), m[b]? = some blk ∧ blk.live ∧ es = es' ∧ (zl.map Z.val).getD 0 = (q.val : Int) ∧ (zh.map Z.val).getD blk.rows.length = (r.val : Int) ∧ q.val ≤ r.val ∧ r.val ≤ blk.rows.length ∧
        Holds P I p (k (.one (.c (.sl b q es (nSub I r q) (cap.map fun c => nSub I c q)))) m) := by
      simp only at h
      split at h
      · exact (holds_fail h).elim
      · rename_i blk hd he hm
        obtain ⟨q, r, h1, h2, h3, h4, h⟩ := zRng_inv h
        rw [blk_len_val hI] at h2 h4
        exact ⟨blk, q, r, hm, by cases blk <;> first | trivial | exact absurd rfl hd, by simpa using he, h1, h2, h3, h4, h⟩
      · exact (holds_fail h).elim
    obtain ⟨blk, q, r, hm, hl', rfl, h1, h2, h3, h4, h⟩ := key
    rcases hc with hc | ⟨h0, ho', hc⟩
    · cases hc
    obtain ⟨k1, k2, k3⟩ := hc blk hm hl'
    rcases k3 with ⟨e1, e2⟩ | ⟨a_, base, c, e1, e2, e3, e4, e5⟩
    · rcases hA.sat.rep b blk hm hl' with ⟨_, e3⟩ | ⟨a', base', e3, _⟩
      · have hz0 : blk.rows.length = 0 := by rw [e3]; rfl
        have hr0 : r.val = 0 := by omega
        have hq0 : q.val = 0 := by omega
        refine ⟨_, .slice none 0 0, h, .inr ⟨h0, rfl, fun blk' hb' hlb => ?_⟩, fun w' _ => ?_⟩
        · rw [hm] at hb'; cases hb'
          refine ⟨k1, by rw [nSub_val hI]; omega, fun c' hc' => ?_, .inl ⟨e1, rfl, by rw [nSub_val hI]; omega⟩⟩
          cases cap with
          | none => cases hc'
          | some c0 => cases hc'; rw [nSub_val hI, k2 c0 rfl]; omega
        · have := run none 0 0 q r e2 h1 (by rw [hz0] at h2; exact h2) h3 (fun _ => by omega) w'
          rw [this, hr0, hq0]; rfl
      · rw [e1] at e3; cases e3
    · refine ⟨_, .slice (if c = q.val then some (at_ a_ base) else (some (at_ a_ base)).map (·.add (q.val * es))) (r.val - q.val) (c - q.val), h, .inr ⟨h0, rfl, fun blk' hb' hlb => ?_⟩, fun w' _ => run _ _ _ q r e2 h1 h2 h3 (fun _ => by omega) w'⟩
      rw [hm] at hb'; cases hb'
      refine ⟨k1, by rw [nSub_val hI]; omega, fun c' hc' => ?_, .inr ⟨a_, base, c - q.val, if c = q.val then base else base + q.val * es, e1, ?_, fun hlt => if_neg (by omega), by rw [nSub_val hI]; omega, fun c' hc' => ?_, fun j hj => ?_⟩⟩
      · cases cap with
        | none => cases hc'
        | some c0 => cases hc'; rw [nSub_val hI, k2 c0 rfl]; omega
      · rw [nSub_val hI]; split <;> simp [at_add]
      · cases cap with
        | none => cases hc'
        | some c0 => cases hc'; rw [nSub_val hI, e4 c0 rfl]
      · rw [Nat.add_assoc]
        refine e5 _ ?_
        have : (q.val + (c - q.val)) * es = q.val * es + (c - q.val) * es := Nat.add_mul _ _ _
        rw [show q.val + (c - q.val) = c by omega] at this
        omega
  | sl b o' es' n cap =>
    have key : ∃ (blk : Blk) (q r : NN), m[b]? = some blk ∧ blk.live ∧ es = es' ∧ (zl.map Z.val).getD 0 = (q.val : Int) ∧ (zh.map Z.val).getD n.val = (r.val : Int) ∧ q.val ≤ r.val ∧ (r.val ≤ n.val ∨ ∃ c0 : NN, zh ≠ none ∧ cap = some c0 ∧ r.val ≤ c0.val) ∧
        Holds P I p (k (.one (.c (.sl b (nAdd I o' q) es (nSub I r q) (cap.map fun c => nSub I c q)))) m) := by
      simp only at h
      split at h
      · exact (holds_fail h).elim
      · rename_i blk hd he hm
        obtain ⟨q, r, h1, h2, h3, h4, hk⟩ := zRng_inv h
        clear h
        have hlv : blk.live := by cases blk <;> first | trivial | exact absurd rfl hd
        have he : es = es' := by simpa using he
        cases hi with
        | none =>
          have hz0 : zh = none := hn.1 rfl
          subst hz0
          exact ⟨blk, q, r, hm, hlv, he, h1, h2, h3, .inl h4, hk⟩
        | some hi0 =>
          have hz0 : zh ≠ none := fun e => by have := hn.2 e; cases this
          have h2' : (zh.map Z.val).getD n.val = (r.val : Int) := by
            cases zh with
            | none => exact absurd rfl hz0
            | some y => exact h2
          cases cap with
          | none => exact ⟨blk, q, r, hm, hlv, he, h1, h2', h3, .inl h4, hk⟩
          | some c0 => exact ⟨blk, q, r, hm, hlv, he, h1, h2', h3, .inr ⟨c0, hz0, rfl, h4⟩, hk⟩
      · exact (holds_fail h).elim
    obtain ⟨blk, q, r, hm, hl', rfl, h1, h2, h3, h4, h⟩ := key
    rcases hc with hc | ⟨h0, ho', hc⟩
    · cases hc
    obtain ⟨k1, k2, k3, k4⟩ := hc blk hm hl'
    rcases k4 with ⟨e1, e2, e0⟩ | ⟨a_, base, c, off, e1, e2, e3, e4, e5, e6⟩
    · rcases hA.sat.rep b blk hm hl' with ⟨_, e3⟩ | ⟨a', base', e3, _⟩
      · have hz0 : blk.rows.length = 0 := by rw [e3]; rfl
        have hr0 : r.val = 0 := by
          rcases h4 with h4 | ⟨c0, _, hc0, h4⟩
          · omega
          · have := k3 c0 hc0; omega
        have hq0 : q.val = 0 := by omega
        refine ⟨_, .slice none 0 0, h, .inr ⟨h0, rfl, fun blk' hb' hlb => ?_⟩, fun w' _ => ?_⟩
        · rw [hm] at hb'; cases hb'
          refine ⟨k1, by rw [nSub_val hI, nAdd_val hI]; omega, fun c' hc' => ?_, .inl ⟨e1, rfl, by rw [nSub_val hI]; omega⟩⟩
          cases cap with
          | none => cases hc'
          | some c0 => cases hc'; have := k3 c0 rfl; rw [nSub_val hI, nAdd_val hI]; omega
        · have := run none 0 0 q r e2 h1 (by rw [e0] at h2; exact h2) h3 (fun _ => by omega) w'
          rw [this, hr0, hq0]; rfl
      · rw [e1] at e3; cases e3
    · have hrc : r.val ≤ c := by
        rcases h4 with h4 | ⟨c0, _, hc0, h4⟩
        · omega
        · rw [e5 c0 hc0]; exact h4
      have hrl : o'.val + r.val ≤ blk.rows.length := by
        rcases h4 with h4 | ⟨c0, _, hc0, h4⟩
        · omega
        · have := k3 c0 hc0; omega
      refine ⟨_, .slice (if c = q.val then some (at_ a_ off) else (some (at_ a_ off)).map (·.add (q.val * es))) (r.val - q.val) (c - q.val), h, .inr ⟨h0, rfl, fun blk' hb' hlb => ?_⟩, fun w' _ => run _ _ _ q r e2 h1 h2 h3 (fun _ => hrc) w'⟩
      rw [hm] at hb'; cases hb'
      refine ⟨k1, by rw [nSub_val hI, nAdd_val hI]; omega, fun c' hc' => ?_, .inr ⟨a_, base, c - q.val, if c = q.val then off else off + q.val * es, e1, ?_, fun hlt => ?_, by rw [nSub_val hI]; omega, fun c' hc' => ?_, fun j hj => ?_⟩⟩
      · cases cap with
        | none => cases hc'
        | some c0 => cases hc'; have := k3 c0 rfl; have := e5 c0 rfl; rw [nSub_val hI, nAdd_val hI]; omega
      · rw [nSub_val hI]; split <;> simp [at_add]
      · rw [if_neg (by omega), e3 (by omega), nAdd_val hI, Nat.add_mul]; omega
      · cases cap with
        | none => cases hc'
        | some c0 => cases hc'; rw [nSub_val hI, e5 c0 rfl]
      · rw [nAdd_val hI, Nat.add_mul, Nat.add_assoc, Nat.add_assoc, ← Nat.add_assoc base]
        refine e6 _ ?_
        have : (q.val + (c - q.val)) * es = q.val * es + (c - q.val) * es := Nat.add_mul _ _ _
        rw [show q.val + (c - q.val) = c by omega] at this
        omega
  | _ => exact (holds_fail h).elim
theorem bAnd_val (hI : I = ints) (x y : BB) : (bAnd I x y).val = (x.val && y.val) := by
  subst hI
  rcases x with (_ | _) | x <;> rcases y with (_ | _) | y <;> simp [bAnd, ints]
theorem bEq_val (hI : I = ints) (x y : BB) : (bEq I x y).val = (x.val == y.val) := by
  subst hI
  cases x <;> cases y <;> rfl
theorem eqCells_nil {l r : List C} {b : BB} (h : eqCells I [] l r = some b) : l = [] ∧ r = [] ∧ b = .lit true := by
  cases l with
  | cons c l => simp [eqCells] at h
  | nil =>
    cases r with
    | cons c r => simp [eqCells] at h
    | nil => simp [eqCells] at h; exact ⟨rfl, rfl, h.symm⟩
theorem eqCells_num {ks : List Bool} {l r : List C} {b : BB} (h : eqCells I (false :: ks) l r = some b) : ∃ i x y l' r' b', l = .g (.int i x) :: l' ∧ r = .g (.int i y) :: r' ∧ eqCells I ks l' r' = some b' ∧ b = bAnd I (zCmp I .eql x y) b' := by
  cases l with
  | nil => simp [eqCells] at h
  | cons c l =>
    cases c with
    | g x =>
      cases x with
      | int i x =>
        cases r with
        | nil => simp [eqCells] at h
        | cons c' r =>
          cases c' with
          | g y =>
            cases y with
            | int j y =>
              simp only [eqCells] at h
              split at h
              · rename_i b' hij hb'
                cases h
                obtain rfl := of_decide_eq_true hij
                exact ⟨i, x, y, l, r, b', rfl, rfl, hb', rfl⟩
              · cases h
            | _ => simp [eqCells] at h
          | _ => simp [eqCells] at h
      | _ => simp [eqCells] at h
    | _ => simp [eqCells] at h
theorem eqCells_bool {ks : List Bool} {l r : List C} {b : BB} (h : eqCells I (true :: ks) l r = some b) : ∃ x y l' r' b', l = .g (.bool x) :: l' ∧ r = .g (.bool y) :: r' ∧ eqCells I ks l' r' = some b' ∧ b = bAnd I (bEq I x y) b' := by
  cases l with
  | nil => simp [eqCells] at h
  | cons c l =>
    cases c with
    | g x =>
      cases x with
      | bool x =>
        cases r with
        | nil => simp [eqCells] at h
        | cons c' r =>
          cases c' with
          | g y =>
            cases y with
            | bool y =>
              simp only [eqCells] at h
              split at h
              · rename_i b' hb'
                cases h
                exact ⟨x, y, l, r, b', rfl, rfl, hb', rfl⟩
              · cases h
            | _ => simp [eqCells] at h
          | _ => simp [eqCells] at h
      | _ => simp [eqCells] at h
    | _ => simp [eqCells] at h
theorem eqField_fin {f : Field} {fs : List Field} {n d : Nat} {xs ys : Array Value} {u v : Value} {q s : Bool} {w' : World} (hu : xs[n]? = some u) (hv : ys[n]? = some v) (hn : (f.name == "_") = false) (ho : f.offset = n) (hag : agOf P f.type = some none)
    (heq : (Op.equalIn d f.type u v).run P w' = .ok q w') (next : (Op.eqFields d xs ys fs).run P w' = .ok s w') : (Op.eqFields d xs ys (f :: fs)).run P w' = .ok (q && s) w' := by
  have hn' : f.name ≠ "_" := by simpa using hn
  have ha : (part f.type xs f.offset).run P w' = .ok u w' := by simp [part, Sem.run_bind, ag_none hag, ho, hu]
  have hb : (part f.type ys f.offset).run P w' = .ok v w' := by simp [part, Sem.run_bind, ag_none hag, ho, hv]
  rw [Op.eqFields]
  simp only [if_pos hn', Sem.run_bind, ha, hb, heq, Result.andThen_ok]
  cases q
  · simp
  · simpa using next
theorem eqFields_run (hI : I = ints) {xs ys : Array Value} {d : Nat} (w' : World) : ∀ (fs : List Field) (n : Nat) (ks : List Bool) (l r : List C) (b : BB), flat P fs n = some ks → eqCells I ks l r = some b →
    (∀ (i : Nat) (x : C), l[i]? = some x → ∃ u, xs[n + i]? = some u ∧ CRep E m w x u) → (∀ (i : Nat) (x : C), r[i]? = some x → ∃ u, ys[n + i]? = some u ∧ CRep E m w x u) →
    (Op.eqFields (d + 1) xs ys fs).run P w' = .ok b.val w'
  | [], n, ks, l, r, b, hf, he, hx, hy => by
    cases hf
    obtain ⟨rfl, rfl, rfl⟩ := eqCells_nil he
    simp [Op.eqFields]
  | f :: fs, n, ks, l, r, b, hf, he, hx, hy => by
    unfold flat at hf
    split at hf
    · rename_i kd h1 h2 h3
      have ho : f.offset = n := by simpa using h2
      have hag : agOf P f.type = some none := by unfold agOf; rw [h1]
      split at hf
      · rename_i ks' hks
        cases hf
        obtain ⟨i, x, y, l', r', b', rfl, rfl, hb', rfl⟩ := eqCells_num he
        obtain ⟨u, hu, hcu⟩ := hx 0 _ rfl
        obtain ⟨v, hv, hcv⟩ := hy 0 _ rfl
        cases hcu
        cases hcv
        rw [bAnd_val hI, zCmp_val hI]
        refine eqField_fin hu hv h3 ho hag (by simp [Op.equalIn, run_underlying h1, rCmp]) (eqFields_run hI w' fs (n + 1) ks' l' r' b' hks hb' (fun i x hi => ?_) (fun i x hi => ?_))
        · obtain ⟨u, h3, h4⟩ := hx (i + 1) x (by simpa using hi)
          exact ⟨u, by rw [← h3]; congr 1; omega, h4⟩
        · obtain ⟨u, h3, h4⟩ := hy (i + 1) x (by simpa using hi)
          exact ⟨u, by rw [← h3]; congr 1; omega, h4⟩
      · cases hf
    · rename_i h1 h2 h3
      have ho : f.offset = n := by simpa using h2
      have hag : agOf P f.type = some none := by unfold agOf; rw [h1]
      split at hf
      · rename_i ks' hks
        cases hf
        obtain ⟨x, y, l', r', b', rfl, rfl, hb', rfl⟩ := eqCells_bool he
        obtain ⟨u, hu, hcu⟩ := hx 0 _ rfl
        obtain ⟨v, hv, hcv⟩ := hy 0 _ rfl
        cases hcu
        cases hcv
        rw [bAnd_val hI, bEq_val hI]
        refine eqField_fin hu hv h3 ho hag (by simp [Op.equalIn, run_underlying h1]) (eqFields_run hI w' fs (n + 1) ks' l' r' b' hks hb' (fun i x hi => ?_) (fun i x hi => ?_))
        · obtain ⟨u, h3, h4⟩ := hx (i + 1) x (by simpa using hi)
          exact ⟨u, by rw [← h3]; congr 1; omega, h4⟩
        · obtain ⟨u, h3, h4⟩ := hy (i + 1) x (by simpa using hi)
          exact ⟨u, by rw [← h3]; congr 1; omega, h4⟩
      · cases hf
    · cases hf
end
end Go.Proofs.Ytccfcenhpmdemaa.E
