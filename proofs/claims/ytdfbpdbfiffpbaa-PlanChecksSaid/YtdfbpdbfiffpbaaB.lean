/- Base: a world that is another one but for some blocks, and what that leaves of rows, blocks and readings. -/
import Derived.Test.YtdfbpdbfiffpbaaWMore
import Derived.WalkKit
import Derived.WalkSpells
import Derived.WalkLawsBesides
import Derived.KernelRfl
import Derived.Lib.Hide
import Derived.Deep.QuietTactic
import Derived.BigQuiet
import Derived.Deep.RegionHeld3
import Derived.Deep.DrawnRows
import Derived.Deep.DeepCutAuto
import Derived.Deep.LoopGhost
namespace Go.Proofs.Ytdfbpdbfiffpbaa.B
open Go.RowKit Go.Proofs.YtdfbpdbfiffpbaaW.PrintWords Go.Proofs.YtdfbpdbfiffpbaaW.PrintLast Go.Proofs.YtdfbpdbfiffpbaaW.PrintMore
set_option linter.unusedVariables false

/-- w' is w but for the blocks of S, and new ones. -/
structure Ext (S : Nat → Prop) (w w' : World) : Prop where
  os : w'.os = w.os
  tape : w'.tape = w.tape
  output : w'.output = w.output
  size : w.heap.size ≤ w'.heap.size
  block : ∀ k, k < w.heap.size → ¬ S k → w'.heap[k]? = w.heap[k]?

/-- Nothing that was there has turned. -/
abbrev New (w w' : World) : Prop := Ext (fun _ => False) w w'

section
variable {S S' : Nat → Prop} {w w1 w2 : World}
theorem Ext.refl (S : Nat → Prop) (w : World) : Ext S w w := ⟨rfl, rfl, rfl, Nat.le_refl _, fun _ _ _ => rfl⟩
theorem Ext.trans' (h : Ext S w w1) (k : Ext S' w1 w2) (hs : ∀ i, S' i → S i ∨ w.heap.size ≤ i) : Ext S w w2 :=
  ⟨k.os.trans h.os, k.tape.trans h.tape, k.output.trans h.output, Nat.le_trans h.size k.size, fun i hi hn => (k.block i (Nat.lt_of_lt_of_le hi h.size) (fun hs' => (hs i hs').elim hn (fun h => absurd hi (by omega)))).trans (h.block i hi hn)⟩
theorem Ext.trans (h : Ext S w w1) (k : Ext S w1 w2) : Ext S w w2 := h.trans' k (fun _ h => .inl h)
theorem Ext.then_new (h : Ext S w w1) (k : New w1 w2) : Ext S w w2 := h.trans' k (fun _ h => h.elim)
theorem Ext.mono (h : Ext S w w1) (hs : ∀ i, S i → S' i) : Ext S' w w1 := ⟨h.os, h.tape, h.output, h.size, fun i hi hn => h.block i hi (fun h => hn (hs i h))⟩
theorem Ext.of_new (h : New w w1) (S : Nat → Prop) : Ext S w w1 := h.mono (fun _ h => h.elim)
theorem Ext.drewN (h : Ext S w w1) (n : Nat) : Ext S w (w1.drewN n) := ⟨h.os, h.tape, h.output, h.size, h.block⟩
theorem Ext.drew (h : Ext S w w1) : Ext S w w1.drew := ⟨h.os, h.tape, h.output, h.size, h.block⟩
theorem Ext.alloc (h : Ext S w w1) (o : Obj) : Ext S w (w1.alloc o) :=
  ⟨h.os, h.tape, h.output, Nat.le_trans h.size (by simp), fun i hi hn => (Below.heap_alloc w1 o i (Nat.lt_of_lt_of_le hi h.size)).trans (h.block i hi hn)⟩
theorem Ext.set (h : Ext S w w1) {p : Addr} (hp : S p.block ∨ w.heap.size ≤ p.block) (u : Value) : Ext S w (w1.setCell p u) :=
  ⟨h.os, h.tape, h.output, Nat.le_trans h.size (by simp [World.setCell]), fun i hi hn => (Below.heap_setCell w1 p u i (fun e => by subst e; rcases hp with hp | hp; exact hn hp; omega)).trans (h.block i hi hn)⟩
theorem Ext.grown (h : Ext S w w1) {row : Option Nat} (hg : w1.grownBy w2 row) (hr : ∀ k, row = some k → S k ∨ w.heap.size ≤ k) : Ext S w w2 :=
  ⟨hg.os.trans h.os, hg.tape.trans h.tape, hg.output.trans h.output, Nat.le_trans h.size hg.size, fun i hi hn => (hg.block i (Nat.lt_of_lt_of_le hi h.size) (fun e => by rcases hr i e.symm with hk | hk; exact hn hk; omega)).trans (h.block i hi hn)⟩
theorem Ext.of_grown {row : Option Nat} (hg : w.grownBy w1 row) : Ext (fun k => some k = row) w w1 := (Ext.refl _ _).grown hg (fun k hk => .inl hk.symm)
theorem Ext.below {B : Nat} (h : Ext S w w1) (hs : ∀ k, S k → B ≤ k) (hB : B ≤ w.heap.size) : Below B w w1 :=
  ⟨h.os, h.tape, h.output, h.size, fun i hi => h.block i (by omega) (fun hk => by have := hs i hk; omega)⟩
theorem New.below (h : New w w1) : Below w.heap.size w w1 := Ext.below h (fun _ h => h.elim) (Nat.le_refl _)
theorem Ext.of_below (h : Below w.heap.size w w1) : Ext S w w1 := ⟨h.os, h.tape, h.output, h.size, fun i hi _ => h.block i hi⟩
/-- Of old memory alone. -/
theorem Ext.after {B : Nat} {w0 : World} (h : Below B w0 w) (k : Ext S w w1) (hs : ∀ k, S k → B ≤ k) (hB : B ≤ w.heap.size) : Below B w0 w1 := h.trans (k.below hs hB)
theorem New.after {B : Nat} {w0 : World} (h : Below B w0 w) (k : New w w1) (hB : B ≤ w.heap.size) : Below B w0 w1 := h.trans (Ext.below k (fun _ h => h.elim) hB)
end

/-- What the walk rewrites by: old cells and marks read as before. -/
theorem Ext.rule {S : Nat → Prop} {w w' : World} (h : Ext S w w') : (∀ b o, b < w.heap.size → ¬ S b → w'.cell? ⟨b, o, none⟩ = w.cell? ⟨b, o, none⟩) ∧ (∀ b o, b < w.heap.size → ¬ S b → w'.frozen? ⟨b, o, none⟩ = w.frozen? ⟨b, o, none⟩) ∧ w.heap.size ≤ w'.heap.size :=
  ⟨fun b o hb hs => World.cell?_of_block (w := w) (h.block b hb hs), fun b o hb hs => World.frozen?_of_block (w := w) (h.block b hb hs), h.size⟩
theorem New.rule {w w' : World} (h : New w w') : (∀ b o, b < w.heap.size → w'.cell? ⟨b, o, none⟩ = w.cell? ⟨b, o, none⟩) ∧ (∀ b o, b < w.heap.size → w'.frozen? ⟨b, o, none⟩ = w.frozen? ⟨b, o, none⟩) ∧ w.heap.size ≤ w'.heap.size :=
  ⟨fun b o hb => (Ext.rule h).1 b o hb (fun h => h), fun b o hb => (Ext.rule h).2.1 b o hb (fun h => h), h.size⟩
theorem quiet_left {P : Program} {f : FuncId} {args : Array Value} {w : World} {n : Nat} {v : Value}
    (h : Calls P f args (w.drewN n) fun e w' => e = .returned v ∧ w.drewN n = w') : Calls P f args (w.drewN n) fun e w'' => e = .returned v ∧ ∃ m, w'' = w.drewN m :=
  h.mono fun _ _ ⟨he, hm⟩ => ⟨he, n, hm.symm⟩
theorem quiet_add_left {P : Program} {f : FuncId} {args : Array Value} {w : World} {a n : Nat} {v : Value}
    (h : Calls P f args (w.drewN (a + n)) fun e w' => e = .returned v ∧ w.drewN (a + n) = w') :
    Calls P f args (w.drewN (a + n)) fun e w'' => e = .returned v ∧ ∃ m, w'' = w.drewN (a + m) :=
  h.mono fun _ _ ⟨he, hm⟩ => ⟨he, n, hm.symm⟩
/-! A quiet call of a region that draws its order may be taken first. -/
section
variable {P : Program} {ops : Array Oper} {Q : Exit → Act → World → Prop} {md : Region.Mode} {S : World → Prop} {ds : List Nat}
open Go.Proofs.YtdfbpdbfiffpbaaW.PrintLast
/-- In state a, in every world that meets S, operation o leaves v in its temporary, and the very world that it got. -/
def YieldsQ (P : Program) (ops : Array Oper) (S : World → Prop) (o : Oper) (v : Value) (a : Act) : Prop :=
  (Region.wanted o (yielded ops a.tmps) = true ∧ ∀ w, S w → o.quietAt P a (fun w' => w = w') w v) ∨ (Region.wanted o (yielded ops a.tmps) = false ∧ v = undef)
theorem YieldsQ.wpOp {i : Nat} {o : Oper} {v : Value} {a : Act} (hi : ops[i]? = some o) (hy : YieldsQ P ops S o v a)
    {K : Act → World → Prop} {w : World} (hS : S w) (h : K (a.put o.dst v) w) : wpOp P ops Q i K a w := by
  unfold Go.wpOp
  simp only [hi]
  rcases hy with ⟨hw, hv⟩ | ⟨hw, rfl⟩
  · simp only [hw, if_true]
    refine .inl (Oper.wp_of_quiet (C := fun w' => w = w') (K := fun a' => K a' w) rfl (fun a' w' e hk => e ▸ hk) ⟨v, fun w1 e => ?_, h⟩)
    subst e
    exact hv _ hS
  · simp only [hw, Bool.false_eq_true, if_false]; exact h
theorem YieldsQ.of_same {o : Oper} {v : Value} {a a' : Act} (hy : YieldsQ P ops S o v a) (he : execOp a'.eval o = execOp a.eval o)
    (hw : Region.wanted o (yielded ops a'.tmps) = Region.wanted o (yielded ops a.tmps)) : YieldsQ P ops S o v a' := by
  unfold YieldsQ Oper.quietAt at *
  rw [he, hw]
  exact hy
theorem wpOp_putQ {j : Nat} {oi oj : Oper} {v : Value} (hj : ops[j]? = some oj) (hap : oi.apart ops oj = true)
    (hsi : ∀ cs b, oi.op ≠ .select cs b) (hsj : ∀ cs b, oj.op ≠ .select cs b)
    (hQ : ∀ c a w, Q (.panic c) (a.put oi.dst v) w → Q (.panic c) a w) {K : Act → World → Prop} {a : Act} {w : World}
    (hy : YieldsQ P ops S oi v a) (h : wpOp P ops Q j K (a.put oi.dst v) w) :
    wpOp P ops Q j (fun a' w' => YieldsQ P ops S oi v a' ∧ K (a'.put oi.dst v) w') a w := by
  obtain ⟨h1, h2, h3⟩ := Oper.apart_spec hap
  have keep : ∀ (a : Act), YieldsQ P ops S oi v a → ∀ u, YieldsQ P ops S oi v (a.put oj.dst u) := fun a hy u =>
    hy.of_same (execOp_put oi hsi a oj.dst u h3) (wanted_put oi a oj.dst u h3)
  have keepD : ∀ d, YieldsQ P ops S oi v { a with defers := d :: a.defers } := fun d => hy.of_same rfl rfl
  unfold Go.wpOp at *
  simp only [hj] at *
  rw [wanted_put oj a oi.dst v h1] at h
  split
  · rename_i hw
    simp only [hw, if_true] at h
    rcases h with h | ⟨hasks, hlets⟩
    case inr => exact .inr ⟨by unfold Oper.asks at *; rw [execOp_put oj hsj a oi.dst v h1] at hasks; exact hasks, hlets⟩
    refine .inl ?_
    unfold Oper.wp at *
    rw [execOp_put oj hsj a oi.dst v h1] at h
    generalize (execOp a.eval oj).run P w = r at *
    cases r with
    | ok n w' =>
      cases n <;> simp only [Oper.upon] at h ⊢
      case value u => exact ⟨keep a hy u, by rw [← Act.put_comm a v u h2]; exact h⟩
      case skip => exact ⟨keep a hy _, by rw [← Act.put_comm a v undef h2]; exact h⟩
      case defer d =>
        refine ⟨keep _ (keepD d) _, ?_⟩
        rw [← Act.put_comm _ v undef h2, ← Act.put_defers]
        exact h
      case enter f args =>
        refine Calls.mono h fun e w'' he => ?_
        cases e with
        | returned u => exact ⟨keep a hy u, by rw [← Act.put_comm a v u h2]; exact he⟩
        | panicked c => exact hQ _ _ _ he
        | outgrown => exact he
      case row row args => exact Rows.mono h fun u w'' he => ⟨keep a hy u, by rw [← Act.put_comm a v u h2]; exact he⟩
    | halt x w' =>
      cases x <;> simp only [Oper.upon] at h ⊢
      case panic u => exact hQ _ _ _ h
  · rename_i hw
    simp only [hw] at h
    exact ⟨keep a hy _, by rw [← Act.put_comm a v undef h2]; exact h⟩
theorem wpAnyLast_firstQ {i : Nat} {oi : Oper} {v : Value} (hi : ops[i]? = some oi) (hsel : ∀ (j : Nat) (o : Oper) cs b, ops[j]? = some o → o.op ≠ .select cs b)
    (hQ : ∀ c a w, Q (.panic c) (a.put oi.dst v) w → Q (.panic c) a w) (n : Nat) :
    ∀ (fuel : Nat) (listed : Array Bool) (a : Act) (w : World),
      (∀ j oj, ops[j]? = some oj → j ≠ i → listed.getD j true = false → (∀ e ∈ oj.after, Region.binds md e = true → e.on ≠ i) → oi.apart ops oj = true) →
      ListedClosed md ops listed → (∀ d ∈ ds, listed.getD d true = false → Region.reachB md ops i n d = true) →
      i ∈ Region.ready md ops listed → YieldsQ P ops S oi v a → S w →
      wpAnyLast P md ops Q S ds fuel (listed.setIfInBounds i true) (a.put oi.dst v) w → wpAnyLast P md ops Q S ds (fuel + 1) listed a w := by
  intro fuel
  induction fuel with
  | zero =>
    intro listed a w _ _ _ hr hy hS H
    refine ⟨fun h => (by rw [h] at hr; cases hr), fun j hj => ?_⟩
    by_cases hji : j = i
    · subst hji; exact hy.wpOp hi hS ⟨fun _ h => h, H⟩
    · have := ready_mono hj hji
      rw [H.1] at this
      cases this
  | succ fuel ih =>
    intro listed a w hfree hc hd hr hy hS H
    refine ⟨fun h => (by rw [h] at hr; cases hr), fun j hj => ?_⟩
    by_cases hji : j = i
    · subst hji; exact hy.wpOp hi hS ⟨fun _ h => h, H⟩
    · have h1 := H.2 j (ready_mono hj hji)
      obtain ⟨hjun, oj, hoj, hall⟩ := mem_ready.1 hj
      have hiun := (mem_ready.1 hr).1
      have hnot : ∀ e ∈ oj.after, Region.binds md e = true → e.on ≠ i := fun e he hb heq => by
        have h1 := hall e he hb
        rw [heq] at h1
        rcases Nat.lt_or_ge i listed.size with h' | h'
        · simp [h'] at hiun h1; rw [hiun] at h1; cases h1
        · simp [Array.getElem?_eq_none h'] at h1
      have hjd : j ∉ ds := fun hm => Region.reach_not_ready hc (hd j hm hjun) hiun hj
      have h2 := wpOp_putQ hoj (hfree j oj hoj hji hjun hnot) (fun cs b => hsel i oi cs b hi) (fun cs b => hsel j oj cs b hoj) hQ hy h1
      have hfree' : ∀ k ok, ops[k]? = some ok → k ≠ i → (listed.setIfInBounds j true).getD k true = false →
          (∀ e ∈ ok.after, Region.binds md e = true → e.on ≠ i) → oi.apart ops ok = true := fun k ok hk hki hun hno => by
        refine hfree k ok hk hki ?_ hno
        by_cases hjk : j = k
        · subst hjk; exact hjun
        · rw [getD_set_ne true hjk] at hun; exact hun
      have hd' : ∀ d ∈ ds, (listed.setIfInBounds j true).getD d true = false → Region.reachB md ops i n d = true := fun d hm hun => by
        refine hd d hm ?_
        by_cases hjk : j = d
        · subst hjk; exact hjun
        · rw [getD_set_ne true hjk] at hun; exact hun
      refine wpOp_mono (fun a' w' h3 => ⟨h3.2.1, ih (listed.setIfInBounds j true) a' w' hfree' (hc.set hj) hd' (ready_mono hr (Ne.symm hji)) h3.1 (h3.2.1 hjd hS) ?_⟩) h2
      rw [Array.setIfInBounds_comm _ _ hji]
      exact h3.2.2
theorem quiet_ {i : Nat} {N : Option Tmp} {oi : Oper} {v : Value} {fuel : Nat} {l : Array Bool} {a : Act} {w : World} (l' : Array Bool) (hi : ops[i]? = some oi) (hN : oi.dst = N) (hc : takeB md ops ds l l' i = true)
    (hQ : ∀ c a w, Q (.panic c) (a.put oi.dst v) w → Q (.panic c) a w) (hy : YieldsQ P ops S oi v a) (hS : S w) {a' : Act} (ha : a.put N v = a')
    (h : wpAnyLast P md ops Q S ds fuel l' a' w) : wpAnyLast P md ops Q S ds (fuel + 1) l a w := by
  subst ha
  subst hN
  simp only [takeB, Bool.and_eq_true, beq_iff_eq] at hc
  obtain ⟨⟨⟨⟨⟨h1, h2⟩, h3⟩, h4⟩, h5⟩, h6⟩ := hc
  subst h6
  exact wpAnyLast_firstQ hi (Region.noSelect_spec h1) hQ ops.size fuel l a w (Region.free_spec hi h2) (Region.closedB_spec h4)
    (fun d hm hun => by have := List.all_eq_true.1 h5 d hm; rw [hun] at this; simpa using this) (by simpa using h3) hy hS h
/-- A quiet call, by its contract. -/
theorem goesQ_ {oi : Oper} {a : Act} {w : World} {v : Value} {f : FuncId} {fn : Func} {as : Array Operand} {ts : Array TypeId} (hf : P.funcs[f]? = some fn) (hname : (fn.name == "runtime.NumGoroutine") = false) (hb : fn.body.isSome = true) {args : Array Value}
    (hop : oi.op = .call { callee := .value (.func f), args := as, argTypes := ts }) (hargs : as.map a.eval = args)
    (h : Calls P f args w fun e w' => e = .returned v ∧ w = w') : oi.quietAt P a (fun w' => w = w') w v := by
  have he := enters_ hf hname hb args w
  have hrun : (execOp a.eval oi).run P w = .ok (.enter f args) w := by
    unfold execOp
    simp [hop, resolve, Deferred.ofValue, invoke, Act.eval, hargs, he]
  unfold Oper.quietAt
  rw [hrun]
  exact ⟨rfl, h⟩
end
theorem goesR_ {P : Program} {ops : Array Oper} {Q : Exit → Act → World → Prop} {oi : Oper} {N : Option Tmp} {a : Act} {w : World} {K : Act → World → Prop} {f : FuncId} {fn : Func} {xs : Array Operand} {ts : Array TypeId} (hf : P.funcs[f]? = some fn) (hname : (fn.name == "runtime.NumGoroutine") = false) (hb : fn.body.isSome = true) (args : Array Value)
    (hw : Region.wanted oi (yielded ops a.tmps) = true) (hN : oi.dst = N) (hop : oi.op = .call { callee := .value (.func f), args := xs, argTypes := ts }) (hargs : xs.map a.eval = args)
    (h : Calls P f args w fun e w' => ∃ v, e = .returned v ∧ K (a.put N v) w') : if Region.wanted oi (yielded ops a.tmps) = true then Oper.wp P oi a w K Q else K (a.put N undef) w :=
  Go.Proofs.YtdfbpdbfiffpbaaW.PrintLast.goes_ hf hname hb args hw hN hop hargs h
theorem results_tmp4 {fn : Func} {t u v x : Tmp} (h : fn.results = #[.tmp t, .tmp u, .tmp v, .tmp x]) (tmps : Array Value) (P : Program) (w : World) :
    (results fn tmps).run P w = .ok (.tuple #[tmps.getD t undef, tmps.getD u undef, tmps.getD v undef, tmps.getD x undef]) w := by simp [results, h]
theorem ret_int {k : IntKind} {a b : Int} (h : a = b) : Ending.returned (.int k a) = .returned (.int k b) := by rw [h]
theorem ret_bool {a b : Bool} (h : a = b) : Ending.returned (.bool a) = .returned (.bool b) := by rw [h]
/-- Block g is just these cells. -/
def Blk (w : World) (g : Nat) (t : TypeId) (cs : Array Value) : Prop := w.heap[g]? = some (.cells cs t (0, 0))
section
variable {S : Nat → Prop} {w w' : World} {g : Nat} {t : TypeId} {cs : Array Value}
theorem Blk.lt (h : Blk w g t cs) : g < w.heap.size := blk_lt h
theorem Blk.cell (h : Blk w g t cs) (i : Nat) : w.cell? ⟨g, i, none⟩ = cs[i]? := blk_cell h i
theorem Blk.frozen (h : Blk w g t cs) (i : Nat) : w.frozen? ⟨g, i, none⟩ = false := blk_frozen h i
theorem Blk.new (w : World) (t : TypeId) (cs : Array Value) : Blk (w.alloc (.cells cs t)) w.heap.size t cs := heap_alloc_new w _
theorem Blk.ext (h : Blk w g t cs) (k : Ext S w w') (hn : ¬ S g) : Blk w' g t cs := (k.block g h.lt hn).trans h
theorem Blk.new_ (h : Blk w g t cs) (k : New w w') : Blk w' g t cs := h.ext k (fun h => h)
theorem Blk.drew (h : Blk w g t cs) : Blk w.drew g t cs := h
theorem Blk.drewN (h : Blk w g t cs) (n : Nat) : Blk (w.drewN n) g t cs := h
theorem Blk.alloc (h : Blk w g t cs) (o : Obj) : Blk (w.alloc o) g t cs := (Below.heap_alloc w o g h.lt).trans h
theorem Blk.set_ (h : Blk w g t cs) (i : Nat) (u : Value) : Blk (w.setCell ⟨g, i, none⟩ u) g t (cs.setIfInBounds i u) := by
  unfold Blk at h ⊢
  simp [World.setCell, Array.getElem?_modify, h]
theorem Blk.put {cs' : Array Value} (h : Blk w g t cs) (i : Nat) (u : Value) (e : cs.setIfInBounds i u = cs') : Blk (w.setCell ⟨g, i, none⟩ u) g t cs' := e ▸ h.set_ i u
/-- A struct that is handed back out of its variable. -/
theorem ret_cell {P : Program} {fn : Func} {p : Tmp} {ty : TypeId} {a : Act} {R : Ending → World → Prop} {d : TypeDesc} (hres : fn.results = #[.cell p ty]) (hp : a.tmps.getD p undef = .pointer (some ⟨g, 0, none⟩)) (hb : Blk w g t cs)
    (hu : P.underlying ty = some d) (hd : (match d with | .struct _ | .array _ _ => true | _ => false) = true) (hi : (P.info? ty).map (·.size) = some cs.size) (hde : a.defers = []) (hR : R (.returned (.agg cs)) w) : bodyPost P fn R .ret a w :=
  bodyPost_ret (results_cell_row hres a.tmps w g t cs (0, 0) d hp hb hu hd hi) hde hR
/-- .. and another result. -/
theorem ret_cell_tmp {P : Program} {fn : Func} {p u : Tmp} {ty : TypeId} {a : Act} {R : Ending → World → Prop} {d : TypeDesc} {v : Value} (hres : fn.results = #[.cell p ty, .tmp u]) (hp : a.tmps.getD p undef = .pointer (some ⟨g, 0, none⟩)) (hv : a.tmps.getD u undef = v) (hb : Blk w g t cs)
    (hu : P.underlying ty = some d) (hd : (match d with | .struct _ | .array _ _ => true | _ => false) = true) (hi : (P.info? ty).map (·.size) = some cs.size) (hde : a.defers = []) (hR : R (.returned (.tuple #[.agg cs, v])) w) : bodyPost P fn R .ret a w := by
  refine bodyPost_ret ?_ hde hR
  rw [results_cell_tmp hres, hp]
  have h1 : (asAddr (Value.pointer (some ⟨g, 0, none⟩))).run P w = .ok ⟨g, 0, none⟩ w := by simp [asAddr]
  rw [h1]
  simp only [Result.andThen]
  rw [run_loadVar_row w g t ty cs (0, 0) d hb hu hd hi]
  simp only [hv]
theorem Blk.far (h : Blk w g t cs) {p : Addr} (hp : g ≠ p.block) (u : Value) : Blk (w.setCell p u) g t cs := (Below.heap_setCell w p u g hp).trans h
theorem Blk.ne_ {g' : Nat} {t' : TypeId} {cs' : Array Value} (h : Blk w g t cs) (h' : Blk w g' t' cs') (hne : t ≠ t') : g ≠ g' := by
  rintro rfl
  unfold Blk at h h'
  rw [h] at h'
  injection h' with h'
  injection h' with _ ht
  exact hne ht
end

/-! Stores, new blocks: the world as a letter. -/
def putAt (cs : Array Value) : Nat → List Value → Array Value
  | _, [] => cs
  | o, v :: r => putAt (cs.setIfInBounds o v) (o + 1) r
theorem Blk.setCells {w : World} {g : Nat} {t : TypeId} : ∀ (seg : List Value) (o : Nat) (w : World) (cs : Array Value), Blk w g t cs → Blk (w.setCells g o seg) g t (putAt cs o seg)
  | [], _, _, _, h => h
  | v :: r, o, w, cs, h => Blk.setCells (w := w) r (o + 1) _ _ (h.set_ o v)
theorem Ext.setCells {S : Nat → Prop} {w0 : World} {g : Nat} (hg : S g ∨ w0.heap.size ≤ g) : ∀ (seg : List Value) (o : Nat) (w : World), Ext S w0 w → Ext S w0 (w.setCells g o seg)
  | [], _, _, h => h
  | v :: r, o, w, h => Ext.setCells hg r (o + 1) _ (h.set (p := ⟨g, o, none⟩) hg v)
section
variable {P : Program} {ops : Array Oper} {rest : List Oper} {o : Oper} {a : Act} {Q : Exit → Act → World → Prop} {K : Act → World → Prop} {W : World}
theorem run_store_blk (ty : TypeId) (p x : Operand) (ho : o.op = .store ty p x) {g j : Nat} {t : TypeId} {cs : Array Value} (u : Value) (seg : List Value)
    (hp : a.eval p = .pointer (some ⟨g, j, none⟩)) (hx : a.eval x = u) (hb : Blk W g t cs) (hu : u.cells.toList = seg) (ht : (P.info? ty).map (·.size) = some seg.length) (hfit : j + seg.length ≤ cs.size) (h1 : ∀ q ∈ seg, q.oneCell' = true) :
    (execOp a.eval o).run P W = .ok .skip (W.setCells g j seg) := by
  have := run_store_run (P := P) ty u seg hb hu ht hfit h1
  unfold execOp
  simp only [ho, hp, hx, Sem.run_bind, this, Result.andThen, Sem.run_pure]
theorem run_load_blk (ty : TypeId) (x : Operand) (ho : o.op = .load ty x) {g : Nat} {t : TypeId} {cs : Array Value} {d : TypeDesc} (hx : a.eval x = .pointer (some ⟨g, 0, none⟩)) (hb : Blk W g t cs)
    (hu : P.underlying ty = some d) (hd : (match d with | .struct _ | .array _ _ => true | _ => false) = true) (hi : (P.info? ty).map (·.size) = some cs.size) : (execOp a.eval o).run P W = .ok (.value (.agg cs)) W := by
  have h := run_loadVar_row (P := P) W g t ty cs (0, 0) d hb hu hd hi
  unfold execOp
  simp only [ho, hx, Instr.loadAt, Instr.sureAddr, Sem.run_bind, Sem.run_pure, Result.andThen_ok, h]
/-- A store into a known block, in a plain region: the world behind it is a letter. -/
theorem evStore (hgd : o.guard = none) (hN : o.dst = none) (ty : TypeId) (p x : Operand) (ho : o.op = .store ty p x) {g j : Nat} {t : TypeId} {cs : Array Value} (u : Value) (seg : List Value)
    (hp : a.eval p = .pointer (some ⟨g, j, none⟩)) (hx : a.eval x = u) (hb : Blk W g t cs) (hu : u.cells.toList = seg) (ht : (P.info? ty).map (·.size) = some seg.length) (hfit : j + seg.length ≤ cs.size) (h1 : ∀ q ∈ seg, q.oneCell' = true)
    (cs' : Array Value) (hcs : putAt cs j seg = cs') (h : ∀ w1, Blk w1 g t cs' → Ext (fun k => k = g) W w1 → wpList P ops Q rest a w1) : wpList P ops Q (o :: rest) a W := by
  refine wpList_plain hgd fun K hK => ?_
  unfold Oper.wp
  rw [run_store_blk ty p x ho u seg hp hx hb hu ht hfit h1]
  show K (a.put o.dst undef) _
  rw [hN]
  exact hK _ _ (h _ (hcs ▸ Blk.setCells (w := W) seg j W cs hb) (Ext.setCells (S := fun k => k = g) (.inl rfl) seg j W (Ext.refl _ _)))
/-- .. in a region that draws its order. -/
theorem stStore (hw : Region.wanted o (yielded ops a.tmps) = true) (hN : o.dst = none) (ty : TypeId) (p x : Operand) (ho : o.op = .store ty p x) {g j : Nat} {t : TypeId} {cs : Array Value} (u : Value) (seg : List Value)
    (hp : a.eval p = .pointer (some ⟨g, j, none⟩)) (hx : a.eval x = u) (hb : Blk W g t cs) (hu : u.cells.toList = seg) (ht : (P.info? ty).map (·.size) = some seg.length) (hfit : j + seg.length ≤ cs.size) (h1 : ∀ q ∈ seg, q.oneCell' = true)
    (cs' : Array Value) (hcs : putAt cs j seg = cs') (h : ∀ w1, Blk w1 g t cs' → Ext (fun k => k = g) W w1 → K a w1) : if Region.wanted o (yielded ops a.tmps) = true then Oper.wp P o a W K Q else K (a.put none undef) W :=
  Go.Proofs.YtdfbpdbfiffpbaaW.PrintLast.skip_ hw hN (run_store_blk ty p x ho u seg hp hx hb hu ht hfit h1) (h _ (hcs ▸ Blk.setCells (w := W) seg j W cs hb) (Ext.setCells (S := fun k => k = g) (.inl rfl) seg j W (Ext.refl _ _)))
/-- A new block, in a plain region. -/
theorem evNew (hgd : o.guard = none) {t : TypeId} {cs : Array Value} {mk : Nat → Value} (hrun : (execOp a.eval o).run P W = .ok (.value (mk W.heap.size)) (W.alloc (.cells cs t (0, 0))))
    (h : ∀ g w1, W.heap.size = g → Blk w1 g t cs → New W w1 → wpList P ops Q rest (a.put o.dst (mk g)) w1) : wpList P ops Q (o :: rest) a W := by
  refine wpList_plain hgd fun K hK => ?_
  unfold Oper.wp
  rw [hrun]
  exact hK _ _ (h _ _ rfl (Blk.new _ _ _) ((Ext.refl _ _).alloc _))
/-- .. in a region that draws its order. -/
theorem stNew {N : Option Tmp} (hw : Region.wanted o (yielded ops a.tmps) = true) (hN : o.dst = N) {t : TypeId} {cs : Array Value} {mk : Nat → Value} (hrun : (execOp a.eval o).run P W = .ok (.value (mk W.heap.size)) (W.alloc (.cells cs t (0, 0))))
    (h : ∀ g w1, W.heap.size = g → Blk w1 g t cs → New W w1 → K (a.put N (mk g)) w1) : if Region.wanted o (yielded ops a.tmps) = true then Oper.wp P o a W K Q else K (a.put N undef) W :=
  Go.Proofs.YtdfbpdbfiffpbaaW.PrintLast.value_ hw hN hrun (h _ _ rfl (Blk.new _ _ _) ((Ext.refl _ _).alloc _))
end
/-! The world behind a piece of a walk, as a letter: only F is kept of it. -/
theorem keepW {P : Program} {c : Code} {Q : Exit → Act → World → Prop} {a : Act} {W : World} (F : World → Prop) (h1 : F W) (h : ∀ W', F W' → Code.wp P c Q a W') : Code.wp P c Q a W := h W h1
theorem keepWList {P : Program} {ops : Array Oper} {l : List Oper} {Q : Exit → Act → World → Prop} {a : Act} {W : World} (F : World → Prop) (h1 : F W) (h : ∀ W', F W' → wpList P ops Q l a W') : wpList P ops Q l a W := h W h1
theorem keepWCalls {P : Program} {f : FuncId} {args : Array Value} {R : Ending → World → Prop} {W : World} (F : World → Prop) (h1 : F W) (h : ∀ W', F W' → Calls P f args W' R) : Calls P f args W R := h W h1
theorem keepWEnd {P : Program} {fn : Func} {R : Ending → World → Prop} {e : Exit} {a : Act} {W : World} (F : World → Prop) (h1 : F W) (h : ∀ W', F W' → bodyPost P fn R e a W') : bodyPost P fn R e a W := h W h1

section
variable {α : Type} {d : Kd α} {S F : Nat → Prop} {w w' : World} {e base : Nat} {v : Value} {xs : List α}
theorem R_ext (h : d.R e w base F v xs) (k : Ext S w w') (hn : ∀ i, F i → ¬ S i) : d.R e w' base F v xs := Kd.R_step h (fun i hi hl => k.block i hl (hn i hi))
theorem R_new_ (h : d.R e w base F v xs) (k : New w w') : d.R e w' base F v xs := R_ext h k (fun _ _ h => h)
theorem M_ext {x : α} {cs : List Value} (h : d.M w base F x cs) (k : Ext S w w') (hn : ∀ i, F i → ¬ S i) : d.M w' base F x cs := Kd.M_step h (fun i hi hl => k.block i hl (hn i hi))
theorem C_new_ {A : Option Addr} {n : Nat} (h : d.C w A n xs) (k : New w w') : d.C w' A n xs := Kd.C_below h k.below
/-- What a row leads to is there. -/
theorem R_lt (h : d.R e w base F v xs) : d.R e w base (fun k => F k ∧ k < w.heap.size) v xs := Kd.R_mono (Kd.R_bound h) (fun _ hk => ⟨hk.1, hk.2.2.1⟩)
theorem R_ge (h : d.R e w base F v xs) : d.R e w base (fun k => F k ∧ base ≤ k ∧ k < w.heap.size) v xs := Kd.R_mono (Kd.R_bound h) (fun _ hk => ⟨hk.1, hk.2.1, hk.2.2.1⟩)
theorem R_ok (h : d.R e w base F v xs) : ∀ k, v.ownBlock = some k → F k := h.1
theorem R_len {A : Option Addr} {n c : Nat} (h : d.R e w base F (.slice A n c) xs) : xs.length = n := by
  obtain ⟨A', c', he, _⟩ := Kd.R_reads h
  injection he with _ h2 _
  exact h2.symm
theorem R_C {A : Option Addr} {n c : Nat} (h : d.R e w base F (.slice A n c) xs) : d.C w A n xs ∧ n ≤ c := by
  obtain ⟨A', c', he, hl, hC⟩ := Kd.R_reads h
  injection he with h1 h2 h3
  subst h1 h2 h3
  exact ⟨hC, hl⟩
theorem R_shape (h : d.R e w base F v xs) : ∃ A n c, v = .slice A n c := by
  obtain ⟨A, c, he, _⟩ := Kd.R_reads h
  exact ⟨A, _, c, he⟩
theorem R_nil_ (d : Kd α) (e : Nat) (w : World) (base : Nat) (F : Nat → Prop) : d.R e w base F (.slice none 0 0) [] := Kd.R_nil _ _ _ _ _
end
end Go.Proofs.Ytdfbpdbfiffpbaa.B
