/- A function's contract by the evaluator; what a proof says of a tree; laws. -/
import Derived.Test.YtccfcenhpmdemaaE12
import Derived.KernelRfl
import Derived.RangeFuncRecord
namespace Go.Proofs.Ytccfcenhpmdemaa.E
open Go
set_option linter.unusedVariables false
set_option linter.unusedSectionVars false

section
variable {P : Program} {I : Ints} {p : Nat} {E E0 : Env} {m m0 : Mem} {w w0 : World} {ts : List A} {a : Act}
theorem ld_run {t : TypeId} {ag : Option Nat} {c : C} {u : Value} {k : V1 → Tree} (hag : agOf P t = some ag) (hs : Sat E m w) (hc : c = .any ∨ CRep E m w c u) (h : Holds P I p (ld ag c m k)) :
    ∃ v av x, u = .pointer (some x) ∧ Holds P I p (k av) ∧ V1Rep E m w av v ∧ (loadVar t x).run P w = .ok v w := by
  suffices hk : ∃ a_ off j row, u = .pointer (some (at_ a_ (off + j))) ∧ Holds P I p (seg row j ag k) ∧
      (∀ (jj : Nat) (c : C), row[jj]? = some c → ∃ u, w.cell? (at_ a_ (off + jj)) = some u ∧ CRep E m w c u) by
    obtain ⟨a_, off, j, row, h1, h2, h3⟩ := hk
    obtain ⟨av, v, g1, g2, g3⟩ := load_at hag h2 h3
    exact ⟨v, av, _, h1, g1, g2, g3 w rfl⟩
  cases c with
  | gp row j =>
    simp only [ld] at h
    rcases hc with hc | ⟨a_, off, h1, h2, h3⟩
    · cases hc
    · refine ⟨a_, off, j, row.map .g, h1, h, fun jj c hj => ?_⟩
      rw [List.getElem?_map] at hj
      cases hq : row[jj]? with
      | none => simp [hq] at hj
      | some g =>
        simp [hq] at hj
        subst hj
        exact h3 jj g hq
  | ptr b i es j =>
    simp only [ld] at h
    rcases hc with hc | ⟨hb, a_, base, h1, h2⟩
    · cases hc
    cases hm : m[b]? with
    | none => rw [hm] at h; exact (holds_fail h).elim
    | some blk =>
      rw [hm] at h
      cases blk with
      | dead => exact (holds_fail h).elim
      | mp _ _ => exact (holds_fail h).elim
      | lit es' rows =>
        try simp only at h
        cases i with
        | sym i =>
          try simp only at h
          split at h
          · rename_i heq he
            cases heq
          · rename_i i'' heq he
            cases heq
            split at h
            · rename_i l hl
              cases h with
              | nth r hr h =>
              obtain rfl : es = es' := by simpa using he
              rcases hs.rep b _ hm trivial with ⟨e, _⟩ | ⟨a', base', e, g1, g2, g3⟩
              · rw [e] at h1; cases h1
              · rw [e] at h1
                cases h1
                refine ⟨a_, base + i * es, j, _, by rw [h2, Nat.add_assoc]; rfl, h, fun jj c hj => ?_⟩
                obtain ⟨g, hg, rfl⟩ := sy_row hj
                obtain ⟨u, q1, q2⟩ := (g3 i _ (ground_row hl hr)).2 jj _ hg
                exact ⟨u, by rw [Nat.add_assoc]; exact q1, G_sy q2⟩
            · exact (holds_fail h).elim
          · exact (holds_fail h).elim
        | lit i =>
          try simp only at h
          split at h
          · rename_i i'' heq he
            cases heq
            split at h
            · rename_i row hr
              obtain rfl : es = es' := by simpa using he
              rcases hs.rep b _ hm trivial with ⟨e, _⟩ | ⟨a', base', e, g1, g2, g3⟩
              · rw [e] at h1; cases h1
              · rw [e] at h1
                cases h1
                refine ⟨a_, base + i * es, j, row, by rw [h2, Nat.add_assoc]; rfl, h, fun jj c hj => ?_⟩
                obtain ⟨u, q1, q2⟩ := (g3 i row hr).2 jj c hj
                exact ⟨u, by rw [Nat.add_assoc]; exact q1, q2⟩
            · exact (holds_fail h).elim
          · rename_i heq he
            cases heq
          · exact (holds_fail h).elim
      | sym es' l =>
        try simp only at h
        split at h
        · rename_i he
          obtain rfl : es = es' := by simpa using he
          cases h with
          | nth r hr h =>
          rcases hs.rep b _ hm trivial with ⟨e, _⟩ | ⟨a', base', e, g1, g2, g3⟩
          · rw [e] at h1; cases h1
          · rw [e] at h1
            cases h1
            refine ⟨a_, base + i.val * es, j, r.map .g, by rw [h2, Nat.add_assoc], h, fun jj c hj => ?_⟩
            obtain ⟨u, q1, q2⟩ := (g3 i.val (r.map .g) (by simp [Blk.rows, hr])).2 jj c hj
            exact ⟨u, by rw [Nat.add_assoc]; exact q1, q2⟩
        · exact (holds_fail h).elim
  | _ => exact (holds_fail h).elim
/-- A result. -/
def pull (tmps : Array Value) : ResultVar → Sem Value
  | .tmp t => pure (tmps.getD t undef)
  | .cell c t => do loadVar t (← asAddr (tmps.getD c undef))
theorem pull_tmp (tmps : Array Value) (t : Tmp) : pull tmps (.tmp t) = pure (tmps.getD t undef) := rfl
theorem pull_cell (tmps : Array Value) (c : Tmp) (t : TypeId) : pull tmps (.cell c t) = (asAddr (tmps.getD c undef) >>= fun x => loadVar t x) := rfl
theorem asAddr_run {u : Value} {x : Addr} (h : u = .pointer (some x)) (w : World) : (asAddr u).run P w = .ok x w := by subst h; rfl
theorem results_eq (fn : Func) (tmps : Array Value) : results fn tmps = ((fun vs : Array Value => if h : vs.size = 1 then vs[0] else .tuple vs) <$> (List.toArray <$> fn.results.toList.mapM (pull tmps))) := by
  rw [← Array.mapM_eq_mapM_toList]
  rfl
theorem res_inv : ∀ {l : List ResultVar} {xs : List XRes} {k : List V1 → Tree}, compRes P l = some xs → At E m w ts a → Holds P I p (evRes xs ts m k) →
    ∃ (vs : List V1) (us : List Value), Holds P I p (k vs) ∧ us.length = vs.length ∧ (∀ (i : Nat) (v : V1), vs[i]? = some v → ∃ u, us[i]? = some u ∧ V1Rep E m w v u) ∧ (l.mapM (pull a.tmps)).run P w = .ok us w
  | [], xs, k, hc, hA, h => by
    cases hc
    exact ⟨[], [], h, rfl, fun i v h => by simp at h, by simp⟩
  | .tmp t :: l, xs, k, hc, hA, h => by
    simp only [compRes] at hc
    obtain ⟨xl, hl, rfl⟩ := Option.map_eq_some_iff.1 hc
    obtain ⟨v, hv, h⟩ := ev1_inv (X := .tmp t) rfl hA h
    obtain ⟨vs, us, h1, h2, h3, h4⟩ := res_inv hl hA h
    refine ⟨v :: vs, a.tmps.getD t undef :: us, h1, by simp [h2], fun i x hi => ?_, ?_⟩
    · cases i with
      | zero => simp at hi; subst hi; exact ⟨_, rfl, hv⟩
      | succ i => simpa using h3 i x (by simpa using hi)
    · rw [List.mapM_cons, pull_tmp]
      simp only [Sem.run_bind, Sem.run_pure, Result.andThen_ok, h4]
  | .cell c t :: l, xs, k, hc, hA, h => by
    simp only [compRes] at hc
    split at hc
    · rename_i ag xl hag hl
      cases hc
      obtain ⟨c', hc', h⟩ := evC_inv (X := .tmp c) rfl hA h
      obtain ⟨u, v, x, hx, h, hv, hrun⟩ := ld_run hag hA.sat hc' h
      obtain ⟨vs, us, h1, h2, h3, h4⟩ := res_inv hl hA h
      have hx' : a.tmps.getD c undef = .pointer (some x) := hx
      refine ⟨v :: vs, u :: us, h1, by simp [h2], fun i y hi => ?_, ?_⟩
      · cases i with
        | zero => simp at hi; subst hi; exact ⟨_, rfl, hv⟩
        | succ i => simpa using h3 i y (by simpa using hi)
      · rw [List.mapM_cons, pull_cell]
        simp only [Sem.run_bind, Sem.run_pure, Result.andThen_ok, h4, asAddr_run (P := P) hx' w, hrun]
    · cases hc
theorem end_inv {fn : Func} {xs : List XRes} {k : A → Mem → Tree} (hc : compRes P fn.results.toList = some xs) (hA : At E m w ts a) (h : Holds P I p (evEnd xs ts m k)) :
    ∃ v u, Holds P I p (k v m) ∧ ARep E m w v u ∧ (results fn a.tmps).run P w = .ok u w := by
  obtain ⟨vs, us, h1, h2, h3, h4⟩ := res_inv hc hA h
  have hm : (results fn a.tmps).run P w = .ok (if h : us.toArray.size = 1 then us.toArray[0] else .tuple us.toArray) w := by
    rw [results_eq]
    simp only [Sem.run_map, h4, Result.andThen_ok]
  have tup : vs.length ≠ 1 → ARep E m w (.tup vs) (if h : us.toArray.size = 1 then us.toArray[0] else .tuple us.toArray) := fun hn => by
    rw [dif_neg (by simp [h2, hn])]
    exact ⟨us.toArray, rfl, by simp [h2], fun i v hi => by simpa using h3 i v hi⟩
  match vs, h1, h2, h3, tup with
  | [v], h1, h2, h3, _ =>
    match us, h2, hm, h3 with
    | [u], _, hm, h3 =>
      obtain ⟨u', g1, g2⟩ := h3 0 v rfl
      simp at g1
      subst g1
      exact ⟨.one v, u, h1, g2, hm⟩
  | [], h1, h2, h3, tup => exact ⟨.tup [], _, h1, tup (by simp), hm⟩
  | v :: v' :: r, h1, h2, h3, tup => exact ⟨.tup (v :: v' :: r), _, h1, tup (by simp), hm⟩
/-! ### Worlds with the same cells -/
section
variable {E' : Env} {m' : Mem} {w' : World}
theorem RowAt.same (hc : ∀ x, w'.cell? x = w.cell? x) {T : Nat → Prop} {es : Nat} {l : List (List G)} {A : Option Addr} {u : Nat → Nat → Value} (h : RowAt w T es l A u) : RowAt w' T es l A u :=
  ⟨h.wid, fun i r j x hi hj => let ⟨a, off, h1, h2, h3⟩ := h.cell i r j x hi hj; ⟨a, off, h1, h2, (hc _).trans h3⟩, h.some_⟩
theorem GRep.same (hc : ∀ x, w'.cell? x = w.cell? x) {F : Nat → Prop} {x : G} {v : Value} (h : GRep F w x v) : GRep F w' x v := by
  induction h with
  | bool b => exact .bool b
  | int k z => exact .int k z
  | str s => exact .str s
  | nilp => exact .nilp
  | nil => exact .nil
  | rows u hn hr hg ih => exact .rows u hn (hr.same hc) ih
theorem CRep.same (hc : ∀ x, w'.cell? x = w.cell? x) (hs : Stays w w') (hm : ∀ (a : Nat) (es : Array MapEntry) (c : Nat), w.heap[a]? = some (.map es c) → w'.heap[a]? = some (.map es c)) {x : C} {v : Value} (hx : CRep E m w x v) : CRep E m w' x v := by
  cases x with
  | any => exact hx
  | g x => exact GRep.same hc hx
  | bor es l =>
    obtain ⟨A, c, u, h1, h2, h3, h4⟩ := hx
    exact ⟨A, c, u, h1, h2, h3.same hc, fun i r j x hi hj => (h4 i r j x hi hj).same hc⟩
  | gp row j =>
    obtain ⟨a, off, h1, h2, h3⟩ := hx
    exact ⟨a, off, h1, h2, fun j x hj => let ⟨u, h4, h5⟩ := h3 j x hj; ⟨u, (hc _).trans h4, h5.same hc⟩⟩
  | ptr b i es j => exact hx
  | row b es cap =>
    obtain ⟨h0, ho, hx⟩ := hx
    refine ⟨h0, ho, fun blk hb hl => ?_⟩
    obtain ⟨k1, k2, k3⟩ := hx blk hb hl
    refine ⟨k1, k2, k3.imp id ?_⟩
    rintro ⟨a, base, c, e1, e2, e3, e4, e5⟩
    exact ⟨a, base, c, e1, e2, e3, e4, there_stays hs e5⟩
  | sl b i es n cap =>
    obtain ⟨h0, ho, hx⟩ := hx
    refine ⟨h0, ho, fun blk hb hl => ?_⟩
    obtain ⟨k1, k2, k3, k4⟩ := hx blk hb hl
    refine ⟨k1, k2, k3, k4.imp id ?_⟩
    rintro ⟨a, base, c, off, e1, e2, e3, e4, e5, e6⟩
    exact ⟨a, base, c, off, e1, e2, e3, e4, e5, there_stays hs e6⟩
  | fn f l => exact hx
  | map b => exact hx
  | stamp b z =>
    obtain ⟨h0, a, base, born, es, c, h1, h2, h3, h4⟩ := hx
    exact ⟨h0, a, base, born, es, c, h1, h2, hm a es c h3, h4⟩
theorem V1Rep.same (hc : ∀ x, w'.cell? x = w.cell? x) (hs : Stays w w') (hm : ∀ (a : Nat) (es : Array MapEntry) (c : Nat), w.heap[a]? = some (.map es c) → w'.heap[a]? = some (.map es c)) {x : V1} {v : Value} (hx : V1Rep E m w x v) : V1Rep E m w' x v := by
  cases x with
  | c x => exact hx.imp id (CRep.same hc hs hm)
  | agg l =>
    obtain ⟨cs, h1, h2, h3⟩ := hx
    exact ⟨cs, h1, h2, fun i x hi => let ⟨u, h4, h5⟩ := h3 i x hi; ⟨u, h4, h5.same hc hs hm⟩⟩
theorem ARep.same (hc : ∀ x, w'.cell? x = w.cell? x) (hs : Stays w w') (hm : ∀ (a : Nat) (es : Array MapEntry) (c : Nat), w.heap[a]? = some (.map es c) → w'.heap[a]? = some (.map es c)) {x : A} {v : Value} (hx : ARep E m w x v) : ARep E m w' x v := by
  cases x with
  | one v => exact V1Rep.same hc hs hm hx
  | tup l =>
    obtain ⟨cs, h1, h2, h3⟩ := hx
    exact ⟨cs, h1, h2, fun i x hi => let ⟨u, h4, h5⟩ := h3 i x hi; ⟨u, h4, h5.same hc hs hm⟩⟩
theorem MapAt.same (hc : ∀ x, w'.cell? x = w.cell? x) (hm : ∀ (a : Nat) (es : Array MapEntry) (c : Nat), w.heap[a]? = some (.map es c) → w'.heap[a]? = some (.map es c)) {F : Nat → Prop} {ag : Option Nat} {l : List (List G)} {a : Nat} (h : MapAt w F ag l a) : MapAt w' F ag l a := by
  obtain ⟨es, clock, h1, h2, h3, h4⟩ := h.ex
  refine ⟨es, clock, hm a es clock h1, h2, fun i row hi => ?_, h4⟩
  obtain ⟨z, gs, e, us, g1, g2, g3, g4, g5, g6, g7⟩ := h3 i row hi
  exact ⟨z, gs, e, us, g1, g2, g3, g4, g5, fun j g hj => let ⟨u, k1, k2⟩ := g6 j g hj; ⟨u, k1, k2.same hc⟩, g7⟩
theorem Sat.same (hc : ∀ x, w'.cell? x = w.cell? x) (hz : w.heap.size ≤ w'.heap.size) (hs : Stays w w') (hm : ∀ (a : Nat) (es : Array MapEntry) (c : Nat), w.heap[a]? = some (.map es c) → w'.heap[a]? = some (.map es c)) (h : Sat E m w) : Sat E m w' where
  rep := fun id blk hb hl => (h.rep id blk hb hl).imp (fun h => h) fun ⟨a, base, e, h1, h2, h3⟩ => ⟨a, base, e, there_stays hs h1, Nat.lt_of_lt_of_le h2 hz, fun i row hi => ⟨(h3 i row hi).1, fun j x hj => let ⟨u, h4, h5⟩ := (h3 i row hi).2 j x hj; ⟨u, (hc _).trans h4, h5.same hc hs hm⟩⟩⟩
  inj := h.inj
  dis := h.dis
  old := fun k hk => Nat.lt_of_lt_of_le (h.old k hk) hz
  maps := fun id ag l hb => let ⟨a, e, hlt, hma⟩ := h.maps id ag l hb; ⟨a, e, Nat.lt_of_lt_of_le hlt hz, hma.same hc hm⟩
end
/-- A block that is no cells and no map turns into such a one: all else is as it was. -/
theorem putObj_same {w : World} {r : Nat} {o o' : Obj} (hr : w.heap[r]? = some o) (hc : ∀ c t f, o ≠ .cells c t f) (hc' : ∀ c t f, o' ≠ .cells c t f) (ho : ∀ es c, o ≠ .map es c) :
    (∀ x, (w.putObj r o').cell? x = w.cell? x) ∧ Stays w (w.putObj r o') ∧ (∀ (a : Nat) (es : Array MapEntry) (c : Nat), w.heap[a]? = some (.map es c) → (w.putObj r o').heap[a]? = some (.map es c)) := by
  have hlt : r < w.heap.size := (Array.getElem?_eq_some_iff.1 hr).1
  have c1 : ∀ x : Addr, (w.putObj r o').cell? x = w.cell? x := fun x => by
    by_cases he : x.block = r
    · have h1 : (w.putObj r o').heap[x.block]? = some o' := by rw [he]; exact World.putObj_heap_same hlt
      have h2 : w.heap[x.block]? = some o := by rw [he]; exact hr
      unfold World.cell?
      rw [h1, h2]
      cases o <;> cases o' <;> first | rfl | exact (hc _ _ _ rfl).elim | exact (hc' _ _ _ rfl).elim
    · exact World.cell?_of_block (World.putObj_heap_other he)
  have f1 : ∀ x : Addr, (w.putObj r o').frozen? x = w.frozen? x := fun x => by
    by_cases he : x.block = r
    · have h1 : (w.putObj r o').heap[x.block]? = some o' := by rw [he]; exact World.putObj_heap_same hlt
      have h2 : w.heap[x.block]? = some o := by rw [he]; exact hr
      unfold World.frozen?
      rw [h1, h2]
      cases o <;> cases o' <;> first | rfl | exact (hc _ _ _ rfl).elim | exact (hc' _ _ _ rfl).elim
    · exact World.frozen?_of_block (World.putObj_heap_other he)
  have m1 : ∀ (a : Nat) (es : Array MapEntry) (c : Nat), w.heap[a]? = some (.map es c) → (w.putObj r o').heap[a]? = some (.map es c) := fun a es c h => by
    have hne : a ≠ r := fun e => by rw [e, hr] at h; exact ho es c (Option.some.inj h)
    exact (World.putObj_heap_other hne).trans h
  exact ⟨c1, ⟨fun x hx => ⟨by rw [c1]; exact hx, f1 x⟩, fun a es c h => ⟨es, c, m1 a es c h, fun i e hi => ⟨e, hi, rfl, rfl⟩⟩⟩, m1⟩
theorem Grow.put (hg : Grow (fun _ => True) E0 m0 w0 E m w) {r : Nat} {o' : Obj} (h0 : w0.heap.size ≤ r) (h00 : ∀ k, E0.F k ∨ E0.B k → k < w0.heap.size) (hs : Stays w (w.putObj r o')) : Grow (fun _ => True) E0 m0 w0 E m (w.putObj r o') :=
  { hg with
      frz := fun k hk => (World.putObj_heap_other (by have := h00 k hk; omega)).trans (hg.frz k hk)
      stays := hg.stays.trans hs
      size := by simpa using hg.size
      block := fun k hk hn => (World.putObj_heap_other (by omega)).trans (hg.block k hk hn)
      os := hg.os, tape := hg.tape, output := hg.output }
/-- Where a body ends: the marks of ranges over functions go by. -/
theorem leaves_shut {fn : Func} {R : Ending → World → Prop} {tmps : Array Value} (h00 : ∀ k, E0.F k ∨ E0.B k → k < w0.heap.size) : ∀ (Ds : List Nat) {w : World}, Ds.Nodup → (∀ D ∈ Ds, w0.heap.size ≤ D ∧ w.heap[D]? = some (.deferred (some []))) → Sat E m w → Grow (fun _ => True) E0 m0 w0 E m w → TsRep E m w ts tmps →
    (∀ w', Sat E m w' → Grow (fun _ => True) E0 m0 w0 E m w' → TsRep E m w' ts tmps → w.heap.size ≤ w'.heap.size → ∃ v, (results fn tmps).run P w' = .ok v w' ∧ R (.returned v) w') →
    LeavesInM Fence.wide 0 P fn tmps R (Ds.map fun D => { target := .collected D, args := #[] }) .returning w
  | [], w, _, _, hs, hg, ht, h => h w hs hg ht (Nat.le_refl _)
  | D :: Ds, w, hn, hD, hs, hg, ht, h => by
    obtain ⟨g1, g2⟩ := hD D (List.mem_cons_self ..)
    obtain ⟨p1, p2, p3⟩ := putObj_same (o' := .deferred none) g2 (fun _ _ _ e => by cases e) (fun _ _ _ e => by cases e) (fun es c e => by cases e)
    have hn' := List.nodup_cons.1 hn
    refine ⟨(by intro e; cases e), .inl ⟨D, w.putObj D (.deferred none), rfl, run_takeDeferred g2, ?_⟩⟩
    refine leaves_shut h00 Ds hn'.2 (fun D' hD' => ⟨(hD D' (List.mem_cons_of_mem _ hD')).1, ?_⟩) (hs.same p1 (by simp) p2 p3) (hg.put g1 h00 p2) ⟨ht.1, fun t x hx => (ht.2 t x hx).same p1 p2 p3⟩ (fun w' s g t hz => h w' s g t (by simpa using hz))
    exact (World.putObj_heap_other (fun (e : D' = D) => hn'.1 (e ▸ hD'))).trans (hD D' (List.mem_cons_of_mem _ hD')).2
theorem leaves_now {fn : Func} {R : Ending → World → Prop} (hs0 : Sat E0 m0 w0) (hN : Now w0.heap.size E0 m0 w0 E m w ts a)
    (h : ∀ w' a', a'.tmps = a.tmps → Now w0.heap.size E0 m0 w0 E m w' ts a' → ∃ v, (results fn a'.tmps).run P w' = .ok v w' ∧ R (.returned v) w') :
    LeavesInM Fence.wide 0 P fn a.tmps R a.defers .returning w := by
  obtain ⟨Ds, d1, d2, d3⟩ := hN.defers
  have hfr := hN.fresh
  rw [d2]
  refine leaves_shut hs0.old Ds d1 (fun D hD => ⟨hfr.2 D ?_, (d3 D hD).2⟩) hN.sat hN.grow hN.ts (fun w' s g t hz => h w' { tmps := a.tmps, defers := [] } rfl ⟨⟨s, t, .nil rfl⟩, g, Nat.le_trans hfr.1 hz, fun D hD => by cases hD⟩)
  rw [d2]
  exact List.mem_map.2 ⟨D, hD, rfl⟩
/-- What is asked behind a body: no panic. -/
def endQ (P : Program) (fn : Func) (R : Ending → World → Prop) : Exit → Act → World → Prop
  | .normal, a, w => LeavesInM Fence.wide 0 P fn a.tmps R a.defers .returning w
  | .ret, a, w => LeavesInM Fence.wide 0 P fn a.tmps R a.defers .returning w
  | _, _, _ => False
theorem calls_of_end {f : FuncId} {fn : Func} {c : Code} {args : Array Value} {w : World} {R : Ending → World → Prop} (hf : P.funcs[f]? = some fn) (hb : fn.body = some c)
    (h : c.wp P (endQ P fn R) { tmps := args ++ Array.replicate (fn.ntmps - args.size) undef, defers := [] } w) : Calls P f args w R :=
  callsIn_wide.1 (callsIn_of_wp_marks (n := 0) hf hb trivial (wpIn_mono (wpIn_wide.2 h) (fun e a w hq => by cases e <;> first | exact hq | exact hq.elim)))
/-- What an evaluated body says of calls. -/
theorem fn_sim (hI : I = ints) (hmo : P.follows .mixedOrders = true) {j : List Nat} {f : FuncId} {x : XF} (hx : compFj P j f = some x) {args : List V1} {R : A → Mem → Prop}
    (h : ∀ Post : A → Mem → Tree, (∀ (v : A) (m : Mem) (σ fz : List Nat) (v1 : A) (m1 : Mem), σ.Nodup → σ.take m0.length = List.range m0.length → v1 = v.inv I σ (.frz fz) m → m1 = invMem I σ (.frz fz) m → v1.free = true → m1.all Blk.free = true → R v1 m1 → Holds P I m0.length (Post v m)) →
      Holds P I m0.length (evF I x args m0 Post)) : LValid P f args m0 R := by
  intro E w vs hs hsz hrep
  unfold compFj at hx
  split at hx
  · rename_i fn hf
    split at hx
    · rename_i c r hb hr
      obtain ⟨xb, hxb, rfl⟩ := Option.map_eq_some_iff.1 hx
      refine calls_of_end hf hb ?_
      have h1 := h (fun v m => .goal (∃ (σ fz : List Nat) (v1 : A) (m1 : Mem), σ.Nodup ∧ σ.take m0.length = List.range m0.length ∧ v1 = v.inv I σ (.frz fz) m ∧ m1 = invMem I σ (.frz fz) m ∧ v1.free = true ∧ m1.all Blk.free = true ∧ R v1 m1))
        (fun v m σ fz v1 m1 a1 a2 a3 a4 a5 a6 a7 => .goal ⟨σ, fz, v1, m1, a1, a2, a3, a4, a5, a6, a7⟩)
      have hts : TsRep E m0 w (args.map A.one ++ List.replicate (fn.ntmps - args.length) (.one (.c .any))) (vs ++ Array.replicate (fn.ntmps - vs.size) undef) := by
        refine ⟨by simp [hsz], fun t y ht => ?_⟩
        rw [List.getElem?_append] at ht
        split at ht
        · rename_i hlt
          rw [List.length_map] at hlt
          rw [List.getElem?_map] at ht
          obtain ⟨v, hv, rfl⟩ := Option.map_eq_some_iff.1 ht
          obtain ⟨u, g1, g2⟩ := hrep t v hv
          rw [Array.getD_eq_getD_getElem?, Array.getElem?_append_left (by omega), g1]
          exact g2
        · rw [List.getElem?_replicate] at ht
          split at ht
          · cases ht
            exact any_rep _
          · cases ht
      have hN : Now w.heap.size E m0 w E m0 w (args.map A.one ++ List.replicate (fn.ntmps - args.length) (.one (.c .any))) { tmps := vs ++ Array.replicate (fn.ntmps - vs.size) undef, defers := [] } := ⟨⟨hs, hts, .nil rfl⟩, Grow.refl _ _ _ _, Nat.le_refl _, fun _ h => by cases h⟩
      have fin : ∀ {ts' : List A} {m' : Mem} {E' : Env} {w' : World} {a' : Act} {R' : Ending → World → Prop}, (∀ e w', (∃ u v m' E', e = .returned u ∧ R v m' ∧ ARep E' m' w' v u ∧ v.free = true ∧ (∀ (id : Nat) (blk : Blk), m'[id]? = some blk → blk.free = true) ∧ Sat E' m' w' ∧ Grow (fun _ => True) E m0 w E' m' w') → R' e w') →
          Holds P I m0.length (evEnd r ts' m' fun v m => .goal (∃ (σ fz : List Nat) (v1 : A) (m1 : Mem), σ.Nodup ∧ σ.take m0.length = List.range m0.length ∧ v1 = v.inv I σ (.frz fz) m ∧ m1 = invMem I σ (.frz fz) m ∧ v1.free = true ∧ m1.all Blk.free = true ∧ R v1 m1)) →
          Now w.heap.size E m0 w E' m' w' ts' a' → LeavesInM Fence.wide 0 P fn a'.tmps R' a'.defers .returning w' := by
        intro ts' m' E' w3 a3 R' hR' hk hN3
        refine leaves_now hs hN3 (fun w' a' ha' hN' => ?_)
        obtain ⟨v, u, h2, h3, h4⟩ := end_inv hr hN'.toAt hk
        cases h2 with
        | goal h2 =>
        obtain ⟨σ, fz, v1, m1, a1, a2, a3, a4, a5, a6, a7⟩ := h2
        obtain ⟨E2, hN2, hv2⟩ := Now.tidy (keep := []) hI hN' (fz := fz) a1 a2
        rw [← a4] at hN2
        refine ⟨u, h4, hR' _ _ ⟨u, v1, m1, E2, rfl, a7, ?_, a5, fun id blk hb => List.all_eq_true.1 a6 blk (List.mem_of_getElem? hb), hN2.sat, hN2.grow⟩⟩
        rw [a3, a4]
        exact hv2 _ _ h3
      refine ev_sim hI hmo 1000 c xb hxb rfl (fun c d v a w hq => hq.elim) hN h1 (fun e ts' m' E' w' a' hk hN' => ?_)
      cases e with
      | exit i => exact (holds_fail hk).elim
      | normal => exact fin (fun _ _ h => h) hk hN'
      | ret => exact fin (fun _ _ h => h) hk hN'
    · cases hx
  · cases hx
theorem kills_grow {Wt : Nat → Prop} : ∀ (kl : List Nat) {m : Mem}, Sat E m w → Grow Wt E m w E (kill m kl) w ∧ Sat E (kill m kl) w
  | [], m, hs => ⟨Grow.refl _ _ _ _, hs⟩
  | b :: kl, m, hs => by
    obtain ⟨h1, h2⟩ := kill_grow (Wt := Wt) hs b
    obtain ⟨h3, h4⟩ := kills_grow kl h2
    exact ⟨h1.trans h3 (fun _ _ h => h), h4⟩
/-- The same; blocks kl are forgotten at the end. -/
theorem fn_simk (hI : I = ints) (hmo : P.follows .mixedOrders = true) {j : List Nat} {f : FuncId} {x : XF} (hx : compFj P j f = some x) {args : List V1} {R : A → Mem → Prop}
    (h : ∀ Post : A → Mem → Tree, (∀ (v : A) (m : Mem) (σ fz kl : List Nat) (v1 : A) (m1 : Mem), σ.Nodup → σ.take m0.length = List.range m0.length → v1 = v.inv I σ (.frz fz) m → m1 = kill (invMem I σ (.frz fz) m) kl → v1.free = true → m1.all Blk.free = true → R v1 m1 → Holds P I m0.length (Post v m)) →
      Holds P I m0.length (evF I x args m0 Post)) : LValid P f args m0 R := by
  intro E w vs hs hsz hrep
  unfold compFj at hx
  split at hx
  · rename_i fn hf
    split at hx
    · rename_i c r hb hr
      obtain ⟨xb, hxb, rfl⟩ := Option.map_eq_some_iff.1 hx
      refine calls_of_end hf hb ?_
      have h1 := h (fun v m => .goal (∃ (σ fz kl : List Nat) (v1 : A) (m1 : Mem), σ.Nodup ∧ σ.take m0.length = List.range m0.length ∧ v1 = v.inv I σ (.frz fz) m ∧ m1 = kill (invMem I σ (.frz fz) m) kl ∧ v1.free = true ∧ m1.all Blk.free = true ∧ R v1 m1))
        (fun v m σ fz kl v1 m1 a1 a2 a3 a4 a5 a6 a7 => .goal ⟨σ, fz, kl, v1, m1, a1, a2, a3, a4, a5, a6, a7⟩)
      have hts : TsRep E m0 w (args.map A.one ++ List.replicate (fn.ntmps - args.length) (.one (.c .any))) (vs ++ Array.replicate (fn.ntmps - vs.size) undef) := by
        refine ⟨by simp [hsz], fun t y ht => ?_⟩
        rw [List.getElem?_append] at ht
        split at ht
        · rename_i hlt
          rw [List.length_map] at hlt
          rw [List.getElem?_map] at ht
          obtain ⟨v, hv, rfl⟩ := Option.map_eq_some_iff.1 ht
          obtain ⟨u, g1, g2⟩ := hrep t v hv
          rw [Array.getD_eq_getD_getElem?, Array.getElem?_append_left (by omega), g1]
          exact g2
        · rw [List.getElem?_replicate] at ht
          split at ht
          · cases ht
            exact any_rep _
          · cases ht
      have hN : Now w.heap.size E m0 w E m0 w (args.map A.one ++ List.replicate (fn.ntmps - args.length) (.one (.c .any))) { tmps := vs ++ Array.replicate (fn.ntmps - vs.size) undef, defers := [] } := ⟨⟨hs, hts, .nil rfl⟩, Grow.refl _ _ _ _, Nat.le_refl _, fun _ h => by cases h⟩
      have fin : ∀ {ts' : List A} {m' : Mem} {E' : Env} {w' : World} {a' : Act} {R' : Ending → World → Prop}, (∀ e w', (∃ u v m' E', e = .returned u ∧ R v m' ∧ ARep E' m' w' v u ∧ v.free = true ∧ (∀ (id : Nat) (blk : Blk), m'[id]? = some blk → blk.free = true) ∧ Sat E' m' w' ∧ Grow (fun _ => True) E m0 w E' m' w') → R' e w') →
          Holds P I m0.length (evEnd r ts' m' fun v m => .goal (∃ (σ fz kl : List Nat) (v1 : A) (m1 : Mem), σ.Nodup ∧ σ.take m0.length = List.range m0.length ∧ v1 = v.inv I σ (.frz fz) m ∧ m1 = kill (invMem I σ (.frz fz) m) kl ∧ v1.free = true ∧ m1.all Blk.free = true ∧ R v1 m1)) →
          Now w.heap.size E m0 w E' m' w' ts' a' → LeavesInM Fence.wide 0 P fn a'.tmps R' a'.defers .returning w' := by
        intro ts' m' E' w3 a3 R' hR' hk hN3
        refine leaves_now hs hN3 (fun w' a' ha' hN' => ?_)
        obtain ⟨v, u, h2, h3, h4⟩ := end_inv hr hN'.toAt hk
        cases h2 with
        | goal h2 =>
        obtain ⟨σ, fz, kl, v1, m1, a1, a2, a3, a4, a5, a6, a7⟩ := h2
        obtain ⟨E2, hN2, hv2⟩ := Now.tidy (keep := []) hI hN' (fz := fz) a1 a2
        obtain ⟨k1, k2⟩ := kills_grow (Wt := fun _ => True) kl hN2.sat
        rw [← a4] at k1 k2
        refine ⟨u, h4, hR' _ _ ⟨u, v1, m1, E2, rfl, a7, ?_, a5, fun id blk hb => List.all_eq_true.1 a6 blk (List.mem_of_getElem? hb), k2, hN2.grow.trans k1 (fun _ _ h => h)⟩⟩
        rw [a3]
        exact (hv2 _ _ h3).step k1.toStep
      refine ev_sim hI hmo 1000 c xb hxb rfl (fun c d v a w hq => hq.elim) hN h1 (fun e ts' m' E' w' a' hk hN' => ?_)
      cases e with
      | exit i => exact (holds_fail hk).elim
      | normal => exact fin (fun _ _ h => h) hk hN'
      | ret => exact fin (fun _ _ h => h) hk hN'
    · cases hx
  · cases hx
end
end Go.Proofs.Ytccfcenhpmdemaa.E
