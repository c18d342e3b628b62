/- Regions, code, functions: what the evaluator shows of a body holds of the call. -/
import Derived.Test.YtccfcenhpmdemaaE11
import Derived.RegionTactic
import Derived.Laws.IdiomRangeMap
namespace Go.Proofs.Ytccfcenhpmdemaa.E
open Go
set_option linter.unusedVariables false
set_option linter.unusedSectionVars false

section
variable {lo : Nat} {P : Program} {I : Ints} {p : Nat} {E E0 : Env} {m m0 : Mem} {w w0 : World} {ts : List A} {a : Act}
def Fresh (lo : Nat) (w : World) (a : Act) : Prop := lo ≤ w.heap.size ∧ ∀ D : Nat, ({ target := .collected D, args := #[] } : Deferred) ∈ a.defers → lo ≤ D
theorem Fresh.mono {lo : Nat} {w w' : World} {a : Act} (h : Fresh lo w a) (hs : w.heap.size ≤ w'.heap.size) : Fresh lo w' a := ⟨Nat.le_trans h.1 hs, h.2⟩
theorem Fresh.put {lo : Nat} {w : World} {a : Act} (h : Fresh lo w a) (d : Option Nat) (v : Value) : Fresh lo w (a.put d v) := ⟨h.1, by cases d <;> exact h.2⟩
structure Now (lo : Nat) (E0 : Env) (m0 : Mem) (w0 : World) (E : Env) (m : Mem) (w : World) (ts : List A) (a : Act) : Prop extends At E m w ts a where
  grow : Grow (fun _ => True) E0 m0 w0 E m w
  fresh : Fresh lo w a
theorem TsRep.putT {tmps : Array Value} (h : TsRep E m w ts tmps) {x : A} {v : Value} (hx : ARep E m w x v) (d : Option Nat) (df : List Deferred) : TsRep E m w (putT ts d x) (Act.put ⟨tmps, df⟩ d v).tmps := by
  cases d with
  | none => exact h
  | some d => exact h.put hx d
theorem skip_rep : ARep E m w (.tup []) undef := ⟨#[], rfl, rfl, fun i x h => by simp at h⟩
theorem any_rep (v : Value) : ARep E m w (.one (.c .any)) v := Or.inl rfl
theorem put_defers (a : Act) (d : Option Nat) (v : Value) : (a.put d v).defers = a.defers := by cases d <;> rfl
theorem At.putT (h : At E m w ts a) {x : A} {v : Value} (hx : ARep E m w x v) (d : Option Nat) : At E m w (putT ts d x) (a.put d v) :=
  ⟨h.sat, h.ts.putT hx d a.defers, h.defers.put d v⟩
theorem guard_inv {ops : Array Oper} {o : Oper} {g : Option (Nat × Bool)} {k : Bool → List A → Tree} (hg : tmpOf ops o.guard = some g) (hA : At E m w ts a) (h : Holds P I p (evGuard g ts k)) :
    ∃ t ts', Region.wanted o (yielded ops a.tmps) = t ∧ At E m w ts' a ∧ Holds P I p (k t ts') := by
  unfold tmpOf at hg
  split at hg
  · rename_i e
    cases hg
    exact ⟨true, ts, by simp [Region.wanted, e], hA, h⟩
  · rename_i j b e
    split at hg
    · rename_i t ht
      cases hg
      have key : ∀ b0 : Bool, a.tmps.getD t undef = .bool b0 → Region.wanted o (yielded ops a.tmps) = (b0 == b) := by
        intro b0 hb
        have : a.tmps[t]? = some (.bool b0) := by
          rw [Array.getD_eq_getD_getElem?] at hb
          cases hq : a.tmps[t]? with
          | none => rw [hq] at hb; simp [undef] at hb
          | some v => rw [hq] at hb; simp at hb; rw [hb]
        simp only [Region.wanted, e, yielded, ht, Option.bind_some, this]
        cases b0 <;> cases b <;> rfl
      have hr : ARep E m w (getT ts t) (a.tmps.getD t undef) := opd_rep (X := .tmp t) (x := .tmp t) rfl hA
      unfold evGuard at h
      simp only at h
      split at h
      · rename_i b0 hv
        rw [hv] at hr
        rcases hr with hr | hr
        · cases hr
        · generalize hu : a.tmps.getD t undef = u at hr
          cases hr
          exact ⟨_, ts, key _ hu, hA, h⟩
      · rename_i hv
        rw [hv] at hr
        obtain ⟨us, hu, hz, -⟩ := hr
        refine ⟨false, ts, ?_, hA, h⟩
        have hn : ∀ x, a.tmps[t]? ≠ some (.bool x) := fun x hx => by
          rw [Array.getD_eq_getD_getElem?, hx] at hu
          simp at hu
        simp only [Region.wanted, e, yielded, ht, Option.bind_some]
        cases hq : a.tmps[t]? with
        | none => rfl
        | some v =>
          cases v with
          | bool x => exact absurd hq (hn x)
          | _ => rfl
      · rename_i b0 hv
        have hlt : t < ts.length := by
          rcases Nat.lt_or_ge t ts.length with h' | h'
          · exact h'
          · unfold getT at hv
            rw [List.getD_eq_getElem?_getD, List.getElem?_eq_none h'] at hv
            cases hv
        rw [hv] at hr
        rcases hr with hr | hr
        · cases hr
        · generalize hu : a.tmps.getD t undef = u at hr
          cases hr
          have set : ∀ c : Bool, b0 = c → At E m w (ts.set t (.one (.c (.g (.bool (.lit c)))))) a := by
            rintro c rfl
            refine ⟨hA.sat, ⟨by simpa using hA.ts.1, fun q x hq => ?_⟩, hA.defers⟩
            rw [List.getElem?_set] at hq
            by_cases he : t = q
            · subst he
              simp only [hlt, if_true, Option.some.injEq] at hq
              subst hq
              rw [hu]
              exact .inr (.bool (.lit _))
            · simp only [he, if_false] at hq
              exact hA.ts.2 q x hq
          cases h with
          | br h1 h2 =>
            cases b0
            · exact ⟨_, _, key _ hu, set false rfl, h2 rfl⟩
            · exact ⟨_, _, key _ hu, set true rfl, h1 rfl⟩
      · exact (holds_fail h).elim
    · cases hg
variable {ops : Array Oper} {o : Oper} {Q : Exit → Act → World → Prop}
/-- One operation, in its turn. -/
theorem one_sim {wr : Option (List Nat × Nat)} {xo : XO} {k : List A → Mem → Tree} (hI : I = ints) (hx : compO P ops o = some xo) (hN : Now lo E0 m0 w0 E m w ts a) (h : Holds P I p (ev1op I false wr xo ts m k)) {K : Act → World → Prop}
    (hK : ∀ ts' m' E' w' a', Holds P I p (k ts' m') → Now lo E0 m0 w0 E' m' w' ts' a' → Grow (fun b => okW wr b = true) E m w E' m' w' → K a' w') :
    if Region.wanted o (yielded ops a.tmps) = true then o.wp P a w K Q else K (a.put o.dst undef) w := by
  unfold compO at hx
  split at hx
  · rename_i x g hc hg
    cases hx
    obtain ⟨t, ts', ht, hA', h⟩ := guard_inv hg hN.toAt h
    rw [ht]
    cases t
    · exact hK _ _ _ _ _ h ⟨hA'.putT skip_rep o.dst, hN.grow, hN.fresh.put _ _⟩ (Grow.refl _ _ _ _)
    · cases hq : x.quiet
      · refine loud_sim hI hc hq hA' h K (fun av v E' m' w' hk hg hs hr => ?_)
        have step := hg.toStep
        exact hK _ _ _ _ _ hk ⟨⟨hs, (hA'.ts.step step).putT hr o.dst a.defers, (hA'.defers.step step).put o.dst v⟩, hN.grow.trans hg (fun _ _ _ => trivial), (hN.fresh.mono hg.size).put _ _⟩ hg
      · obtain ⟨av, v, hk, hr, hrun⟩ := quiet_sim hI hc hq hA' (fun e => by cases e) h
        show o.wp P a w K Q
        unfold Oper.wp
        rw [hrun w (.inl rfl)]
        exact hK _ _ _ _ _ hk ⟨hA'.putT hr o.dst, hN.grow, hN.fresh.put _ _⟩ (Grow.refl _ _ _ _)
  · cases hx
theorem ops_sim (hI : I = ints) : ∀ (l : List Oper) (xs : List XO) {E : Env} {m : Mem} {w : World} {ts : List A} {a : Act} {k : List A → Mem → Tree}, compOs P ops l = some xs → Now lo E0 m0 w0 E m w ts a → Holds P I p (evOps I xs ts m k) →
    (∀ ts' m' E' w' a', Holds P I p (k ts' m') → Now lo E0 m0 w0 E' m' w' ts' a' → Q .normal a' w') → wpList P ops Q l a w
  | [], xs, E, m, w, ts, a, k, hc, hN, h, hK => by
    cases hc
    exact hK _ _ _ _ _ h hN
  | o :: l, xs, E, m, w, ts, a, k, hc, hN, h, hK => by
    simp only [compOs] at hc
    split at hc
    · rename_i x xl hx hl
      cases hc
      refine wpList_step fun K hK' => ?_
      exact one_sim hI hx hN h (fun ts' m' E' w' a' hk hN' _ => hK' _ _ (ops_sim hI l xl hl hN' hk hK))
    · cases hc
theorem wpAnyH_weak {md : Region.Mode} {S S' : World → Prop} (hS : ∀ w, S' w → S w) : ∀ (n : Nat) (l : Array Bool) (a : Act) (w : World), wpAnyH P md ops Q S' n l a w → wpAnyH P md ops Q S n l a w
  | 0, _, _, _, h => h
  | n + 1, l, a, w, h => ⟨h.1, fun i hi => wpOp_mono (fun a' w' h' => ⟨hS _ h'.1, wpAnyH_weak hS n _ a' w' h'.2⟩) (h.2 i hi)⟩
theorem same_trans {wr : Option (List Nat × Nat)} {E' : Env} {m' : Mem} {w' w2 : World} (hg : Grow (fun b => okW wr b = true) E m w E' m' w') (h : Same wr E' m' w' w2) : Same wr E m w w2 := fun k hk hn =>
  (h k (Nat.lt_of_lt_of_le hk hg.size) (fun hf => (hg.foot (fun _ _ h => h) hf).elim (fun h => by omega) hn)).trans (hg.block k hk hn)
theorem manyB_one : ∀ {l : List Nat}, manyB l = false → ∃ j, l = [j]
  | [], h => by cases h
  | [j], _ => ⟨j, rfl⟩
  | _ :: _ :: _, h => by cases h
theorem drawn_sim {bq : Nat} (hI : I = ints) (hns : Region.noSelect ops = true) (hQ : ∀ c d v a w, Q (.panic c) (Act.put a d v) w → Q (.panic c) a w) (wr : List Nat × Nat) : ∀ (n : Nat) (listed : Array Bool) (s : SD) (l : DX) {E : Env} {m : Mem} {w : World} {ts : List A} {a : Act} {k : List A → Mem → Tree},
    sched ops (quiets P ops bq) n listed = some s → compSched P ops s = some l → Now lo E0 m0 w0 E m w ts a → Holds P I p (evDrawn I wr l ts m k) →
    (∀ ts' m' E' w' a', Holds P I p (k ts' m') → Now lo E0 m0 w0 E' m' w' ts' a' → Q .normal a' w') → wpAnyH P .any ops Q (Same (some wr) E m w) n listed a w
  | 0, listed, s, l, E, m, w, ts, a, k, hs, hc, hN, h, hK => by
    unfold sched at hs
    split at hs
    · rename_i hr
      cases hs
      cases hc
      exact wpAnyH_done hr (hK _ _ _ _ _ h hN) 0
    · cases hs
  | n + 1, listed, s, l, E, m, w, ts, a, k, hs, hc, hN, h, hK => by
    have one : ∀ (i : Nat) (s' : SD) (li : DX), sched ops (quiets P ops bq) n (listed.setIfInBounds i true) = some s' → compSched P ops (.op i false s') = some li → Holds P I p (evDrawn I wr li ts m k) →
        wpOp P ops Q i (fun a' w' => Same (some wr) E m w w' ∧ wpAnyH P .any ops Q (Same (some wr) E m w) n (listed.setIfInBounds i true) a' w') a w := fun i s' li hs' hc h => by
      simp only [compSched] at hc
      split at hc
      · rename_i o ho
        split at hc
        · rename_i xo l' hx hl
          cases hc
          refine wpOp_step ho fun K hK' => ?_
          exact one_sim hI hx hN h (fun ts' m' E' w' a' hk hN' hg => hK' _ _ ⟨fun k hk hn => hg.block k hk hn, wpAnyH_weak (fun w2 h2 => same_trans hg h2) _ _ _ _ (drawn_sim hI hns hQ wr n _ s' l' hs' hl hN' hk hK)⟩)
        · cases hc
      · cases hc
    unfold sched at hs
    split at hs
    · rename_i hr
      cases hs
      cases hc
      exact wpAnyH_done hr (hK _ _ _ _ _ h hN) _
    · rename_i rs hne
      split at hs
      · rename_i i hi
        obtain ⟨s', hs', rfl⟩ := Option.map_eq_some_iff.1 hs
        have hp := List.find?_some hi
        have hmem := List.mem_of_find?_eq_some hi
        cases hone : manyB (Region.ready .any ops listed) with
        | false =>
          obtain ⟨j, hr⟩ := manyB_one hone
          have hij : i = j := by
            rw [hr] at hmem
            simpa using hmem
          subst hij
          rw [hone] at hc
          refine wpAnyH_all hr (by simp) (fun q hq => ?_)
          simp only [List.mem_singleton] at hq
          subst hq
          exact one _ _ _ hs' hc h
        | true =>
        rw [hone] at hc
        simp only [Bool.and_eq_true] at hp
        simp only [compSched] at hc
        split at hc
        · rename_i o ho
          split at hc
          · rename_i xo l' hx hl
            cases hc
            have hx' := hx
            unfold compO at hx'
            split at hx'
            · rename_i x g hcx hg
              cases hx'
              have hq : x.quiet = true := by
                have h1 := hp.1
                unfold quiets at h1
                rw [Array.getD_eq_getD_getElem?, Array.getElem?_map, ho] at h1
                have h2 := h1
                simp [hcx] at h2
                first
                  | exact h2.1.1
                  | exact h2.1
              have h' : Holds P I p (evGuard g ts fun t ts => match t with
                | true => evOp I true (some wr) x ts m fun v m => evDrawn I wr l' (putT ts o.dst v) m k
                | false => evDrawn I wr l' (putT ts o.dst (.tup [])) m k) := h
              obtain ⟨t, ts', ht, hA', h⟩ := guard_inv hg hN.toAt h'
              have fin : ∀ av v, ARep E m w av v → Holds P I p (evDrawn I wr l' (putT ts' o.dst av) m k) → YieldsIf P ops (Same (some wr) E m w) o v a → wpAnyH P .any ops Q (Same (some wr) E m w) (n + 1) listed a w := fun av v hr hk hy =>
                wpAnyH_take ho hns hp.2 (by simpa using hmem) (fun c a w h => hQ c _ _ a w h) hy (fun _ _ _ => rfl) (drawn_sim hI hns hQ wr n _ s' l' hs' hl ⟨hA'.putT hr o.dst, hN.grow, hN.fresh.put _ _⟩ hk hK)
              cases t
              · exact fin _ undef skip_rep h (.inr ⟨ht, rfl⟩)
              · obtain ⟨av, v, hk, hr, hrun⟩ := quiet_sim hI hcx hq hA' (fun _ => rfl) h
                exact fin _ v hr hk (.inl ⟨ht, fun w' hw' => hrun w' (.inr ⟨rfl, hw'⟩)⟩)
            · cases hx'
          · cases hc
        · cases hc
      · split at hs
        · rename_i i hr
          obtain ⟨s', hs', rfl⟩ := Option.map_eq_some_iff.1 hs
          refine wpAnyH_all hr (by simp) (fun j hj => ?_)
          simp only [List.mem_singleton] at hj
          subst hj
          exact one _ _ _ hs' hc h
        · rename_i i j hr
          split at hs
          · rename_i s1 s2 h1 h2
            cases hs
            change (match compSched P ops (.op i false s1), compSched P ops (.op j false s2) with | some a, some b => some (DX.alt a b) | _, _ => none) = some l at hc
            split at hc
            · rename_i l1 l2 g1 g2
              cases hc
              cases h with
              | both ha hb =>
              refine wpAnyH_all hr (by simp) (fun q hq => ?_)
              simp only [List.mem_cons, List.not_mem_nil, or_false] at hq
              rcases hq with rfl | rfl
              · exact one _ _ _ h1 g1 ha
              · exact one _ _ _ h2 g2 hb
            · cases hc
          · cases hs
        · rename_i i j q3 hr
          split at hs
          · rename_i s1 s2 s3 h1 h2 h3
            cases hs
            change (match compSched P ops (.op i false s1), compSched P ops (.alt (.op j false s2) (.op q3 false s3)) with | some a, some b => some (DX.alt a b) | _, _ => none) = some l at hc
            split at hc
            · rename_i l1 l2 g1 g2
              cases hc
              change (match compSched P ops (.op j false s2), compSched P ops (.op q3 false s3) with | some a, some b => some (DX.alt a b) | _, _ => none) = some l2 at g2
              split at g2
              · rename_i l3 l4 g3 g4
                cases g2
                cases h with
                | both ha hb =>
                cases hb with
                | both hb hc =>
                refine wpAnyH_all hr (by simp) (fun q hq => ?_)
                simp only [List.mem_cons, List.not_mem_nil, or_false] at hq
                rcases hq with rfl | rfl | rfl
                · exact one _ _ _ h1 g1 ha
                · exact one _ _ _ h2 g3 hb
                · exact one _ _ _ h3 g4 hc
              · cases g2
            · cases hc
          · cases hs
        · cases hs
def Ex.out : Ex → Exit
  | .normal => .normal
  | .exit i => .exit i
  | .ret => .ret
theorem size_drew (w : World) : w.drew.heap = w.heap := rfl
theorem Now.drew (h : Now lo E0 m0 w0 E m w ts a) : Now lo E0 m0 w0 E m w.drew ts a := by
  have step : Step E m w E m w.drew := { Step.refl E m w with frz := fun _ _ => rfl, stays := ⟨fun x hx => ⟨hx, rfl⟩, fun a es c h => ⟨es, c, h, fun i e h => ⟨e, h, rfl, rfl⟩⟩⟩ }
  have grow : Grow (fun _ => True) E m w E m w.drew := { Grow.refl (fun _ => True) E m w with toStep := step, os := rfl, tape := rfl, output := rfl, size := Nat.le_refl _, block := fun _ _ _ => rfl }
  refine ⟨⟨⟨fun id blk hb hl => ?_, h.sat.inj, h.sat.dis, h.sat.old, fun id ag l hb => let ⟨a_, e, hlt, hm⟩ := h.sat.maps id ag l hb; ⟨a_, e, hlt, MapAt.step (w := w) (w' := w.drew) (a := a_) (a' := a_) (fun _ h => h) (fun _ _ => rfl) rfl hm⟩⟩, h.ts.step step, h.defers.step step⟩, h.grow.trans grow (fun _ _ h => h), h.fresh⟩
  rcases h.sat.rep id blk hb hl with h1 | ⟨a_, base, e, g1, g2, g3⟩
  · exact .inl h1
  · rw [e]
    exact BRep.step_rep step rfl (Nat.le_refl _) (fun _ => .inr ⟨a_, base, rfl, g1, g2, g3⟩) hl
theorem mask_get (keep : List Nat) : ∀ (ts : List A) (n i : Nat) (x : A), (maskT keep n ts)[i]? = some x → x = .one (.c .any) ∨ ts[i]? = some x
  | [], n, i, x, h => by simp [maskT] at h
  | t :: ts, n, i, x, h => by
    cases i with
    | zero =>
      simp only [maskT, List.getElem?_cons_zero, Option.some.injEq] at h
      split at h
      · exact .inr (by rw [← h]; rfl)
      · exact .inl h.symm
    | succ i =>
      simp only [maskT, List.getElem?_cons_succ] at h
      simpa using mask_get keep ts (n + 1) i x h
theorem mask_len (keep : List Nat) : ∀ (ts : List A) (n : Nat), (maskT keep n ts).length = ts.length
  | [], _ => rfl
  | t :: ts, n => by simp [maskT, mask_len keep ts]
theorem renw_grow (hI : I = ints) (hg : Grow (fun _ => True) E0 m0 w0 E m w) (hs : Sat E m w) {σ fz : List Nat} (hp : σ.take m0.length = List.range m0.length) (q : How) : Grow (fun _ => True) E0 m0 w0 (E.ren m σ fz (fun _ => False)) (invMem I σ q m) w := by
  have hpl : m0.length ≤ σ.length := by
    have := congrArg List.length hp
    simp at this
    omega
  have hσ : ∀ id, id < m0.length → σ[id]? = some id := fun id hid => by
    have : (σ.take m0.length)[id]? = some id := by rw [hp]; simp [hid]
    rw [List.getElem?_take, if_pos hid] at this
    exact this
  have hsh := inv_shape (I := I) σ q m
  have foot : ∀ k, LiveAt (fun _ => True) E m k → w0.heap.size ≤ k ∨ Foot (fun _ => True) E0 m0 k := fun k ⟨b, blk, x, h1, h2, h3, h4⟩ => hg.foot (Wt' := fun _ => True) (fun _ _ _ => trivial) ⟨b, blk, x, h1, h2, trivial, h4⟩
  exact
    { F := fun k hk => .inl (hg.F k hk)
      B := fun k hk => .inl (hg.B k hk)
      ρ := fun id hid => by rw [← hg.ρ id hid]; simp [Env.ren, hσ id hid]
      len := by rw [hsh.len]; exact hpl
      shape := fun id blk' hid h hl => by
        obtain ⟨blk, q1, q2, q3, q4⟩ := hsh.get id id blk' (hσ id hid) h hl
        obtain ⟨blk0, r1, r2, r3, r4⟩ := hg.shape id blk hid q1 q2
        exact ⟨blk0, r1, r2, q3.trans r3, q4.trans r4⟩
      frz := hg.frz
      stays := hg.stays
      B' := fun k hk => hk.elim (hg.B' k) (fun ⟨_, _, _, _, _, h, _⟩ => h.elim)
      os := hg.os
      tape := hg.tape
      output := hg.output
      size := hg.size
      block := hg.block
      newF := fun k hk => by
        rcases hk with hk | ⟨b, blk, x, h1, h2, h3, h4⟩
        · exact hg.newF k hk
        · exact .inr (foot k ⟨b, blk, x, h1, h2, trivial, h4⟩)
      newρ := fun id a_ x blk' hid h hl e => by
        cases hq : σ[id]? with
        | none => simp [Env.ren, hq] at e
        | some b =>
          obtain ⟨blk, q1, q2, _, _⟩ := hsh.get id b blk' hq h hl
          exact foot a_ ⟨b, blk, x, q1, q2, trivial, by simpa [Env.ren, hq] using e⟩ }
/-- Names are forgotten, frozen, turned: where a round ends, where a function returns. -/
theorem Now.tidy (hI : I = ints) (h : Now lo E0 m0 w0 E m w ts a) {σ fz keep : List Nat} (hσ : σ.Nodup) (hp : σ.take m0.length = List.range m0.length) : ∃ E', Now lo E0 m0 w0 E' (invMem I σ (.frz fz) m) w ((maskT keep 0 ts).map (A.inv I σ (.frz fz) m)) a ∧
    ∀ v u, ARep E m w v u → ARep E' (invMem I σ (.frz fz) m) w (v.inv I σ (.frz fz) m) u := by
  have hfz : ∀ l, How.frz fz = .frz l → ∀ b ∈ l, b ∉ σ → b ∈ fz.filter (fun b => !σ.contains b) := fun l e b hb hn => by
    cases e
    simp [hb, hn]
  have hB : ∀ es, How.frz fz = .bor es → ∀ b, b ∉ σ → (fun _ : Nat => False) b := fun es e => by cases e
  have hfσ : ∀ b ∈ fz.filter (fun b => !σ.contains b), b ∉ σ := fun b hb => by
    simp at hb
    exact hb.2
  have hsh := inv_shape (I := I) σ (.frz fz) m
  have hv : ∀ v u, ARep E m w v u → ARep (E.ren m σ (fz.filter (fun b => !σ.contains b)) (fun _ => False)) (invMem I σ (.frz fz) m) w (v.inv I σ (.frz fz) m) u := fun v u hv => ARep.inv hI h.sat hfz hB hsh hv
  refine ⟨_, ⟨⟨Sat.inv hI h.sat hσ hfz hB (fun _ h => h.elim) hfσ, ⟨by simp [mask_len, h.ts.1], fun i x hi => ?_⟩, h.defers.mono (fun _ h => .inl h) (fun _ _ => rfl)⟩, renw_grow hI h.grow h.sat hp _, h.fresh⟩, hv⟩
  rw [List.getElem?_map] at hi
  cases hq : (maskT keep 0 ts)[i]? with
  | none => simp [hq] at hi
  | some y =>
    simp [hq] at hi
    subst hi
    rcases mask_get keep ts 0 i y hq with rfl | hy
    · exact any_rep _
    · exact hv _ _ (h.ts.2 i y hy)
theorem sy_rows (b : Blk) : b.sy.rows.length = b.rows.length ∧ b.sy.es = b.es ∧ (b.sy.live ↔ b.live) := by cases b <;> simp [Blk.sy, Blk.rows, Blk.es, Blk.live]
theorem sy_get {id : Nat} {blk : Blk} (h : (m.map Blk.sy)[id]? = some blk) : ∃ b, m[id]? = some b ∧ blk = b.sy := by
  rw [List.getElem?_map] at h
  obtain ⟨b, hb, rfl⟩ := Option.map_eq_some_iff.1 h
  exact ⟨b, hb, rfl⟩
theorem CRep.sy {x : C} {u : Value} (h : CRep E m w x u) : CRep E (m.map Blk.sy) w x.sy u := by
  cases x with
  | any => exact h
  | g x =>
    cases x with
    | bool b => generalize u = v at h; cases h; exact .bool (.sym b.val)
    | int k z => generalize u = v at h; cases h; exact .int k (.sym z.val)
    | str s => exact h
    | nilp => exact h
    | nil => exact h
    | rows es l => exact h
  | bor es l => exact h
  | gp row j => exact h
  | ptr b i es j => exact ⟨by rw [List.length_map]; exact h.1, h.2⟩
  | row b es cap =>
    refine ⟨by rw [List.length_map]; exact h.1, h.2.1, fun blk hb hl => ?_⟩
    obtain ⟨b0, h1, rfl⟩ := sy_get hb
    obtain ⟨r1, r2, r3⟩ := sy_rows b0
    rw [r1, r2]
    exact h.2.2 b0 h1 (r3.1 hl)
  | sl b i es n cap =>
    refine ⟨by rw [List.length_map]; exact h.1, h.2.1, fun blk hb hl => ?_⟩
    obtain ⟨b0, h1, rfl⟩ := sy_get hb
    obtain ⟨r1, r2, r3⟩ := sy_rows b0
    rw [r1, r2]
    exact h.2.2 b0 h1 (r3.1 hl)
  | fn f l =>
    obtain ⟨us, h1, h2, h3⟩ := h
    exact ⟨us, h1, h2, fun i b es j hi => by rw [List.length_map]; exact h3 i b es j hi⟩
  | map b => exact ⟨by rw [List.length_map]; exact h.1, h.2⟩
  | stamp b z => exact ⟨by rw [List.length_map]; exact h.1, h.2⟩
theorem V1Rep.sy {x : V1} {u : Value} (h : V1Rep E m w x u) : V1Rep E (m.map Blk.sy) w x.sy u := by
  cases x with
  | c x =>
    rcases h with rfl | h
    · exact .inl rfl
    · exact .inr h.sy
  | agg l =>
    obtain ⟨cs, h1, h2, h3⟩ := h
    refine ⟨cs, h1, by simp [h2], fun i x hi => ?_⟩
    rw [List.getElem?_map] at hi
    obtain ⟨y, hy, rfl⟩ := Option.map_eq_some_iff.1 hi
    obtain ⟨u, h4, h5⟩ := h3 i y hy
    exact ⟨u, h4, h5.sy⟩
theorem ARep.sy {x : A} {u : Value} (h : ARep E m w x u) : ARep E (m.map Blk.sy) w x.sy u := by
  cases x with
  | one v => exact V1Rep.sy h
  | tup l =>
    obtain ⟨cs, h1, h2, h3⟩ := h
    refine ⟨cs, h1, by simp [h2], fun i x hi => ?_⟩
    rw [List.getElem?_map] at hi
    obtain ⟨y, hy, rfl⟩ := Option.map_eq_some_iff.1 hi
    obtain ⟨u, h4, h5⟩ := h3 i y hy
    exact ⟨u, h4, h5.sy⟩
theorem Now.sy (h : Now lo E0 m0 w0 E m w ts a) : Now lo E0 m0 w0 E (m.map Blk.sy) w (ts.map A.sy) a where
  sat := ⟨fun id blk hb hl => by
      obtain ⟨b0, h1, rfl⟩ := sy_get hb
      obtain ⟨r1, r2, r3⟩ := sy_rows b0
      refine (h.sat.rep id b0 h1 (r3.1 hl)).imp (fun q => ⟨q.1, List.eq_nil_of_length_eq_zero (by rw [r1, q.2]; rfl)⟩) ?_
      rintro ⟨a_, base, e, g1, g2, g3⟩
      refine ⟨a_, base, e, by rw [r1, r2]; exact g1, g2, fun i row hi => ?_⟩
      cases b0 with
      | dead => simp [Blk.sy, Blk.rows] at hi
      | mp ag l => simp [Blk.sy, Blk.rows] at hi
      | sym es l => exact ⟨(g3 i row hi).1, fun j x hj => by
          obtain ⟨u, h4, h5⟩ := (g3 i row hi).2 j x hj
          refine ⟨u, h4, ?_⟩
          have hg : ∃ y : G, x = .g y := by
            simp only [Blk.sy, Blk.rows] at hi
            rw [List.getElem?_map] at hi
            obtain ⟨r, hr, rfl⟩ := Option.map_eq_some_iff.1 hi
            rw [List.getElem?_map] at hj
            obtain ⟨y, hy, rfl⟩ := Option.map_eq_some_iff.1 hj
            exact ⟨y, rfl⟩
          obtain ⟨y, rfl⟩ := hg
          exact h5⟩
      | lit es rows =>
        simp only [Blk.sy, Blk.rows] at hi
        rw [List.getElem?_map] at hi
        obtain ⟨r, hr, rfl⟩ := Option.map_eq_some_iff.1 hi
        refine ⟨by rw [List.length_map]; exact (g3 i r hr).1, fun j x hj => ?_⟩
        rw [List.getElem?_map] at hj
        obtain ⟨y, hy, rfl⟩ := Option.map_eq_some_iff.1 hj
        obtain ⟨u, h4, h5⟩ := (g3 i r hr).2 j y hy
        exact ⟨u, h4, h5.sy⟩,
    fun i j bi bj a_ x y hi hj li lj ei ej => by
      obtain ⟨b1, h1, rfl⟩ := sy_get hi
      obtain ⟨b2, h2, rfl⟩ := sy_get hj
      exact h.sat.inj i j b1 b2 a_ x y h1 h2 ((sy_rows b1).2.2.1 li) ((sy_rows b2).2.2.1 lj) ei ej,
    fun i bi a_ x hi li ei => by
      obtain ⟨b1, h1, rfl⟩ := sy_get hi
      exact h.sat.dis i b1 a_ x h1 ((sy_rows b1).2.2.1 li) ei, h.sat.old,
    fun id ag l hb => by
      obtain ⟨b0, h1, e⟩ := sy_get hb
      cases b0 with
      | mp ag' l' => cases e; exact h.sat.maps id ag l h1
      | _ => cases e⟩
  ts := ⟨by rw [List.length_map]; exact h.ts.1, fun t x ht => by
    rw [List.getElem?_map] at ht
    obtain ⟨y, hy, rfl⟩ := Option.map_eq_some_iff.1 ht
    exact (h.ts.2 t y hy).sy⟩
  defers := h.defers
  fresh := h.fresh
  grow :=
    { F := h.grow.F, B := h.grow.B, ρ := h.grow.ρ, len := by rw [List.length_map]; exact h.grow.len
      shape := fun id blk' hid hb hl => by
        obtain ⟨b0, h1, rfl⟩ := sy_get hb
        obtain ⟨r1, r2, r3⟩ := sy_rows b0
        obtain ⟨blk, q1, q2, q3, q4⟩ := h.grow.shape id b0 hid h1 (r3.1 hl)
        exact ⟨blk, q1, q2, r1.trans q3, r2.trans q4⟩
      frz := h.grow.frz, stays := h.grow.stays, B' := h.grow.B', os := h.grow.os, tape := h.grow.tape, output := h.grow.output, size := h.grow.size, block := h.grow.block, newF := h.grow.newF
      newρ := fun id a_ x blk h1 h2 h3 h4 => by
        obtain ⟨b0, g1, rfl⟩ := sy_get h2
        exact h.grow.newρ id a_ x b0 h1 g1 ((sy_rows b0).2.2.1 h3) h4 }
theorem GRep_nil {F : Nat → Prop} {w : World} {u : Value} (h : GRep F w .nil u) : u = .slice none 0 0 := by
  generalize u = u' at h
  cases h
  rfl
/-- A nil field of a block is a row of its own. -/
theorem nil_field {E : Env} {m : Mem} {w : World} {Wt : Nat → Prop} (hs : Sat E m w) {b es i j : Nat} {rows : List (List C)} {row : List C} (hb : m[b]? = some (.lit es rows)) (hW : Wt b) (hi : rows[i]? = some row) (hj : row[j]? = some (.g .nil)) (es' : Nat) :
    ∃ E', Grow Wt E m w E' ((m.set b (.lit es (rows.set i (row.set j (.row m.length es' none))))) ++ [.sym es' []]) w ∧ Sat E' ((m.set b (.lit es (rows.set i (row.set j (.row m.length es' none))))) ++ [.sym es' []]) w := by
  obtain ⟨g1, s1⟩ := add_grow (Wt := Wt) (w' := w) hs (blk := .sym es' []) (r := none) (Nat.le_refl _) rfl rfl rfl (Stays.refl _) (fun _ _ => rfl) (fun _ _ h => by cases h) (fun _ => .inl ⟨rfl, rfl⟩)
  have hbm : b < m.length := (List.getElem?_eq_some_iff.1 hb).1
  have hb' : (m ++ [Blk.sym es' []])[b]? = some (.lit es rows) := by rw [List.getElem?_append_left hbm]; exact hb
  have hil : i < rows.length := (List.getElem?_eq_some_iff.1 hi).1
  have hjl : j < row.length := (List.getElem?_eq_some_iff.1 hj).1
  rcases s1.rep b _ hb' trivial with ⟨_, h0⟩ | ⟨a_, base, e, p1, p2, p3⟩
  · have : rows = [] := h0
    rw [this] at hil
    simp at hil
  have hw := write_grow (w' := w) (Wt := Wt) s1 hb' trivial (blk' := .lit es (rows.set i (row.set j (.row m.length es' none)))) trivial e hW rfl rfl rfl rfl (fun _ _ => rfl) (Stays.refl _) (by simp [Blk.rows]) rfl (fun i' row' hi' => by
    simp only [Blk.rows, Blk.es] at hi' ⊢
    rw [List.getElem?_set] at hi'
    by_cases hii : i = i'
    · subst hii
      simp only [hil, if_true, Option.some.injEq] at hi'
      subst hi'
      obtain ⟨q1, q2⟩ := p3 i row hi
      refine ⟨by rw [List.length_set]; exact q1, fun j' x hj' => ?_⟩
      rw [List.getElem?_set] at hj'
      by_cases hjj : j = j'
      · subst hjj
        simp only [hjl, if_true, Option.some.injEq] at hj'
        subst hj'
        obtain ⟨u, r1, r2⟩ := q2 j _ hj
        refine ⟨u, r1, ?_⟩
        obtain rfl := GRep_nil r2
        refine ⟨by simp, rfl, fun blk hbk hl => ?_⟩
        rw [List.getElem?_append_right (Nat.le_refl _)] at hbk
        simp at hbk
        subst hbk
        exact ⟨rfl, fun c' hc => (by cases hc), .inl ⟨if_pos rfl, rfl⟩⟩
      · simp only [hjj, if_false] at hj'
        exact q2 j' x hj'
    · simp only [hii, if_false] at hi'
      exact p3 i' row' hi')
  rw [List.set_append_left _ _ hbm] at hw
  exact ⟨_, g1.trans hw.1 (fun _ _ h => h), hw.2⟩
/-- A nil slice in a slot is a row of its own. -/
theorem Now.own (h : Now lo E0 m0 w0 E m w ts a) {t es : Nat} (ht : ts[t]? = some (.one (.c (.g .nil)))) : Now lo E0 m0 w0 (E.add m.length none) (m ++ [.sym es []]) w (ts.set t (.one (.c (.row m.length es none)))) a := by
  obtain ⟨g, s⟩ := add_grow (Wt := fun _ => True) (w' := w) h.sat (blk := .sym es []) (r := none) (Nat.le_refl _) rfl rfl rfl (Stays.refl _) (fun _ _ => rfl) (fun _ _ h => by cases h) (fun _ => .inl ⟨rfl, rfl⟩)
  refine ⟨⟨s, ⟨by rw [List.length_set]; exact h.ts.1, fun q x hq => ?_⟩, h.defers.step g.toStep⟩, h.grow.trans g (fun _ _ h => h), h.fresh⟩
  rw [List.getElem?_set] at hq
  by_cases htq : t = q
  · subst htq
    have hlt : t < ts.length := (List.getElem?_eq_some_iff.1 ht).1
    simp only [hlt, if_true, Option.some.injEq] at hq
    subst hq
    have hu : a.tmps.getD t undef = .slice none 0 0 := by
      have h0 := h.ts.2 t _ ht
      rcases h0 with h0 | h0
      · cases h0
      · generalize a.tmps.getD t undef = u at h0
        cases h0
        rfl
    refine .inr ⟨by simp, by rw [hu]; rfl, fun blk hb hl => ?_⟩
    rw [List.getElem?_append_right (Nat.le_refl _)] at hb
    simp at hb
    subst hb
    exact ⟨rfl, fun c' hc => (by cases hc), .inl ⟨if_pos rfl, hu⟩⟩
  · simp only [htq, if_false] at hq
    exact (h.ts.2 q x hq).step g.toStep
inductive LoopHolds (P : Program) (I : Ints) (p : Nat) (x : X) (ts : List A) (m : Mem) (k : Ex → List A → Mem → Tree) : Prop where
  | mk (Inv : Nat → List A → Mem → Prop) (n : Nat) (ts0 : List A) (m0 : Mem) (σ fz : List Nat) (keep : List Nat)
      (hσ : σ.Nodup) (hp : σ.take p = List.range p) (ht : ts0 = ((maskT keep 0 ts).map (A.inv I σ (.frz fz) m)).map A.sy) (hm : m0 = (invMem I σ (.frz fz) m).map Blk.sy) (h0 : Inv n ts0 m0)
      (h : ∀ (n : Nat) (ts : List A) (m : Mem), Inv n ts m → Holds P I p (ev I x ts m fun e ts m => match e with
          | .normal => .goal (∃ (n' : Nat) (ts1 : List A) (m1 : Mem) (σ fz : List Nat) (keep : List Nat), n' < n ∧ σ.Nodup ∧ σ.take p = List.range p ∧ ts1 = ((maskT keep 0 ts).map (A.inv I σ (.frz fz) m)).map A.sy ∧ m1 = (invMem I σ (.frz fz) m).map Blk.sy ∧ Inv n' ts1 m1)
          | .exit i => k (.exit i) ts m
          | .ret => k .ret ts m)) : LoopHolds P I p x ts m k
theorem loop_inv {x : X} {k : Ex → List A → Mem → Tree} : ∀ {T : Tree}, Holds P I p T → ∀ {ts : List A} {m : Mem} {E : Env}, T = .loop x ts m k → Now lo E0 m0 w0 E m w ts a → ∃ E' ts' m', Now lo E0 m0 w0 E' m' w ts' a ∧ LoopHolds P I p x ts' m' k := by
  intro T h
  induction h with
  | loop Inv n ts0 m1 σ fz keep hσ hpσ ht hm h0 h =>
    intro ts m E e hN
    cases e
    exact ⟨E, _, _, hN, .mk Inv n ts0 m1 σ fz keep hσ hpσ ht hm h0 h⟩
  | own t es ht h ih =>
    intro ts m E e hN
    cases e
    exact ih rfl (hN.own ht)
  | ownc b es i j es' rows row hb hi hj h ih =>
    intro ts m E e hN
    cases e
    obtain ⟨E2, g, s⟩ := nil_field (Wt := fun _ => True) hN.sat hb trivial hi hj es'
    exact ih rfl ⟨⟨s, hN.ts.step g.toStep, hN.defers.step g.toStep⟩, hN.grow.trans g (fun _ _ h => h), hN.fresh⟩
  | _ => intro ts m E e; cases e
theorem Now.tidy2 (hI : I = ints) (h : Now lo E0 m0 w0 E m w ts a) {σ fz keep : List Nat} (hσ : σ.Nodup) (hp : σ.take m0.length = List.range m0.length) : ∃ E', Now lo E0 m0 w0 E' (invMem I σ (.frz fz) m) w ((maskT keep 0 ts).map (A.inv I σ (.frz fz) m)) a ∧
    (∀ i b, σ[i]? = some b → E'.ρ i = E.ρ b) ∧ (∀ k, E'.F k → E.F k ∨ ∃ b blk x, m[b]? = some blk ∧ blk.live ∧ E.ρ b = some (k, x)) ∧ (∀ k, E'.B k → E.B k) := by
  have hfz : ∀ l, How.frz fz = .frz l → ∀ b ∈ l, b ∉ σ → b ∈ fz.filter (fun b => !σ.contains b) := fun l e b hb hn => by
    cases e
    simp [hb, hn]
  have hB : ∀ es, How.frz fz = .bor es → ∀ b, b ∉ σ → (fun _ : Nat => False) b := fun es e => by cases e
  have hfσ : ∀ b ∈ fz.filter (fun b => !σ.contains b), b ∉ σ := fun b hb => by
    simp at hb
    exact hb.2
  have hsh := inv_shape (I := I) σ (.frz fz) m
  have hv : ∀ v u, ARep E m w v u → ARep (E.ren m σ (fz.filter (fun b => !σ.contains b)) (fun _ => False)) (invMem I σ (.frz fz) m) w (v.inv I σ (.frz fz) m) u := fun v u hv => ARep.inv hI h.sat hfz hB hsh hv
  refine ⟨E.ren m σ (fz.filter (fun b => !σ.contains b)) (fun _ => False), ⟨⟨Sat.inv hI h.sat hσ hfz hB (fun _ h => h.elim) hfσ, ⟨by simp [mask_len, h.ts.1], fun i x hi => ?_⟩, h.defers.mono (fun _ h => .inl h) (fun _ _ => rfl)⟩, renw_grow hI h.grow h.sat hp _, h.fresh⟩, fun i b hb => by simp [Env.ren, hb], fun k hk => hk.imp id (fun ⟨b, blk, x, h1, h2, _, h4⟩ => ⟨b, blk, x, h1, h2, h4⟩), fun k hk => hk.elim id (fun ⟨_, _, _, _, _, h, _⟩ => h.elim)⟩
  rw [List.getElem?_map] at hi
  cases hq : (maskT keep 0 ts)[i]? with
  | none => simp [hq] at hi
  | some y =>
    simp [hq] at hi
    subst hi
    rcases mask_get keep ts 0 i y hq with rfl | hy
    · exact any_rep _
    · exact hv _ _ (h.ts.2 i y hy)
/-! ### Ranges over maps -/
theorem heap_setI {w : World} {r k : Nat} {o : Obj} : ({ w with heap := w.heap.setIfInBounds r o } : World).heap[k]? = if r = k ∧ r < w.heap.size then some o else w.heap[k]? := by
  show (w.heap.setIfInBounds r o)[k]? = _
  rw [Array.getElem?_setIfInBounds]
  by_cases h1 : r = k
  · subst h1
    by_cases h2 : r < w.heap.size
    · simp [h2]
    · simp [h2]
  · simp [h1]
/-- 'next', the map as it was when the loop began. -/
theorem run_next_at (w : World) (ty : TypeId) (r bm since : Nat) (seen : Array Nat) (es : Array MapEntry) (hr : w.heap[r]? = some (.mapIter (some bm) since seen since)) (hb : w.heap[bm]? = some (.map es since)) (hold : ∀ x ∈ es.toList, x.born < since) :
    ((leftOf es seen).size = 0 ∧ (Instr.next (.pointer (some ⟨r, 0, none⟩)) false ty).run P w = .ok (.tuple #[.bool false]) w) ∨
    ∃ e ∈ (leftOf es seen).toList, ∃ w1 : World, (w1 = w ∨ w1 = w.drew) ∧ (Instr.next (.pointer (some ⟨r, 0, none⟩)) false ty).run P w = .ok (.tuple #[.bool true, e.key, e.val]) { w1 with heap := w1.heap.setIfInBounds r (.mapIter (some bm) since (seen.push e.born) since) } := by
  simp only [Instr.next, getObj, Sem.run_bind, Sem.run, hr, hb, Result.andThen, next_test_false seen es since since hold (Nat.le_refl _), Bool.false_eq_true, if_false]
  unfold leftOf
  have hmem : ∀ x ∈ (Array.filter (fun e => !seen.contains e.born) es).toList, x.born < since := fun x hx => hold x (by simp at hx ⊢; exact hx.1)
  generalize Array.filter (fun e => !seen.contains e.born) es = L at hmem ⊢
  have e1 : L.filter (fun x => decide (x.born < since)) = L := Array.filter_eq_self.2 (fun x hx => by simpa using hmem x (by simpa using hx))
  have e2 : L.filter (fun x => decide (x.born ≥ since)) = #[] := by
    rw [Array.filter_eq_empty_iff]
    intro x hx
    have := hmem x (by simpa using hx)
    simp
    omega
  simp only [e1, e2, Array.append_empty]
  by_cases h0 : L.size = 0
  · left
    have : L = #[] := Array.eq_empty_of_size_eq_zero h0
    subst this
    refine ⟨rfl, ?_⟩
    simp [choose, Sem.run, Question.forced]
  · right
    have hne : L.isEmpty = false := by simp [Array.isEmpty, h0]
    simp only [hne, Bool.false_eq_true, if_false, Array.empty_append, Array.size_map]
    have hch : ∃ (j : Nat) (w1 : World), j < L.size ∧ (w1 = w ∨ w1 = w.drew) ∧ (choose (Question.mapNext L.size)).run P w = .ok j w1 := by
      by_cases hf : L.size ≤ 1
      · exact ⟨0, w, by omega, .inl rfl, by simp [choose, Sem.run, Question.forced, hf]⟩
      · exact ⟨_, w.drew, Nat.mod_lt _ (by omega), .inr rfl, by
          simp only [choose, Sem.run, Question.forced, decide_eq_true_eq, hf, if_false, Question.cut]
          rfl⟩
    obtain ⟨j, w1, hj, hw1, hrun⟩ := hch
    have hr1 : w1.heap[r]? = some (.mapIter (some bm) since seen since) := by rcases hw1 with rfl | rfl <;> exact hr
    refine ⟨L[j], by simp, w1, hw1, ?_⟩
    have hset : ∀ o' : Obj, (setObj r o').run P w1 = .ok () ({ w1 with heap := w1.heap.setIfInBounds r o' } : World) := fun o' => by
      simp only [setObj, Sem.run, hr1]
    simp only [hrun, Array.getElem?_map, Array.getElem?_eq_getElem hj, Option.map_some, Sem.run_bind, hset, Result.andThen]
    rfl
theorem run_entry_at (w : World) (r bm since : Nat) (seen : Array Nat) (es : Array MapEntry) (e : MapEntry) (hr : w.heap[r]? = some (.mapIter (some bm) since (seen.push e.born) since)) (hb : w.heap[bm]? = some (.map es since)) (he : e ∈ es.toList) (hn : (es.toList.map (·.born)).Nodup) :
    (Instr.entry (.pointer (some ⟨r, 0, none⟩))).run P w = .ok (.tuple #[e.key, e.val]) w := by
  have hf : es.find? (·.born == e.born) = some e := by rw [← Array.find?_toList]; exact find_born e es.toList hn he
  simp only [Instr.entry, getObj, Sem.run_bind, Sem.run, hr, hb, Result.andThen, Array.back?_push, bne_self_eq_false, Bool.false_eq_true, if_false, hf]
  rfl
/-- The iterator alone is turned. -/
theorem Now.turn (h : Now lo E0 m0 w0 E m w ts a) {r : Nat} {o o' : Obj} (hr : w.heap[r]? = some o) (ho : ∀ es c, o ≠ .map es c) (hc : ∀ x : Addr, x.block = r → w.cell? x = none) (h0 : w0.heap.size ≤ r) (hF : ¬ E.F r) (hB : ¬ E.B r)
    (hl : ∀ id blk x, m[id]? = some blk → blk.live → E.ρ id ≠ some (r, x)) : Now lo E0 m0 w0 E m { w with heap := w.heap.setIfInBounds r o' } ts a := by
  have hsame : ∀ k, k ≠ r → ({ w with heap := w.heap.setIfInBounds r o' } : World).heap[k]? = w.heap[k]? := fun k hk => by
    rw [heap_setI, if_neg (fun e => hk e.1.symm)]
  have hst : Stays w { w with heap := w.heap.setIfInBounds r o' } := by
    refine ⟨fun x hx => ?_, fun a_ es c hm => ?_⟩
    · have hne : x.block ≠ r := fun e => by rw [hc x e] at hx; cases hx
      exact ⟨by rw [World.cell?_of_block (hsame _ hne)]; exact hx, World.frozen?_of_block (hsame _ hne)⟩
    · have hne : a_ ≠ r := fun e => by
        rw [e, hr] at hm
        exact ho es c (Option.some.inj hm)
      exact ⟨es, c, (hsame _ hne).trans hm, fun i e h => ⟨e, h, rfl, rfl⟩⟩
  have hfr : ∀ k, E.F k ∨ E.B k → ({ w with heap := w.heap.setIfInBounds r o' } : World).heap[k]? = w.heap[k]? := fun k hk => hsame k (fun e => by subst e; exact hk.elim hF hB)
  have step : Step E m w E m { w with heap := w.heap.setIfInBounds r o' } := { Step.refl E m w with frz := hfr, stays := hst }
  refine ⟨⟨⟨fun id blk hb hlv => ?_, h.sat.inj, h.sat.dis, fun k hk => by simpa using h.sat.old k hk, fun id ag l hb => ?_⟩, h.ts.step step, h.defers.step step⟩, ?_, h.fresh.mono (by simp)⟩
  · rcases h.sat.rep id blk hb hlv with h1 | ⟨a_, base, e, g1, g2, g3⟩
    · exact .inl h1
    · rw [e]
      exact BRep.step_rep step (hsame a_ (fun q => hl id blk base hb hlv (by rw [e, q]))) (by simp) (fun _ => .inr ⟨a_, base, rfl, g1, g2, g3⟩) hlv
  · obtain ⟨a_, e, hlt, hm⟩ := h.sat.maps id ag l hb
    exact ⟨a_, e, by simpa using hlt, MapAt.step (fun _ h => h) (fun k hk => hfr k (.inl hk)) (hsame a_ (fun q => hl id _ 0 hb trivial (by rw [e, q]))) hm⟩
  · have hg := h.grow
    exact { hg with
      frz := fun k hk => (hsame k (fun e => by subst e; exact hk.elim (fun q => hF (hg.F _ q)) (fun q => hB (hg.B _ q)))).trans (hg.frz k hk)
      stays := hg.stays.trans hst
      size := by simpa using hg.size
      block := fun k hk hn => (hsame k (by omega)).trans (hg.block k hk hn)
      os := hg.os, tape := hg.tape, output := hg.output }
theorem notRow_cell {b' : Nat} {blk0 : Blk} {E' : Env} {m1 : Mem} {w' : World} {x : C} {u : Value} (hn : x.notRow b' = true) (hx : CRep E' m1 w' x u) : CRep E' (m1.set b' blk0) w' x u := by
  cases x with
  | any => exact hx
  | g x => exact hx
  | bor es l => exact hx
  | gp row j => exact hx
  | ptr b i es j => exact ⟨by rw [List.length_set]; exact hx.1, hx.2⟩
  | row b es cap =>
    have hbb : ¬ b = b' := by simpa [C.notRow] using hn
    refine ⟨by rw [List.length_set]; exact hx.1, hx.2.1, fun blk hk hl => hx.2.2 blk ?_ hl⟩
    rw [List.getElem?_set, if_neg (fun e => hbb e.symm)] at hk
    exact hk
  | sl b i es n cap =>
    have hbb : ¬ b = b' := by simpa [C.notRow] using hn
    refine ⟨by rw [List.length_set]; exact hx.1, hx.2.1, fun blk hk hl => hx.2.2 blk ?_ hl⟩
    rw [List.getElem?_set, if_neg (fun e => hbb e.symm)] at hk
    exact hk
  | fn f l => exact let ⟨us, h1, h2, h3⟩ := hx; ⟨us, h1, h2, fun i b es j hi => ⟨by rw [List.length_set]; exact (h3 i b es j hi).1, (h3 i b es j hi).2⟩⟩
  | map b => exact ⟨by rw [List.length_set]; exact hx.1, hx.2⟩
  | stamp b z => exact ⟨by rw [List.length_set]; exact hx.1, hx.2⟩
theorem notRow_v {b' : Nat} {blk0 : Blk} {E' : Env} {m1 : Mem} {w' : World} {x : V1} {u : Value} (hn : x.notRow b' = true) (hx : V1Rep E' m1 w' x u) : V1Rep E' (m1.set b' blk0) w' x u := by
  cases x with
  | c x => exact hx.imp id (notRow_cell hn)
  | agg l =>
    obtain ⟨cs, h1, h2, h3⟩ := hx
    exact ⟨cs, h1, h2, fun i x hi => let ⟨u, h4, h5⟩ := h3 i x hi; ⟨u, h4, notRow_cell (List.all_eq_true.1 hn x (List.mem_of_getElem? hi)) h5⟩⟩
theorem notRow_a {b' : Nat} {blk0 : Blk} {E' : Env} {m1 : Mem} {w' : World} {x : A} {u : Value} (hn : x.notRow b' = true) (hx : ARep E' m1 w' x u) : ARep E' (m1.set b' blk0) w' x u := by
  cases x with
  | one v => exact notRow_v hn hx
  | tup l =>
    obtain ⟨cs, h1, h2, h3⟩ := hx
    exact ⟨cs, h1, h2, fun i x hi => let ⟨u, h4, h5⟩ := h3 i x hi; ⟨u, h4, notRow_v (List.all_eq_true.1 hn x (List.mem_of_getElem? hi)) h5⟩⟩
/-- A map that a stretch had not is there again. -/
theorem restore {b' : Nat} {ag : Option Nat} {l : List (List G)} {E' : Env} {m1 : Mem} {w' : World} (hs : Sat E m w) (hb : m[b']? = some (.mp ag l)) (hs' : Sat E' m1 w') (hn : m1.all (Blk.notRow b') = true) (hg : Grow (fun _ => True) E (m.set b' .dead) w E' m1 w') :
    Sat E' (m1.set b' (.mp ag l)) w' ∧ Grow (fun _ => True) E m w E' (m1.set b' (.mp ag l)) w' := by
  obtain ⟨bm, hρ, hlt, hma⟩ := hs.maps b' ag l hb
  have hbl : b' < m.length := (List.getElem?_eq_some_iff.1 hb).1
  have hl1 : m.length ≤ m1.length := by have := hg.len; simpa using this
  have hnf : ¬ Foot (fun _ => True) E (m.set b' .dead) bm := by
    rintro ⟨id, blk, x, h1, h2, _, h4⟩
    rw [List.getElem?_set] at h1
    split at h1
    · cases h1
      exact h2
    · rename_i hne
      exact hne (hs.inj b' id _ blk bm 0 x hb h1 trivial h2 hρ h4)
  have hsame : w'.heap[bm]? = w.heap[bm]? := hg.block bm hlt hnf
  have hρ' : E'.ρ b' = some (bm, 0) := (hg.ρ b' (by simpa using hbl)).trans hρ
  have hd1 : ∀ blk, m1[b']? = some blk → ¬ blk.live := fun blk h hl => by
    obtain ⟨blk0, h1, h2, _⟩ := hg.shape b' blk (by simpa using hbl) h hl
    rw [List.getElem?_set, if_pos rfl, if_pos hbl] at h1
    cases h1
    exact h2
  have hno : ∀ id blk x, m1[id]? = some blk → blk.live → E'.ρ id = some (bm, x) → False := fun id blk x h1 h2 h3 => by
    rcases Nat.lt_or_ge id m.length with hid | hid
    · obtain ⟨blk0, g1, g2, _⟩ := hg.shape id blk (by simpa using hid) h1 h2
      exact hnf ⟨id, blk0, x, g1, g2, trivial, (hg.ρ id (by simpa using hid)).symm.trans h3⟩
    · rcases hg.newρ id bm x blk (by simpa using hid) h1 h2 h3 with h4 | h4
      · omega
      · exact hnf h4
  have hF' : ¬ E'.F bm ∧ ¬ E'.B bm := by
    obtain ⟨d1, d2⟩ := hs.dis b' _ bm 0 hb trivial hρ
    refine ⟨fun h => ?_, fun h => d2 (hg.B' _ h)⟩
    rcases hg.newF bm h with h1 | h1 | h1
    · exact d1 h1
    · omega
    · exact hnf h1
  have get : ∀ (id : Nat) (blk : Blk), (m1.set b' (.mp ag l))[id]? = some blk → (id = b' ∧ blk = .mp ag l) ∨ (id ≠ b' ∧ m1[id]? = some blk) := fun id blk h => by
    rw [List.getElem?_set] at h
    split at h
    · rename_i e
      split at h
      · cases h; exact .inl ⟨e.symm, rfl⟩
      · cases h
    · rename_i e
      exact .inr ⟨fun q => e q.symm, h⟩
  have hma' : MapAt w' E'.F ag l bm := hma.step hg.F (fun k hk => hg.frz k (.inl hk)) hsame
  have hlt' : bm < w'.heap.size := Nat.lt_of_lt_of_le hlt hg.size
  have hm1l : b' < m1.length := by omega
  refine ⟨⟨fun id blk hk hl => ?_, fun i j bi bj c x y hi hj li lj ei ej => ?_, fun i bi c x hi li ei => ?_, hs'.old, fun id ag1 l1 hk => ?_⟩, ?_⟩
  · rcases get id blk hk with ⟨rfl, rfl⟩ | ⟨hne, hk⟩
    · exact .inr ⟨bm, 0, hρ', fun j hj => by simp [Blk.rows] at hj, hlt', fun i row hi => by simp [Blk.rows] at hi⟩
    · rcases hs'.rep id blk hk hl with h1 | ⟨a_, base, e, g1, g2, g3⟩
      · exact .inl h1
      · refine .inr ⟨a_, base, e, g1, g2, fun i row hi => ⟨(g3 i row hi).1, fun j x hj => ?_⟩⟩
        obtain ⟨u, q1, q2⟩ := (g3 i row hi).2 j x hj
        refine ⟨u, q1, notRow_cell ?_ q2⟩
        have hbn := List.all_eq_true.1 hn blk (List.mem_of_getElem? hk)
        cases blk with
        | dead => exact hl.elim
        | lit es rows => exact List.all_eq_true.1 (List.all_eq_true.1 hbn row (List.mem_of_getElem? hi)) x (List.mem_of_getElem? hj)
        | sym es l =>
          simp only [Blk.rows, List.getElem?_map] at hi
          obtain ⟨r, hr, rfl⟩ := Option.map_eq_some_iff.1 hi
          rw [List.getElem?_map] at hj
          obtain ⟨g, hg', rfl⟩ := Option.map_eq_some_iff.1 hj
          rfl
        | mp _ _ => simp [Blk.rows] at hi
  · rcases get i bi hi with ⟨ei', rfl⟩ | ⟨hne1, hi'⟩ <;> rcases get j bj hj with ⟨ej', rfl⟩ | ⟨hne2, hj'⟩
    · exact ei'.trans ej'.symm
    · rw [ei', hρ'] at ei
      cases ei
      exact (hno j bj y hj' lj ej).elim
    · rw [ej', hρ'] at ej
      cases ej
      exact (hno i bi x hi' li ei).elim
    · exact hs'.inj i j bi bj c x y hi' hj' li lj ei ej
  · rcases get i bi hi with ⟨rfl, rfl⟩ | ⟨hne1, hi⟩
    · rw [hρ'] at ei
      cases ei
      exact hF'
    · exact hs'.dis i bi c x hi li ei
  · rcases get id _ hk with ⟨rfl, e⟩ | ⟨hne, hk⟩
    · cases e
      exact ⟨bm, hρ', hlt', hma'⟩
    · exact hs'.maps id ag1 l1 hk
  · have old : ∀ (id : Nat) (blk : Blk), (m.set b' .dead)[id]? = some blk → blk.live → m[id]? = some blk := fun id blk h hl => by
      rw [List.getElem?_set] at h
      split at h
      · cases h
        exact hl.elim
      · exact h
    have foot : ∀ k, Foot (fun _ => True) E (m.set b' .dead) k → Foot (fun _ => True) E m k := fun k ⟨id, blk, x, h1, h2, h3, h4⟩ => ⟨id, blk, x, old id blk h1 h2, h2, h3, h4⟩
    exact { F := hg.F, B := hg.B, ρ := fun id hid => hg.ρ id (by simpa using hid), len := by rw [List.length_set]; exact hl1
            shape := fun id blk' hid hk hl => by
              rcases get id blk' hk with ⟨rfl, rfl⟩ | ⟨hne, hk⟩
              · exact ⟨_, hb, trivial, rfl, rfl⟩
              · obtain ⟨blk0, q1, q2, q3, q4⟩ := hg.shape id blk' (by simpa using hid) hk hl
                exact ⟨blk0, old id blk0 q1 q2, q2, q3, q4⟩
            frz := hg.frz, stays := hg.stays, B' := hg.B', os := hg.os, tape := hg.tape, output := hg.output, size := hg.size
            block := fun k hk hnf => hg.block k hk (fun h => hnf (foot k h))
            newF := fun k hk => (hg.newF k hk).imp id (fun h => h.imp id (foot k))
            newρ := fun id a_ x blk h1 h2 h3 h4 => by
              rcases get id blk h2 with ⟨rfl, _⟩ | ⟨_, h2⟩
              · omega
              · exact (hg.newρ id a_ x blk (by simpa using h1) h2 h3 h4).imp (fun h => h) (foot a_) }
/-- Places where ways meet. -/
theorem join_sim {c : Code} {x : X} (hI : I = ints) (hp : m0.length = p)
    (plain : ∀ {E : Env} {m : Mem} {w : World} {ts : List A} {a : Act} {k : Ex → List A → Mem → Tree} {Q : Exit → Act → World → Prop}, (∀ c d v a w, Q (.panic c) (Act.put a d v) w → Q (.panic c) a w) →
      Now lo E0 m0 w0 E m w ts a → Holds P I p (ev I x ts m k) → (∀ e ts' m' E' w' a', Holds P I p (k e ts' m') → Now lo E0 m0 w0 E' m' w' ts' a' → Q e.out a' w') → c.wp P Q a w)
    {E : Env} {m : Mem} {w : World} {ts : List A} {a : Act} {k : Ex → List A → Mem → Tree} {Q : Exit → Act → World → Prop} (hQ : ∀ c d v a w, Q (.panic c) (Act.put a d v) w → Q (.panic c) a w)
    (hN : Now lo E0 m0 w0 E m w ts a) (h : Holds P I p (.join x ts m k)) (hK : ∀ e ts' m' E' w' a', Holds P I p (k e ts' m') → Now lo E0 m0 w0 E' m' w' ts' a' → Q e.out a' w') : c.wp P Q a w := by
  cases h with
  | pass h => exact plain hQ hN h hK
  | join Post h1 h2 =>
    subst hp
    refine plain hQ hN h1 (fun e ts' m' E' w' a' hk hN' => ?_)
    cases e with
    | normal =>
      cases hk with
      | goal hk =>
      obtain ⟨ts1, m1, σ, fz, keep, hσ, hpσ, ht, hm, hi⟩ := hk
      obtain ⟨E2, hN2, -⟩ := Now.tidy (keep := keep) hI hN' (fz := fz) hσ hpσ
      replace hN2 := hN2.sy
      rw [← ht, ← hm] at hN2
      exact hK .normal _ _ _ _ _ (h2 _ _ hi) hN2
    | exit i => exact hK (.exit i) _ _ _ _ _ hk hN'
    | ret => exact hK .ret _ _ _ _ _ hk hN'
theorem rangeAt_inv {b c : Code} {q : RQ} (h : rangeAt b c = some q) : ∃ (r0 r1 r2 id : Nat) (ops1 : Array Oper) (o1 o2 o3 : Oper), b = .region r0 q.ops0 false ∧ c = .block id (.loop (.seq (.region r1 ops1 false) (.seq (.cond (.tmp q.tok) .skip (.exit id)) (.block q.b7 (.seq (.region r2 q.ops2 false) q.rest))))) ∧
    q.ops0.toList = q.pre ++ [q.o0] ∧ ops1.toList = [o1, o2] ∧ q.ops2.toList = o3 :: q.tl ∧ (q.o0.op = .range q.T q.x ∧ q.o0.dst = some q.it ∧ q.o0.guard = none) ∧ (o1.op = .next (.tmp q.it) false ∧ o1.dst = some q.t1 ∧ o1.guard = none) ∧ (o2.op = .extract (.tmp q.t1) 0 ∧ o2.dst = some q.tok ∧ o2.guard = none) ∧
    (o3.op = .entry (.tmp q.it) ∧ o3.dst = some q.t2 ∧ o3.guard = none) ∧ q.t1 ≠ q.it ∧ q.tok ≠ q.it ∧ q.t2 ≠ q.it ∧ q.t1 ≠ q.tok := by
  unfold rangeAt at h
  split at h
  · rename_i r0 ops0 id r1 ops1 tok id' b7 r2 ops2 rest
    split at h
    · rename_i o0 o1 o2 o3 tl h1 h2 h3
      split at h
      · rename_i T x it g1 g2 g3
        split at h
        · rename_i it1 t1 g4 g5 g6
          split at h
          · rename_i t1' tok' g7 g8 g9
            split at h
            · rename_i it2 t2 g10 g11 g12
              split at h
              · rename_i hb
                cases h
                simp only [Bool.and_eq_true, Bool.not_eq_true', beq_iff_eq, beq_eq_false_iff_ne, ne_eq] at hb
                obtain ⟨⟨⟨⟨⟨⟨⟨⟨rfl, rfl⟩, rfl⟩, rfl⟩, rfl⟩, b1⟩, b2⟩, b3⟩, b4⟩ := hb
                have h1' : ops0.toList = ops0.toList.dropLast ++ [o0] := by
                  obtain ⟨l', hl'⟩ := List.getLast?_eq_some_iff.1 h1
                  rw [hl']
                  simp
                exact ⟨r0, r1, r2, _, ops1, o1, o2, o3, rfl, rfl, h1', h2, h3, ⟨g1, g2, g3⟩, ⟨g4, g5, g6⟩, ⟨g7, g8, g9⟩, ⟨g10, g11, g12⟩, b1, b2, b3, b4⟩
              · cases h
            · cases h
          · cases h
        · cases h
      · cases h
    · cases h
  · cases h
theorem ops_sim2 {ops : Array Oper} {Q : Exit → Act → World → Prop} (hI : I = ints) (l2 : List Oper) : ∀ (l : List Oper) (xs : List XO) {E : Env} {m : Mem} {w : World} {ts : List A} {a : Act} {k : List A → Mem → Tree}, compOs P ops l = some xs → Now lo E0 m0 w0 E m w ts a → Holds P I p (evOps I xs ts m k) →
    (∀ ts' m' E' w' a', Holds P I p (k ts' m') → Now lo E0 m0 w0 E' m' w' ts' a' → wpList P ops Q l2 a' w') → wpList P ops Q (l ++ l2) a w
  | [], xs, E, m, w, ts, a, k, hc, hN, h, hK => by
    cases hc
    exact hK _ _ _ _ _ h hN
  | o :: l, xs, E, m, w, ts, a, k, hc, hN, h, hK => by
    simp only [compOs] at hc
    split at hc
    · rename_i x xl hx hl
      cases hc
      refine wpList_step fun K hK' => ?_
      exact one_sim hI hx hN h (fun ts' m' E' w' a' hk hN' _ => hK' _ _ (ops_sim2 hI l2 l xl hl hN' hk hK))
    · cases hc
theorem noPair_inv {ag : Option Nat} {t : Tree} (h : Holds P I p (noPair ag t)) : ag ≠ some 0 ∧ Holds P I p t := by
  unfold noPair at h
  split at h
  · exact (holds_fail h).elim
  · rename_i hag
    exact ⟨fun e => hag e, h⟩
theorem wanted_none {o : Oper} {y : Nat → Option Bool} (h : o.guard = none) : Region.wanted o y = true := by simp [Region.wanted, h]
/-- What a round is told. -/
theorem round_rep {ag : Option Nat} {z : Z} {gs : List G} {e : MapEntry} {us : List Value} (hk : e.key = .int .i64 z.val) (hl : us.length = gs.length) (hg : ∀ (j : Nat) (g : G), gs[j]? = some g → ∃ u, us[j]? = some u ∧ GRep E.F w g u) (hv : match ag with | none => us = [e.val] | some n => e.val = .agg us.toArray ∧ us.length = n) :
    ARep E m w (.tup [.c (.g (.int .i64 z)), rowVal ag gs]) (.tuple #[e.key, e.val]) := by
  refine ⟨_, rfl, rfl, fun i v hi => ?_⟩
  match i with
  | 0 =>
    cases hi
    exact ⟨_, rfl, .inr (by rw [hk]; exact GRep.int .i64 z)⟩
  | 1 =>
    cases hi
    refine ⟨_, rfl, ?_⟩
    cases ag with
    | none =>
      have hv : us = [e.val] := hv
      subst hv
      match gs, hl with
      | [g], _ =>
        obtain ⟨u, h1, h2⟩ := hg 0 g rfl
        cases h1
        exact .inr h2
    | some n =>
      obtain ⟨h1, h2⟩ := hv
      show V1Rep E m w (.agg (gs.map C.g)) e.val
      rw [h1]
      refine ⟨us.toArray, rfl, by simpa using hl, fun i x hi => ?_⟩
      rw [List.getElem?_map] at hi
      obtain ⟨g, hg1, rfl⟩ := Option.map_eq_some_iff.1 hi
      obtain ⟨u, q1, q2⟩ := hg i g hg1
      exact ⟨u, by simpa using q1, q2⟩
  | i + 2 => simp at hi
theorem mloop_sim {j : List Nat} {n : Nat} {b c : Code} {q : RQ} {x : X} (hI : I = ints) (hp : m0.length = p)
    (ih : ∀ y, comp P j n q.rest = some y → ∀ {p : Nat} {E0 : Env} {m0 : Mem} {w0 : World} {E : Env} {m : Mem} {w : World} {ts : List A} {a : Act} {k : Ex → List A → Mem → Tree} {Q : Exit → Act → World → Prop}, m0.length = p → (∀ c d v a w, Q (.panic c) (Act.put a d v) w → Q (.panic c) a w) →
      Now lo E0 m0 w0 E m w ts a → Holds P I p (ev I y ts m k) → (∀ e ts' m' E' w' a', Holds P I p (k e ts' m') → Now lo E0 m0 w0 E' m' w' ts' a' → Q e.out a' w') → q.rest.wp P Q a w)
    (hq : rangeAt b c = some q)
    (hc : (match compOs P q.ops0 q.pre, mapTyI P q.T, opd q.x, compOs P q.ops2 q.tl, comp P j n q.rest with
        | some pre, some _, some mp, some tl, some y => some (X.mloop pre mp q.it q.t1 q.tok q.t2 (.block q.b7 (.seq (.ops tl) y)))
        | _, _, _, _, _ => none) = some x)
    {E : Env} {m : Mem} {w : World} {ts : List A} {a : Act} {k : Ex → List A → Mem → Tree} {Q : Exit → Act → World → Prop} (hQ : ∀ c d v a w, Q (.panic c) (Act.put a d v) w → Q (.panic c) a w)
    (hN : Now lo E0 m0 w0 E m w ts a) (h : Holds P I p (ev I x ts m k)) (hK : ∀ e ts' m' E' w' a', Holds P I p (k e ts' m') → Now lo E0 m0 w0 E' m' w' ts' a' → Q e.out a' w') : (Code.seq b c).wp P Q a w := by
  obtain ⟨r0, r1, r2, id, ops1, o1, o2, o3, rfl, rfl, e0, e1, e2, ⟨p1, p2, p3⟩, ⟨p4, p5, p6⟩, ⟨p7, p8, p9⟩, ⟨p10, p11, p12⟩, n1, n2, n3, n4⟩ := rangeAt_inv hq
  split at hc
  · rename_i pre tz mp tl y c1 c2 c3 c4 c5
    cases hc
    subst hp
    refine wp_seq (wp_region_list ?_)
    rw [e0]
    refine ops_sim2 hI [q.o0] q.pre pre c1 hN h (fun ts m E w a h hN => ?_)
    obtain ⟨cm, hcm, h⟩ := evC_inv c3 hN.toAt h
    split at h
    · rename_i b
      split at h
      · rename_i ag l hb
        obtain ⟨hag, h⟩ := noPair_inv h
        rcases hcm with hcm | ⟨hbl, bm0, base0, hρb, hval⟩
        · cases hcm
        obtain ⟨bm, hρm, hlt, hma⟩ := hN.sat.maps b ag l hb
        have hbb : bm0 = bm := by rw [hρm] at hρb; cases hρb; rfl
        subst hbb
        obtain ⟨es, clock, hes, hsz, hrows, huniq⟩ := hma.ex
        obtain ⟨kt, et, hun⟩ : ∃ kt et, P.underlying q.T = some (.map kt et) := by
          obtain ⟨tag, tzz⟩ := tz
          have c2 := (mapTyI_inv c2).1
          unfold mapTy at c2
          split at c2
          · rename_i kt et hu
            exact ⟨kt, et, hu⟩
          · cases c2
        have hrun : (execOp a.eval q.o0).run P w = .ok (.value (.pointer (some ⟨w.heap.size, 0, none⟩))) (w.alloc (.mapIter (some bm0) clock #[] clock)) := by
          have := run_range_map (P := P) w q.T kt et bm0 es clock hun hes
          simp [execOp, p1, hval, this]
        obtain ⟨w1, hw1⟩ : ∃ w1, w1 = w.alloc (.mapIter (some bm0) clock #[] clock) := ⟨_, rfl⟩
        rw [← hw1] at hrun
        have hold : ∀ k, k < w.heap.size → w1.heap[k]? = w.heap[k]? := fun k hk => by rw [hw1]; exact heap_alloc_old w _ hk
        have hnew : w1.heap[w.heap.size]? = some (.mapIter (some bm0) clock #[] clock) := by rw [hw1]; exact heap_alloc_new w _
        have hsz1 : w1.heap.size = w.heap.size + 1 := by rw [hw1]; simp
        have hg1 := add_grow (Wt := fun _ => True) (w' := w1) hN.sat (blk := .dead) (r := some (w.heap.size, 0)) (by omega) (by rw [hw1]; rfl) (by rw [hw1]; rfl) (by rw [hw1]; rfl) (stays_below hold) hold (fun a_ base e => by cases e; exact Nat.le_refl _) (fun h => h.elim)
        refine wpList_step fun K hK' => ?_
        rw [wanted_none p3]
        show Oper.wp P q.o0 a w K _
        unfold Oper.wp
        rw [hrun]
        refine hK' _ _ ?_
        show Exit.then _ Q .normal _ _
        have hN1 : Now lo E0 m0 w0 (E.add m.length (some (w.heap.size, 0))) (m ++ [.dead]) w1 (ts.set q.it (.one (.c (.ptr m.length (.lit 0) 0 0)))) (a.put q.o0.dst (.pointer (some ⟨w.heap.size, 0, none⟩))) := by
          refine ⟨⟨hg1.2, ?_, (hN.defers.step hg1.1.toStep).put _ _⟩, hN.grow.trans hg1.1 (fun _ _ h => h), (hN.fresh.mono hg1.1.size).put _ _⟩
          rw [p2]
          have hv : ARep (E.add m.length (some (w.heap.size, 0))) (m ++ [.dead]) w1 (.one (.c (.ptr m.length (.lit 0) 0 0))) (.pointer (some ⟨w.heap.size, 0, none⟩)) := Or.inr ⟨by simp, w.heap.size, 0, if_pos rfl, rfl⟩
          exact (hN.ts.step hg1.1.toStep).put hv q.it
        generalize a.put q.o0.dst (.pointer (some ⟨w.heap.size, 0, none⟩)) = a1 at hN1
        have hρ1 : (E.add m.length (some (w.heap.size, 0))).ρ b = some (bm0, 0) := (hg1.1.ρ b hbl).trans hρm
        have hρ2 : (E.add m.length (some (w.heap.size, 0))).ρ m.length = some (w.heap.size, 0) := if_pos rfl
        have hbm1 : w1.heap[bm0]? = some (.map es clock) := (hold bm0 hlt).trans hes
        have hw0 : w0.heap.size ≤ w.heap.size := hN.grow.size
        have hF1 : ¬ (E.add m.length (some (w.heap.size, 0))).F w.heap.size := fun h => Nat.lt_irrefl _ (hN.sat.old _ (.inl h))
        have hB1 : ¬ (E.add m.length (some (w.heap.size, 0))).B w.heap.size := fun h => Nat.lt_irrefl _ (hN.sat.old _ (.inr h))
        have hno1 : ∀ id blk x, (m ++ [Blk.dead])[id]? = some blk → blk.live → (E.add m.length (some (w.heap.size, 0))).ρ id ≠ some (w.heap.size, x) := fun id blk x h1 h2 h3 => by
          rcases get_append h1 with ⟨h4, h5⟩ | ⟨_, rfl⟩
          · exact Nat.lt_irrefl _ (blk_lt hN.sat h5 h2 ((hg1.1.ρ id h4).symm.trans h3))
          · exact h2
        generalize E.add m.length (some (w.heap.size, 0)) = E1 at hN1 hρ1 hρ2 hF1 hB1 hno1
        have hmb1 : (m ++ [Blk.dead])[b]? = some (.mp ag l) := by rw [List.getElem?_append_left hbl]; exact hb
        generalize hR : w.heap.size = r at hnew hw0 hρ2 hF1 hB1 hno1
        have hlb : bm0 ≠ r := by omega
        cases h with
        | mloop Inv ts0 m1 σ fz keep b' bit hσ hpσ hbσ hbtσ ht hm h0 hm1 hbody hend =>
        obtain ⟨E2, hN2, hρr, hFr, hBr⟩ := Now.tidy2 (keep := keep) hI hN1 (fz := fz) hσ hpσ
        replace hN2 := hN2.sy
        rw [← ht, ← hm] at hN2
        have hlast : σ[bit]? = some m.length := by simpa using hbtσ
        have hno2 : ∀ id blk x, m1[id]? = some blk → blk.live → E2.ρ id ≠ some (r, x) := fun i blk x h1 h2 h3 => by
          rw [hm] at h1
          obtain ⟨blk0, h4, rfl⟩ := sy_get h1
          have h5 : blk0.live := (sy_rows blk0).2.2.1 h2
          rw [invMem, List.getElem?_map] at h4
          obtain ⟨b2, h6, rfl⟩ := Option.map_eq_some_iff.1 h4
          have h7 := (inv_rows (I := I) σ (.frz fz) (m ++ [Blk.dead]) ((m ++ [Blk.dead]).getD b2 .dead)).2.2.1 h5
          rw [List.getD_eq_getElem?_getD] at h7
          cases h8 : (m ++ [Blk.dead])[b2]? with
          | none => rw [h8] at h7; exact h7
          | some blk2 =>
            rw [h8] at h7
            exact hno1 b2 blk2 x h8 h7 ((hρr i b2 h6).symm.trans h3)
        have hF2 : ¬ E2.F r := fun h => by
          rcases hFr r h with h1 | ⟨b2, blk, x, h1, h2, h3⟩
          · exact hF1 h1
          · exact hno1 b2 blk x h1 h2 h3
        have hB2 : ¬ E2.B r := fun h => hB1 (hBr r h)
        refine wp_block (wp_loop_ghost (fun nn a w => ∃ ts m E seen, Inv ts m ∧ Now lo E0 m0 w0 E m w ts a ∧ E.ρ b' = some (bm0, 0) ∧ E.ρ bit = some (r, 0) ∧ w.heap[r]? = some (.mapIter (some bm0) clock seen clock) ∧ w.heap[bm0]? = some (.map es clock) ∧ (leftOf es seen).size = nn ∧ ¬ E.F r ∧ ¬ E.B r ∧
            (∀ id blk x, m[id]? = some blk → blk.live → E.ρ id ≠ some (r, x))) _ ⟨ts0, m1, E2, #[], h0, hN2, (hρr b' b hbσ).trans hρ1, (hρr bit m.length hlast).trans hρ2, hnew, hbm1, rfl, hF2, hB2, hno2⟩ ?_)
        clear hN2 hF2 hB2 hno2 hN1 hρ1 hρ2 hF1 hB1 hno1 hnew hbm1 hrun
        rintro nn a w ⟨ts, m, E, seen, hinv, hN, hb1, hbt1, hit, hmp, hleft, hF, hB, hno⟩
        obtain ⟨hmb, hmd, hts, ht1, htok⟩ := hm1 ts m hinv
        obtain ⟨bm', hρ', hlt', hma'⟩ := hN.sat.maps b' ag l hmb
        have hbb : bm' = bm0 := by rw [hb1] at hρ'; cases hρ'; rfl
        subst hbb
        obtain ⟨es', c', hes', hsz', hrows', huniq'⟩ := hma'.ex
        have hee : es' = es ∧ c' = clock := by rw [hmp] at hes'; cases hes'; exact ⟨rfl, rfl⟩
        obtain ⟨rfl, rfl⟩ := hee
        have hrow : ∀ (i : Nat) (e : MapEntry), es'[i]? = some e → ∃ row, l[i]? = some row := fun i e h => by
          have := (Array.getElem?_eq_some_iff.1 h).1
          exact ⟨l[i]'(by omega), List.getElem?_eq_getElem _⟩
        have hborn : ∀ x ∈ es'.toList, x.born < c' := fun x hx => by
          obtain ⟨i, hi⟩ := List.mem_iff_getElem?.1 hx
          have hi' : es'[i]? = some x := by rw [← Array.getElem?_toList]; exact hi
          obtain ⟨row, hrw⟩ := hrow i x hi'
          obtain ⟨z, gs, e, us, _, g2, _, g4, _⟩ := hrows' i row hrw
          rw [hi'] at g2
          cases g2
          exact g4
        have hnodup : (es'.toList.map (·.born)).Nodup := by
          unfold List.Nodup
          rw [List.pairwise_iff_getElem]
          intro i k hi hk hik heq
          have hkl : k < es'.size := by simpa using hk
          have heq : es'[i].born = es'[k].born := by simpa using heq
          have := huniq' i k _ _ (Array.getElem?_eq_getElem (by omega)) (Array.getElem?_eq_getElem hkl) (.inl heq)
          omega
        have hptr : ∀ {E : Env} {m : Mem} {w : World} {ts : List A} {a : Act}, TsRep E m w ts a.tmps → ts[q.it]? = some (.one (.c (.ptr bit (.lit 0) 0 0))) → E.ρ bit = some (r, 0) → a.eval (.tmp q.it) = .pointer (some ⟨r, 0, none⟩) := fun {E m w ts a} h1 h2 h3 => by
          have h4 := h1.2 q.it _ h2
          rcases h4 with h4 | ⟨_, a_, base, h5, h6⟩
          · cases h4
          · rw [h3] at h5
            cases h5
            exact h6
        have hip := hptr hN.ts hts hbt1
        refine wp_seq (wp_region_list ?_)
        rw [e1]
        refine wpList_step fun K hK' => ?_
        rw [wanted_none p6]
        show Oper.wp P o1 a w K _
        unfold Oper.wp
        have hget : ∀ (a : Act) (t : Nat) (v : Value), t < a.tmps.size → (a.put (some t) v).eval (.tmp t) = v := fun a t v h => by
          show (a.tmps.setIfInBounds t v).getD t undef = v
          simp [Array.getD_eq_getD_getElem?, h]
        have hput : ∀ (a : Act) (t s : Nat) (v : Value), t ≠ s → (a.put (some t) v).eval (.tmp s) = a.eval (.tmp s) := fun a t s v h => by
          show (a.tmps.setIfInBounds t v).getD s undef = a.tmps.getD s undef
          simp [Array.getD_eq_getD_getElem?, Array.getElem?_setIfInBounds_ne h]
        have hsz0 : a.tmps.size = ts.length := hN.ts.1
        rcases run_next_at (P := P) w o1.type r bm' c' seen es' hit hmp hborn with ⟨hl0, hrun⟩ | ⟨e, he, w2, hw2, hrun⟩
        · have hrun1 : (execOp a.eval o1).run P w = .ok (.value (.tuple #[.bool false])) w := by simp [execOp, p4, hip, hrun]
          rw [hrun1]
          refine hK' _ _ ?_
          refine wpList_step fun K hK' => ?_
          rw [wanted_none p9]
          show Oper.wp P o2 _ w K _
          unfold Oper.wp
          have hx : (a.put o1.dst (.tuple #[.bool false])).eval (.tmp q.t1) = .tuple #[.bool false] := by rw [p5]; exact hget a q.t1 _ (by omega)
          have hrun2 : (execOp (a.put o1.dst (.tuple #[.bool false])).eval o2).run P w = .ok (.value (.bool false)) w := by simp [execOp, p7, hx]; rfl
          rw [hrun2]
          refine hK' _ _ ?_
          have hxc : ((a.put o1.dst (.tuple #[.bool false])).put o2.dst (.bool false)).eval (.tmp q.tok) = .bool false := by
            rw [p8, p5]
            exact hget _ q.tok _ (by show q.tok < (a.tmps.setIfInBounds _ _).size; simp; omega)
          show (Code.seq _ _).wp P _ _ w
          refine wp_seq (wp_cond (t := false) hxc (wp_exit ?_))
          show if id = id then Q .normal _ w else _
          rw [if_pos rfl]
          refine hK .normal _ _ _ _ _ (hend ts m hinv) ⟨⟨hN.sat, ?_, (hN.defers.put _ _).put _ _⟩, hN.grow, (hN.fresh.put _ _).put _ _⟩
          rw [p5, p8]
          have hv1 : ARep E m w (.tup [.c (.g (.bool (.lit false)))]) (.tuple #[.bool false]) := ⟨_, rfl, rfl, fun i v hi => by
            match i with
            | 0 => cases hi; exact ⟨_, rfl, .inr (GRep.bool (.lit false))⟩
            | i + 1 => simp at hi⟩
          have hv2 : ARep E m w (.one (.c (.g (.bool (.lit false))))) (.bool false) := Or.inr (GRep.bool (.lit false))
          exact (hN.ts.put hv1 q.t1).put hv2 q.tok
        · obtain ⟨heL, hes0⟩ := mem_left he
          have hrun1 : (execOp a.eval o1).run P w = .ok (.value (.tuple #[.bool true, e.key, e.val])) { w2 with heap := w2.heap.setIfInBounds r (.mapIter (some bm') c' (seen.push e.born) c') } := by simp [execOp, p4, hip, hrun]
          rw [hrun1]
          have hNd : Now lo E0 m0 w0 E m w2 ts a ∧ w2.heap = w.heap := by
            rcases hw2 with rfl | rfl
            · exact ⟨hN, rfl⟩
            · exact ⟨hN.drew, rfl⟩
          obtain ⟨hNd, hh2⟩ := hNd
          have hit2 : w2.heap[r]? = some (.mapIter (some bm') c' seen c') := by rw [hh2]; exact hit
          have hrl : r < w2.heap.size := (Array.getElem?_eq_some_iff.1 hit2).1
          have hNt := hNd.turn (o' := .mapIter (some bm') c' (seen.push e.born) c') hit2 (fun _ _ h => by cases h) (fun x hx => by simp [World.cell?, hx, hit2]) hw0 hF hB hno
          obtain ⟨w3, hw3⟩ : ∃ w3 : World, w3 = { w2 with heap := w2.heap.setIfInBounds r (.mapIter (some bm') c' (seen.push e.born) c') } := ⟨_, rfl⟩
          have hr3 : w3.heap[r]? = some (.mapIter (some bm') c' (seen.push e.born) c') := by rw [hw3, heap_setI, if_pos ⟨rfl, hrl⟩]
          have hm3 : w3.heap[bm']? = some (.map es' c') := by rw [hw3, heap_setI, if_neg (fun h => hlb h.1.symm), hh2]; exact hmp
          rw [← hw3] at hNt ⊢
          refine hK' _ _ ?_
          refine wpList_step fun K hK' => ?_
          rw [wanted_none p9]
          show Oper.wp P o2 _ w3 K _
          unfold Oper.wp
          have hx : (a.put o1.dst (.tuple #[.bool true, e.key, e.val])).eval (.tmp q.t1) = .tuple #[.bool true, e.key, e.val] := by rw [p5]; exact hget a q.t1 _ (by omega)
          have hrun2 : (execOp (a.put o1.dst (.tuple #[.bool true, e.key, e.val])).eval o2).run P w3 = .ok (.value (.bool true)) w3 := by simp [execOp, p7, hx]; rfl
          rw [hrun2]
          refine hK' _ _ ?_
          have hxc : ((a.put o1.dst (.tuple #[.bool true, e.key, e.val])).put o2.dst (.bool true)).eval (.tmp q.tok) = .bool true := by
            rw [p8, p5]
            exact hget _ q.tok _ (by show q.tok < (a.tmps.setIfInBounds _ _).size; simp; omega)
          have hv1 : ARep E m w3 (.tup [.c (.g (.bool (.lit true))), .c .any, .c .any]) (.tuple #[.bool true, e.key, e.val]) := ⟨_, rfl, rfl, fun i v hi => by
            match i with
            | 0 => cases hi; exact ⟨_, rfl, .inr (GRep.bool (.lit true))⟩
            | 1 => cases hi; exact ⟨_, rfl, .inl rfl⟩
            | 2 => cases hi; exact ⟨_, rfl, .inl rfl⟩
            | i + 3 => simp at hi⟩
          have hv2 : ARep E m w3 (.one (.c (.g (.bool (.lit true))))) (.bool true) := Or.inr (GRep.bool (.lit true))
          have hts2 : TsRep E m w3 ((ts.set q.t1 (.tup [.c (.g (.bool (.lit true))), .c .any, .c .any])).set q.tok (.one (.c (.g (.bool (.lit true)))))) ((a.put o1.dst (.tuple #[.bool true, e.key, e.val])).put o2.dst (.bool true)).tmps := by
            rw [p5, p8]
            exact (hNt.ts.put hv1 q.t1).put hv2 q.tok
          have hfr2 : Fresh lo w3 ((a.put o1.dst (.tuple #[.bool true, e.key, e.val])).put o2.dst (.bool true)) := (hNt.fresh.put _ _).put _ _
          have hdf2 : DefOK E w3 ((a.put o1.dst (.tuple #[.bool true, e.key, e.val])).put o2.dst (.bool true)) := (hNt.defers.put _ _).put _ _
          have hip2 : ((a.put o1.dst (.tuple #[.bool true, e.key, e.val])).put o2.dst (.bool true)).eval (.tmp q.it) = .pointer (some ⟨r, 0, none⟩) := by
            rw [p5, p8, hput _ _ _ _ n2, hput _ _ _ _ n1]
            exact hip
          generalize ((a.put o1.dst (.tuple #[.bool true, e.key, e.val])).put o2.dst (.bool true)) = a2 at hxc hts2 hdf2 hfr2 hip2
          show (Code.seq _ _).wp P _ _ w3
          refine wp_seq (wp_cond (t := true) hxc (wp_skip ?_))
          show (Code.block _ _).wp P _ _ w3
          refine wp_block (wp_seq (wp_region_list ?_))
          rw [e2]
          refine wpList_step fun K hK' => ?_
          rw [wanted_none p12]
          show Oper.wp P o3 _ w3 K _
          unfold Oper.wp
          have hrun3 : (execOp a2.eval o3).run P w3 = .ok (.value (.tuple #[e.key, e.val])) w3 := by
            have := run_entry_at (P := P) w3 r bm' c' seen es' e hr3 hm3 heL hnodup
            simp [execOp, p10, hip2, this]
          rw [hrun3]
          refine hK' _ _ ?_
          obtain ⟨i, hi⟩ := List.mem_iff_getElem?.1 heL
          have hi' : es'[i]? = some e := by rw [← Array.getElem?_toList]; exact hi
          obtain ⟨row, hrw⟩ := hrow i e hi'
          have hma3 : MapAt w3 E.F ag l bm' := by
            obtain ⟨bm2, q1, _, q3⟩ := hNt.sat.maps b' ag l hmb
            rw [hb1] at q1
            cases q1
            exact q3
          obtain ⟨es3, c3', hes3, _, hrows3, _⟩ := hma3.ex
          have hee : es3 = es' := by rw [hm3] at hes3; cases hes3; rfl
          subst hee
          obtain ⟨z, gs, e', us, rfl, g2, g3, g4, g5, g6, g7⟩ := hrows3 i row hrw
          have hee : e' = e := by rw [hi'] at g2; cases g2; rfl
          subst hee
          have g3 := (kvIs_int hag).1 g3
          rw [vag_id hag] at g7
          have hv3 := round_rep (E := E) (m := m) (w := w3) (ag := ag) g3 g5 g6 g7
          obtain ⟨k1, k2⟩ := kill_grow (Wt := fun _ => True) hNt.sat b'
          have hNB : Now lo E (m.set b' .dead) w3 E (m.set b' .dead) w3 (roundT ts q.t1 q.tok q.t2 ag z gs) (a2.put o3.dst (.tuple #[e'.key, e'.val])) := by
            refine ⟨⟨k2, ?_, hdf2.put _ _⟩, Grow.refl _ _ _ _, hfr2.put _ _⟩
            rw [p11]
            exact (hts2.put hv3 q.t2).step k1.toStep
          have hbd := hbody ts m hinv i z gs hrw
          have hnfr : ¬ Foot (fun _ => True) E (m.set b' .dead) r := by
            rintro ⟨id2, blk, x, h1, h2, _, h4⟩
            rw [List.getElem?_set] at h1
            split at h1
            · split at h1
              · cases h1; exact h2
              · cases h1
            · exact hno id2 blk x h1 h2 h4
          have hnfb : ¬ Foot (fun _ => True) E (m.set b' .dead) bm' := by
            rintro ⟨id2, blk, x, h1, h2, _, h4⟩
            rw [List.getElem?_set] at h1
            split at h1
            · split at h1
              · cases h1; exact h2
              · cases h1
            · rename_i hne
              exact hne (hN.sat.inj b' id2 _ blk bm' 0 x hmb h1 trivial h2 hb1 h4)
          have fin : ∀ {ts' : List A} {m' : Mem} {E' : Env} {w' : World} {a' : Act}, (∃ (ts2 : List A) (m2 : Mem) (σ fz keep : List Nat), σ.Nodup ∧ σ.take m0.length = List.range m0.length ∧ σ[b']? = some b' ∧ σ[bit]? = some bit ∧ ts'.all (A.notRow b') = true ∧ m'.all (Blk.notRow b') = true ∧
              ts2 = ((maskT keep 0 ts').map (A.inv I σ (.frz fz) (m'.set b' (.mp ag l)))).map A.sy ∧ m2 = (invMem I σ (.frz fz) (m'.set b' (.mp ag l))).map Blk.sy ∧ Inv ts2 m2) → Now lo E (m.set b' .dead) w3 E' m' w' ts' a' →
              ∃ n', n' < nn ∧ ∃ ts m E seen, Inv ts m ∧ Now lo E0 m0 w0 E m w' ts a' ∧ E.ρ b' = some (bm', 0) ∧ E.ρ bit = some (r, 0) ∧ w'.heap[r]? = some (.mapIter (some bm') c' seen c') ∧ w'.heap[bm']? = some (.map es3 c') ∧ (leftOf es3 seen).size = n' ∧ ¬ E.F r ∧ ¬ E.B r ∧
                (∀ id blk x, m[id]? = some blk → blk.live → E.ρ id ≠ some (r, x)) := by
            rintro ts' m' E' w' a' ⟨ts2, m2, σ, fz, keep, hσ, hpσ, hs1, hs2, hn1, hn2, rfl, rfl, hi2⟩ hN'
            obtain ⟨s1, s2⟩ := restore hNt.sat hmb hN'.sat hn2 hN'.grow
            have hgg := hN'.grow
            have hbl' : b' < m.length := (List.getElem?_eq_some_iff.1 hmb).1
            have hbtl : bit < m.length := (List.getElem?_eq_some_iff.1 hmd).1
            have hNr : Now lo E0 m0 w0 E' (m'.set b' (.mp ag l)) w' ts' a' := ⟨⟨s1, ⟨hN'.ts.1, fun t x hx => notRow_a (List.all_eq_true.1 hn1 x (List.mem_of_getElem? hx)) (hN'.ts.2 t x hx)⟩, hN'.defers⟩, hNt.grow.trans s2 (fun _ _ h => h), hN'.fresh⟩
            have hρb : E'.ρ b' = some (bm', 0) := (s2.ρ b' hbl').trans hb1
            have hρt : E'.ρ bit = some (r, 0) := (s2.ρ bit hbtl).trans hbt1
            have hr3l : r < w3.heap.size := (Array.getElem?_eq_some_iff.1 hr3).1
            have hnoR : ∀ id blk x, (m'.set b' (.mp ag l))[id]? = some blk → blk.live → E'.ρ id ≠ some (r, x) := fun id2 blk x h1 h2 h3 => by
              rcases Nat.lt_or_ge id2 m.length with hid | hid
              · obtain ⟨blk0, q1, q2, _⟩ := s2.shape id2 blk hid h1 h2
                exact hno id2 blk0 x q1 q2 ((s2.ρ id2 hid).symm.trans h3)
              · rcases s2.newρ id2 r x blk hid h1 h2 h3 with h4 | ⟨id3, blk3, x3, q1, q2, _, q4⟩
                · omega
                · exact hno id3 blk3 x3 q1 q2 q4
            have hFR : ¬ E'.F r := fun h => by
              rcases s2.newF r h with h1 | h1 | ⟨id3, blk3, x3, q1, q2, _, q4⟩
              · exact hF h1
              · omega
              · exact hno id3 blk3 x3 q1 q2 q4
            have hBR : ¬ E'.B r := fun h => hB (s2.B' r h)
            obtain ⟨E4, hN4, hρr, hFr, hBr⟩ := Now.tidy2 (keep := keep) hI hNr (fz := fz) hσ hpσ
            replace hN4 := hN4.sy
            refine ⟨_, ?_, _, _, E4, seen.push e'.born, hi2, hN4, (hρr b' b' hs1).trans hρb, (hρr bit bit hs2).trans hρt, (hgg.block r hr3l hnfr).trans hr3, (hgg.block bm' (Array.getElem?_eq_some_iff.1 hm3).1 hnfb).trans hm3, rfl, fun h => ?_, fun h => hBR (hBr r h), fun id2 blk x h1 h2 h3 => ?_⟩
            · rw [← hleft]
              exact left_shrinks es3 seen e' he
            · rcases hFr r h with h1 | ⟨b2, blk, x, h1, h2, h3⟩
              · exact hFR h1
              · exact hnoR b2 blk x h1 h2 h3
            · obtain ⟨blk0, h4, rfl⟩ := sy_get h1
              have h5 : blk0.live := (sy_rows blk0).2.2.1 h2
              rw [invMem, List.getElem?_map] at h4
              obtain ⟨b2, h6, rfl⟩ := Option.map_eq_some_iff.1 h4
              have h7 := (inv_rows (I := I) σ (.frz fz) (m'.set b' (.mp ag l)) ((m'.set b' (.mp ag l)).getD b2 .dead)).2.2.1 h5
              rw [List.getD_eq_getElem?_getD] at h7
              cases h8 : (m'.set b' (.mp ag l))[b2]? with
              | none => rw [h8] at h7; exact h7
              | some blk2 =>
                rw [h8] at h7
                exact hnoR b2 blk2 x h8 h7 ((hρr id2 b2 h6).symm.trans h3)
          refine ops_sim hI q.tl tl c4 hNB hbd (fun ts' m' E' w' a' hk hN' => ?_)
          refine ih y c5 (by simp) (fun c d v a w hq => ?_) hN' hk (fun e2 ts' m' E' w' a' hk hN' => ?_)
          · exact hQ c d v a w hq
          · cases e2 with
            | normal =>
              cases hk with
              | goal hk => exact fin hk hN'
            | exit i2 =>
              simp only at hk
              split at hk
              · rename_i hei
                show if i2 = q.b7 then _ else _
                rw [if_pos (by simpa using hei)]
                cases hk with
                | goal hk => exact fin hk hN'
              · exact (holds_fail hk).elim
            | ret => exact (holds_fail hk).elim
      · exact (holds_fail h).elim
    · exact (holds_fail h).elim
  · cases hc
theorem ev_sim {j : List Nat} (hI : I = ints) (hmo : P.follows .mixedOrders = true) : ∀ (n : Nat) (c : Code) (x : X), comp P j n c = some x → ∀ {p : Nat} {E0 : Env} {m0 : Mem} {w0 : World} {E : Env} {m : Mem} {w : World} {ts : List A} {a : Act} {k : Ex → List A → Mem → Tree} {Q : Exit → Act → World → Prop}, m0.length = p → (∀ c d v a w, Q (.panic c) (Act.put a d v) w → Q (.panic c) a w) →
    Now lo E0 m0 w0 E m w ts a → Holds P I p (ev I x ts m k) → (∀ e ts' m' E' w' a', Holds P I p (k e ts' m') → Now lo E0 m0 w0 E' m' w' ts' a' → Q e.out a' w') → c.wp P Q a w := by
  intro n
  induction n with
  | zero => intro c x hc; cases hc
  | succ n ih =>
  intro c x hc p E0 m0 w0 E m w ts a k Q hp hQ hN h hK
  cases c with
  | skip => cases hc; exact wp_skip (hK .normal _ _ _ _ _ h hN)
  | region id ops d =>
    cases d
    · obtain ⟨l, hl, rfl⟩ := Option.map_eq_some_iff.1 hc
      exact wp_region_list (ops_sim hI ops.toList l hl hN h (fun ts' m' E' w' a' hk hN' => hK .normal _ _ _ _ _ hk hN'))
    · simp only [comp] at hc
      split at hc
      · rename_i s hns hs
        obtain ⟨l, hl, rfl⟩ := Option.map_eq_some_iff.1 hc
        have plain : ∀ {E : Env} {m : Mem} {w : World} {ts : List A} {a : Act} {k : Ex → List A → Mem → Tree} {Q : Exit → Act → World → Prop}, (∀ c d v a w, Q (.panic c) (Act.put a d v) w → Q (.panic c) a w) →
            Now lo E0 m0 w0 E m w ts a → Holds P I p (ev I (.drawn id l) ts m k) → (∀ e ts' m' E' w' a', Holds P I p (k e ts' m') → Now lo E0 m0 w0 E' m' w' ts' a' → Q e.out a' w') → (Code.region id ops true).wp P Q a w := fun {E m w ts a k Q} hQ hN h hK => by
          cases h with
          | drawn W h =>
          exact wp_region_held (S := Same (some (W, m.length)) E m w.drew) hmo (drawn_sim hI hns hQ (W, m.length) ops.size _ s l hs hl hN.drew h (fun ts' m' E' w' a' hk hN' => hK .normal _ _ _ _ _ hk hN'))
        generalize j.contains (1000 + id) = b9 at h
        cases b9 with
        | false => exact plain hQ hN h hK
        | true => exact join_sim hI hp plain hQ hN h hK
      · cases hc
  | seq b c =>
    simp only [comp] at hc
    split at hc
    · rename_i q hq
      exact mloop_sim hI hp (fun y hy {p E0 m0 w0 E m w ts a k Q} => ih q.rest y hy (p := p) (E0 := E0) (m0 := m0) (w0 := w0) (E := E) (m := m) (w := w) (ts := ts) (a := a) (k := k) (Q := Q)) hq hc hQ hN h hK
    split at hc
    · rename_i x1 x2 h1 h2
      cases hc
      refine wp_seq (ih b x1 h1 hp (Q := Exit.then (c.wp P Q) Q) (fun c d v a w hq => hQ c d v a w hq) hN h (fun e ts' m' E' w' a' hk hN' => ?_))
      cases e with
      | normal => exact ih c x2 h2 hp hQ hN' hk hK
      | exit i => exact hK (.exit i) _ _ _ _ _ hk hN'
      | ret => exact hK .ret _ _ _ _ _ hk hN'
    · cases hc
  | cond C_ b c =>
    simp only [comp] at hc
    split at hc
    · rename_i c0 x1 x2 h0 h1 h2
      cases hc
      have plain : ∀ {E : Env} {m : Mem} {w : World} {ts : List A} {a : Act} {k : Ex → List A → Mem → Tree} {Q : Exit → Act → World → Prop}, (∀ c d v a w, Q (.panic c) (Act.put a d v) w → Q (.panic c) a w) →
          Now lo E0 m0 w0 E m w ts a → Holds P I p (ev I (.cond c0 x1 x2) ts m k) → (∀ e ts' m' E' w' a', Holds P I p (k e ts' m') → Now lo E0 m0 w0 E' m' w' ts' a' → Q e.out a' w') → (Code.cond C_ b c).wp P Q a w := fun {E m w ts a k Q} hQ hN h hK => by
        obtain ⟨t, ht, h⟩ := evB_inv h0 hN.toAt h
        refine wp_cond ht ?_
        cases t
        · exact ih c x2 h2 hp hQ hN h hK
        · exact ih b x1 h1 hp hQ hN h hK
      generalize j.contains (opKey c0) = b9 at h
      cases b9 with
      | false => exact plain hQ hN h hK
      | true => exact join_sim hI hp plain hQ hN h hK
    · cases hc
  | block id b =>
    obtain ⟨x1, h1, rfl⟩ := Option.map_eq_some_iff.1 hc
    have plain : ∀ {E : Env} {m : Mem} {w : World} {ts : List A} {a : Act} {k : Ex → List A → Mem → Tree} {Q : Exit → Act → World → Prop}, (∀ c d v a w, Q (.panic c) (Act.put a d v) w → Q (.panic c) a w) →
        Now lo E0 m0 w0 E m w ts a → Holds P I p (ev I (.block id x1) ts m k) → (∀ e ts' m' E' w' a', Holds P I p (k e ts' m') → Now lo E0 m0 w0 E' m' w' ts' a' → Q e.out a' w') → (Code.block id b).wp P Q a w := fun {E m w ts a k Q} hQ hN h hK => by
      refine wp_block (ih b x1 h1 hp (Q := Exit.inBlock id Q) (fun c d v a w hq => hQ c d v a w hq) hN h (fun e ts' m' E' w' a' hk hN' => ?_))
      cases e with
      | normal => exact hK .normal _ _ _ _ _ hk hN'
      | exit i =>
        show if i = id then Q .normal a' w' else Q (.exit i) a' w'
        simp only at hk
        split at hk
        · rename_i he
          rw [if_pos (by simpa using he)]
          exact hK .normal _ _ _ _ _ hk hN'
        · rename_i he
          rw [if_neg (by simpa using he)]
          exact hK (.exit i) _ _ _ _ _ hk hN'
      | ret => exact hK .ret _ _ _ _ _ hk hN'
    generalize j.contains (2000 + id) = b9 at h
    cases b9 with
    | false => exact plain hQ hN h hK
    | true => exact join_sim hI hp plain hQ hN h hK
  | loop b =>
    obtain ⟨x1, h1, rfl⟩ := Option.map_eq_some_iff.1 hc
    obtain ⟨E, ts, m, hN, h⟩ := loop_inv h rfl hN
    cases h with
    | mk Inv n0 ts0 m1 σ fz keep hσ hpσ ht hm h0 h =>
    subst hp
    obtain ⟨E', hN', -⟩ := Now.tidy (keep := keep) hI hN (fz := fz) hσ hpσ
    replace hN' := hN'.sy
    rw [← ht, ← hm] at hN'
    refine wp_loop_ghost (fun n a w => ∃ ts m E, Inv n ts m ∧ Now lo E0 m0 w0 E m w ts a) n0 ⟨ts0, m1, E', h0, hN'⟩ ?_
    rintro n1 a w ⟨ts, m, E, hi, hN⟩
    refine ih b x1 h1 rfl (Q := Exit.then (fun a' w' => ∃ n', n' < n1 ∧ ∃ ts m E, Inv n' ts m ∧ Now lo E0 m0 w0 E m w' ts a') Q) (fun c d v a w hq => hQ c d v a w hq) hN (h n1 ts m hi) (fun e ts' m' E' w' a' hk hN' => ?_)
    cases e with
    | normal =>
      cases hk with
      | goal hk =>
      obtain ⟨n', ts1, m1, σ, fz, keep, hlt, hσ, hpσ, ht, hm, hi⟩ := hk
      obtain ⟨E2, hN2, -⟩ := Now.tidy (keep := keep) hI hN' (fz := fz) hσ hpσ
      replace hN2 := hN2.sy
      rw [← ht, ← hm] at hN2
      exact ⟨n', hlt, ts1, m1, E2, hi, hN2⟩
    | exit i => exact hK (.exit i) _ _ _ _ _ hk hN'
    | ret => exact hK .ret _ _ _ _ _ hk hN'
  | exit id => cases hc; exact wp_exit (hK (.exit id) _ _ _ _ _ h hN)
  | ret => cases hc; exact wp_ret (hK .ret _ _ _ _ _ h hN)
  | rangeFunc g ps c1 c2 =>
    cases hc
    cases h with
    | rfun R hs hk => exact hs E w a Q hN.toAt fun E' m' w' ts' a' hr hA hg hd => hK .normal _ _ _ _ _ (hk _ _ hr) ⟨hA, hN.grow.trans hg (fun _ _ h => h), Nat.le_trans hN.fresh.1 hg.size, fun D hD => (hd D hD).elim (hN.fresh.2 D) (fun h => Nat.le_trans hN.fresh.1 h)⟩
  | _ => cases hc
end
end Go.Proofs.Ytccfcenhpmdemaa.E
