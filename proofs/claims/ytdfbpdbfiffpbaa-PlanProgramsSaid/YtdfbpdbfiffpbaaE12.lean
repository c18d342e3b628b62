/- Regions, code, functions: what the evaluator shows of a body holds of the call. -/
import Derived.Test.YtdfbpdbfiffpbaaE11
import Derived.RegionTactic
namespace Go.Proofs.Ytdfbpdbfiffpbaa.E
open Go
set_option linter.unusedVariables false
set_option linter.unusedSectionVars false

section
variable {P : Program} {I : Ints} {p : Nat} {E E0 : Env} {m m0 : Mem} {w w0 : World} {ts : List A} {a : Act}
structure Now (E0 : Env) (m0 : Mem) (w0 : World) (E : Env) (m : Mem) (w : World) (ts : List A) (a : Act) : Prop extends At E m w ts a where
  grow : Grow (fun _ => True) E0 m0 w0 E m w
theorem TsRep.putT {tmps : Array Value} (h : TsRep E m w ts tmps) {x : A} {v : Value} (hx : ARep E m w x v) (d : Option Nat) (df : List Deferred) : TsRep E m w (putT ts d x) (Act.put ⟨tmps, df⟩ d v).tmps := by
  cases d with
  | none => exact h
  | some d => exact h.put hx d
theorem skip_rep : ARep E m w (.tup []) undef := ⟨#[], rfl, rfl, fun i x h => by simp at h⟩
theorem any_rep (v : Value) : ARep E m w (.one (.c .any)) v := Or.inl rfl
theorem put_defers (a : Act) (d : Option Nat) (v : Value) : (a.put d v).defers = a.defers := by cases d <;> rfl
theorem At.putT (h : At E m w ts a) {x : A} {v : Value} (hx : ARep E m w x v) (d : Option Nat) : At E m w (putT ts d x) (a.put d v) :=
  ⟨h.sat, h.ts.putT hx d a.defers, by rw [put_defers]; exact h.defers⟩
theorem guard_inv {ops : Array Oper} {o : Oper} {g : Option (Nat × Bool)} {k : Bool → List A → Tree} (hg : tmpOf ops o.guard = some g) (hA : At E m w ts a) (h : Holds P I p (evGuard g ts k)) :
    ∃ t ts', Region.wanted o (yielded ops a.tmps) = t ∧ At E m w ts' a ∧ Holds P I p (k t ts') := by
  unfold tmpOf at hg
  split at hg
  · rename_i e
    cases hg
    exact ⟨true, ts, by simp [Region.wanted, e], hA, h⟩
  · rename_i j b e
    split at hg
    · rename_i t ht
      cases hg
      have key : ∀ b0 : Bool, a.tmps.getD t undef = .bool b0 → Region.wanted o (yielded ops a.tmps) = (b0 == b) := by
        intro b0 hb
        have : a.tmps[t]? = some (.bool b0) := by
          rw [Array.getD_eq_getD_getElem?] at hb
          cases hq : a.tmps[t]? with
          | none => rw [hq] at hb; simp [undef] at hb
          | some v => rw [hq] at hb; simp at hb; rw [hb]
        simp only [Region.wanted, e, yielded, ht, Option.bind_some, this]
        cases b0 <;> cases b <;> rfl
      have hr : ARep E m w (getT ts t) (a.tmps.getD t undef) := opd_rep (X := .tmp t) (x := .tmp t) rfl hA
      unfold evGuard at h
      simp only at h
      split at h
      · rename_i b0 hv
        rw [hv] at hr
        rcases hr with hr | hr
        · cases hr
        · generalize hu : a.tmps.getD t undef = u at hr
          cases hr
          exact ⟨_, ts, key _ hu, hA, h⟩
      · rename_i hv
        rw [hv] at hr
        obtain ⟨us, hu, hz, -⟩ := hr
        refine ⟨false, ts, ?_, hA, h⟩
        have hn : ∀ x, a.tmps[t]? ≠ some (.bool x) := fun x hx => by
          rw [Array.getD_eq_getD_getElem?, hx] at hu
          simp at hu
        simp only [Region.wanted, e, yielded, ht, Option.bind_some]
        cases hq : a.tmps[t]? with
        | none => rfl
        | some v =>
          cases v with
          | bool x => exact absurd hq (hn x)
          | _ => rfl
      · rename_i b0 hv
        have hlt : t < ts.length := by
          rcases Nat.lt_or_ge t ts.length with h' | h'
          · exact h'
          · unfold getT at hv
            rw [List.getD_eq_getElem?_getD, List.getElem?_eq_none h'] at hv
            cases hv
        rw [hv] at hr
        rcases hr with hr | hr
        · cases hr
        · generalize hu : a.tmps.getD t undef = u at hr
          cases hr
          have set : ∀ c : Bool, b0 = c → At E m w (ts.set t (.one (.c (.g (.bool (.lit c)))))) a := by
            rintro c rfl
            refine ⟨hA.sat, ⟨by simpa using hA.ts.1, fun q x hq => ?_⟩, hA.defers⟩
            rw [List.getElem?_set] at hq
            by_cases he : t = q
            · subst he
              simp only [hlt, if_true, Option.some.injEq] at hq
              subst hq
              rw [hu]
              exact .inr (.bool (.lit _))
            · simp only [he, if_false] at hq
              exact hA.ts.2 q x hq
          cases h with
          | br h1 h2 =>
            cases b0
            · exact ⟨_, _, key _ hu, set false rfl, h2 rfl⟩
            · exact ⟨_, _, key _ hu, set true rfl, h1 rfl⟩
      · exact (holds_fail h).elim
    · cases hg
variable {ops : Array Oper} {o : Oper} {Q : Exit → Act → World → Prop}
/-- One operation, in its turn. -/
theorem one_sim {wr : Option (List Nat × Nat)} {xo : XO} {k : List A → Mem → Tree} (hI : I = ints) (hx : compO P ops o = some xo) (hN : Now E0 m0 w0 E m w ts a) (h : Holds P I p (ev1op I false wr xo ts m k)) {K : Act → World → Prop}
    (hK : ∀ ts' m' E' w' a', Holds P I p (k ts' m') → Now E0 m0 w0 E' m' w' ts' a' → Grow (fun b => okW wr b = true) E m w E' m' w' → K a' w') :
    if Region.wanted o (yielded ops a.tmps) = true then o.wp P a w K Q else K (a.put o.dst undef) w := by
  unfold compO at hx
  split at hx
  · rename_i x g hc hg
    cases hx
    obtain ⟨t, ts', ht, hA', h⟩ := guard_inv hg hN.toAt h
    rw [ht]
    cases t
    · exact hK _ _ _ _ _ h ⟨hA'.putT skip_rep o.dst, hN.grow⟩ (Grow.refl _ _ _ _)
    · cases hq : x.quiet
      · refine loud_sim hI hc hq hA' h K (fun av v E' m' w' hk hg hs hr => ?_)
        have step := hg.toStep
        exact hK _ _ _ _ _ hk ⟨⟨hs, (hA'.ts.step step).putT hr o.dst a.defers, by rw [put_defers]; exact hA'.defers⟩, hN.grow.trans hg (fun _ _ _ => trivial)⟩ hg
      · obtain ⟨av, v, hk, hr, hrun⟩ := quiet_sim hI hc hq hA' (fun e => by cases e) h
        show o.wp P a w K Q
        unfold Oper.wp
        rw [hrun w (.inl rfl)]
        exact hK _ _ _ _ _ hk ⟨hA'.putT hr o.dst, hN.grow⟩ (Grow.refl _ _ _ _)
  · cases hx
theorem ops_sim (hI : I = ints) : ∀ (l : List Oper) (xs : List XO) {E : Env} {m : Mem} {w : World} {ts : List A} {a : Act} {k : List A → Mem → Tree}, compOs P ops l = some xs → Now E0 m0 w0 E m w ts a → Holds P I p (evOps I xs ts m k) →
    (∀ ts' m' E' w' a', Holds P I p (k ts' m') → Now E0 m0 w0 E' m' w' ts' a' → Q .normal a' w') → wpList P ops Q l a w
  | [], xs, E, m, w, ts, a, k, hc, hN, h, hK => by
    cases hc
    exact hK _ _ _ _ _ h hN
  | o :: l, xs, E, m, w, ts, a, k, hc, hN, h, hK => by
    simp only [compOs] at hc
    split at hc
    · rename_i x xl hx hl
      cases hc
      refine wpList_step fun K hK' => ?_
      exact one_sim hI hx hN h (fun ts' m' E' w' a' hk hN' _ => hK' _ _ (ops_sim hI l xl hl hN' hk hK))
    · cases hc
theorem wpAnyH_weak {md : Region.Mode} {S S' : World → Prop} (hS : ∀ w, S' w → S w) : ∀ (n : Nat) (l : Array Bool) (a : Act) (w : World), wpAnyH P md ops Q S' n l a w → wpAnyH P md ops Q S n l a w
  | 0, _, _, _, h => h
  | n + 1, l, a, w, h => ⟨h.1, fun i hi => wpOp_mono (fun a' w' h' => ⟨hS _ h'.1, wpAnyH_weak hS n _ a' w' h'.2⟩) (h.2 i hi)⟩
theorem same_trans {wr : Option (List Nat × Nat)} {E' : Env} {m' : Mem} {w' w2 : World} (hg : Grow (fun b => okW wr b = true) E m w E' m' w') (h : Same wr E' m' w' w2) : Same wr E m w w2 := fun k hk hn =>
  (h k (Nat.lt_of_lt_of_le hk hg.size) (fun hf => (hg.foot (fun _ _ h => h) hf).elim (fun h => by omega) hn)).trans (hg.block k hk hn)
theorem manyB_one : ∀ {l : List Nat}, manyB l = false → ∃ j, l = [j]
  | [], h => by cases h
  | [j], _ => ⟨j, rfl⟩
  | _ :: _ :: _, h => by cases h
theorem drawn_sim {bq : Nat} (hI : I = ints) (hns : Region.noSelect ops = true) (hQ : ∀ c d v a w, Q (.panic c) (Act.put a d v) w → Q (.panic c) a w) (wr : List Nat × Nat) : ∀ (n : Nat) (listed : Array Bool) (s : SD) (l : DX) {E : Env} {m : Mem} {w : World} {ts : List A} {a : Act} {k : List A → Mem → Tree},
    sched ops (quiets P ops bq) n listed = some s → compSched P ops s = some l → Now E0 m0 w0 E m w ts a → Holds P I p (evDrawn I wr l ts m k) →
    (∀ ts' m' E' w' a', Holds P I p (k ts' m') → Now E0 m0 w0 E' m' w' ts' a' → Q .normal a' w') → wpAnyH P .any ops Q (Same (some wr) E m w) n listed a w
  | 0, listed, s, l, E, m, w, ts, a, k, hs, hc, hN, h, hK => by
    unfold sched at hs
    split at hs
    · rename_i hr
      cases hs
      cases hc
      exact wpAnyH_done hr (hK _ _ _ _ _ h hN) 0
    · cases hs
  | n + 1, listed, s, l, E, m, w, ts, a, k, hs, hc, hN, h, hK => by
    have one : ∀ (i : Nat) (s' : SD) (li : DX), sched ops (quiets P ops bq) n (listed.setIfInBounds i true) = some s' → compSched P ops (.op i false s') = some li → Holds P I p (evDrawn I wr li ts m k) →
        wpOp P ops Q i (fun a' w' => Same (some wr) E m w w' ∧ wpAnyH P .any ops Q (Same (some wr) E m w) n (listed.setIfInBounds i true) a' w') a w := fun i s' li hs' hc h => by
      simp only [compSched] at hc
      split at hc
      · rename_i o ho
        split at hc
        · rename_i xo l' hx hl
          cases hc
          refine wpOp_step ho fun K hK' => ?_
          exact one_sim hI hx hN h (fun ts' m' E' w' a' hk hN' hg => hK' _ _ ⟨fun k hk hn => hg.block k hk hn, wpAnyH_weak (fun w2 h2 => same_trans hg h2) _ _ _ _ (drawn_sim hI hns hQ wr n _ s' l' hs' hl hN' hk hK)⟩)
        · cases hc
      · cases hc
    unfold sched at hs
    split at hs
    · rename_i hr
      cases hs
      cases hc
      exact wpAnyH_done hr (hK _ _ _ _ _ h hN) _
    · rename_i rs hne
      split at hs
      · rename_i i hi
        obtain ⟨s', hs', rfl⟩ := Option.map_eq_some_iff.1 hs
        have hp := List.find?_some hi
        have hmem := List.mem_of_find?_eq_some hi
        cases hone : manyB (Region.ready .any ops listed) with
        | false =>
          obtain ⟨j, hr⟩ := manyB_one hone
          have hij : i = j := by
            rw [hr] at hmem
            simpa using hmem
          subst hij
          rw [hone] at hc
          refine wpAnyH_all hr (by simp) (fun q hq => ?_)
          simp only [List.mem_singleton] at hq
          subst hq
          exact one _ _ _ hs' hc h
        | true =>
        rw [hone] at hc
        simp only [Bool.and_eq_true] at hp
        simp only [compSched] at hc
        split at hc
        · rename_i o ho
          split at hc
          · rename_i xo l' hx hl
            cases hc
            have hx' := hx
            unfold compO at hx'
            split at hx'
            · rename_i x g hcx hg
              cases hx'
              have hq : x.quiet = true := by
                have h1 := hp.1
                unfold quiets at h1
                rw [Array.getD_eq_getD_getElem?, Array.getElem?_map, ho] at h1
                have h2 := h1
                simp [hcx] at h2
                first
                  | exact h2.1.1
                  | exact h2.1
              have h' : Holds P I p (evGuard g ts fun t ts => match t with
                | true => evOp I true (some wr) x ts m fun v m => evDrawn I wr l' (putT ts o.dst v) m k
                | false => evDrawn I wr l' (putT ts o.dst (.tup [])) m k) := h
              obtain ⟨t, ts', ht, hA', h⟩ := guard_inv hg hN.toAt h'
              have fin : ∀ av v, ARep E m w av v → Holds P I p (evDrawn I wr l' (putT ts' o.dst av) m k) → YieldsIf P ops (Same (some wr) E m w) o v a → wpAnyH P .any ops Q (Same (some wr) E m w) (n + 1) listed a w := fun av v hr hk hy =>
                wpAnyH_take ho hns hp.2 (by simpa using hmem) (fun c a w h => hQ c _ _ a w h) hy (fun _ _ _ => rfl) (drawn_sim hI hns hQ wr n _ s' l' hs' hl ⟨hA'.putT hr o.dst, hN.grow⟩ hk hK)
              cases t
              · exact fin _ undef skip_rep h (.inr ⟨ht, rfl⟩)
              · obtain ⟨av, v, hk, hr, hrun⟩ := quiet_sim hI hcx hq hA' (fun _ => rfl) h
                exact fin _ v hr hk (.inl ⟨ht, fun w' hw' => hrun w' (.inr ⟨rfl, hw'⟩)⟩)
            · cases hx'
          · cases hc
        · cases hc
      · split at hs
        · rename_i i hr
          obtain ⟨s', hs', rfl⟩ := Option.map_eq_some_iff.1 hs
          refine wpAnyH_all hr (by simp) (fun j hj => ?_)
          simp only [List.mem_singleton] at hj
          subst hj
          exact one _ _ _ hs' hc h
        · rename_i i j hr
          split at hs
          · rename_i s1 s2 h1 h2
            cases hs
            change (match compSched P ops (.op i false s1), compSched P ops (.op j false s2) with | some a, some b => some (DX.alt a b) | _, _ => none) = some l at hc
            split at hc
            · rename_i l1 l2 g1 g2
              cases hc
              cases h with
              | both ha hb =>
              refine wpAnyH_all hr (by simp) (fun q hq => ?_)
              simp only [List.mem_cons, List.not_mem_nil, or_false] at hq
              rcases hq with rfl | rfl
              · exact one _ _ _ h1 g1 ha
              · exact one _ _ _ h2 g2 hb
            · cases hc
          · cases hs
        · rename_i i j q3 hr
          split at hs
          · rename_i s1 s2 s3 h1 h2 h3
            cases hs
            change (match compSched P ops (.op i false s1), compSched P ops (.alt (.op j false s2) (.op q3 false s3)) with | some a, some b => some (DX.alt a b) | _, _ => none) = some l at hc
            split at hc
            · rename_i l1 l2 g1 g2
              cases hc
              change (match compSched P ops (.op j false s2), compSched P ops (.op q3 false s3) with | some a, some b => some (DX.alt a b) | _, _ => none) = some l2 at g2
              split at g2
              · rename_i l3 l4 g3 g4
                cases g2
                cases h with
                | both ha hb =>
                cases hb with
                | both hb hc =>
                refine wpAnyH_all hr (by simp) (fun q hq => ?_)
                simp only [List.mem_cons, List.not_mem_nil, or_false] at hq
                rcases hq with rfl | rfl | rfl
                · exact one _ _ _ h1 g1 ha
                · exact one _ _ _ h2 g3 hb
                · exact one _ _ _ h3 g4 hc
              · cases g2
            · cases hc
          · cases hs
        · cases hs
def Ex.out : Ex → Exit
  | .normal => .normal
  | .exit i => .exit i
  | .ret => .ret
theorem size_drew (w : World) : w.drew.heap = w.heap := rfl
theorem Now.drew (h : Now E0 m0 w0 E m w ts a) : Now E0 m0 w0 E m w.drew ts a := by
  have step : Step E m w E m w.drew := { Step.refl E m w with frz := fun _ _ => rfl, stays := ⟨fun x hx => ⟨hx, rfl⟩, fun a es c h => ⟨es, c, h, fun i e h => ⟨e, h, rfl, rfl⟩⟩⟩ }
  have grow : Grow (fun _ => True) E m w E m w.drew := { Grow.refl (fun _ => True) E m w with toStep := step, os := rfl, tape := rfl, output := rfl, size := Nat.le_refl _, block := fun _ _ _ => rfl }
  refine ⟨⟨⟨fun id blk hb hl => ?_, h.sat.inj, h.sat.dis, h.sat.old, fun id ag l hb => let ⟨a_, e, hlt, hm⟩ := h.sat.maps id ag l hb; ⟨a_, e, hlt, MapAt.step (w := w) (w' := w.drew) (a := a_) (a' := a_) (fun _ h => h) (fun _ _ => rfl) rfl hm⟩⟩, h.ts.step step, h.defers⟩, h.grow.trans grow (fun _ _ h => h)⟩
  rcases h.sat.rep id blk hb hl with h1 | ⟨a_, base, e, g1, g2, g3⟩
  · exact .inl h1
  · rw [e]
    exact BRep.step_rep step rfl (Nat.le_refl _) (fun _ => .inr ⟨a_, base, rfl, g1, g2, g3⟩) hl
theorem mask_get (keep : List Nat) : ∀ (ts : List A) (n i : Nat) (x : A), (maskT keep n ts)[i]? = some x → x = .one (.c .any) ∨ ts[i]? = some x
  | [], n, i, x, h => by simp [maskT] at h
  | t :: ts, n, i, x, h => by
    cases i with
    | zero =>
      simp only [maskT, List.getElem?_cons_zero, Option.some.injEq] at h
      split at h
      · exact .inr (by rw [← h]; rfl)
      · exact .inl h.symm
    | succ i =>
      simp only [maskT, List.getElem?_cons_succ] at h
      simpa using mask_get keep ts (n + 1) i x h
theorem mask_len (keep : List Nat) : ∀ (ts : List A) (n : Nat), (maskT keep n ts).length = ts.length
  | [], _ => rfl
  | t :: ts, n => by simp [maskT, mask_len keep ts]
theorem renw_grow (hI : I = ints) (hg : Grow (fun _ => True) E0 m0 w0 E m w) (hs : Sat E m w) {σ fz : List Nat} (hp : σ.take m0.length = List.range m0.length) (q : How) : Grow (fun _ => True) E0 m0 w0 (E.ren m σ fz (fun _ => False)) (invMem I σ q m) w := by
  have hpl : m0.length ≤ σ.length := by
    have := congrArg List.length hp
    simp at this
    omega
  have hσ : ∀ id, id < m0.length → σ[id]? = some id := fun id hid => by
    have : (σ.take m0.length)[id]? = some id := by rw [hp]; simp [hid]
    rw [List.getElem?_take, if_pos hid] at this
    exact this
  have hsh := inv_shape (I := I) σ q m
  have foot : ∀ k, LiveAt (fun _ => True) E m k → w0.heap.size ≤ k ∨ Foot (fun _ => True) E0 m0 k := fun k ⟨b, blk, x, h1, h2, h3, h4⟩ => hg.foot (Wt' := fun _ => True) (fun _ _ _ => trivial) ⟨b, blk, x, h1, h2, trivial, h4⟩
  exact
    { F := fun k hk => .inl (hg.F k hk)
      B := fun k hk => .inl (hg.B k hk)
      ρ := fun id hid => by rw [← hg.ρ id hid]; simp [Env.ren, hσ id hid]
      len := by rw [hsh.len]; exact hpl
      shape := fun id blk' hid h hl => by
        obtain ⟨blk, q1, q2, q3, q4⟩ := hsh.get id id blk' (hσ id hid) h hl
        obtain ⟨blk0, r1, r2, r3, r4⟩ := hg.shape id blk hid q1 q2
        exact ⟨blk0, r1, r2, q3.trans r3, q4.trans r4⟩
      frz := hg.frz
      stays := hg.stays
      B' := fun k hk => hk.elim (hg.B' k) (fun ⟨_, _, _, _, _, h, _⟩ => h.elim)
      os := hg.os
      tape := hg.tape
      output := hg.output
      size := hg.size
      block := hg.block
      newF := fun k hk => by
        rcases hk with hk | ⟨b, blk, x, h1, h2, h3, h4⟩
        · exact hg.newF k hk
        · exact .inr (foot k ⟨b, blk, x, h1, h2, trivial, h4⟩)
      newρ := fun id a_ x blk' hid h hl e => by
        cases hq : σ[id]? with
        | none => simp [Env.ren, hq] at e
        | some b =>
          obtain ⟨blk, q1, q2, _, _⟩ := hsh.get id b blk' hq h hl
          exact foot a_ ⟨b, blk, x, q1, q2, trivial, by simpa [Env.ren, hq] using e⟩ }
/-- Names are forgotten, frozen, turned: where a round ends, where a function returns. -/
theorem Now.tidy (hI : I = ints) (h : Now E0 m0 w0 E m w ts a) {σ fz keep : List Nat} (hσ : σ.Nodup) (hp : σ.take m0.length = List.range m0.length) : ∃ E', Now E0 m0 w0 E' (invMem I σ (.frz fz) m) w ((maskT keep 0 ts).map (A.inv I σ (.frz fz) m)) a ∧
    ∀ v u, ARep E m w v u → ARep E' (invMem I σ (.frz fz) m) w (v.inv I σ (.frz fz) m) u := by
  have hfz : ∀ l, How.frz fz = .frz l → ∀ b ∈ l, b ∉ σ → b ∈ fz.filter (fun b => !σ.contains b) := fun l e b hb hn => by
    cases e
    simp [hb, hn]
  have hB : ∀ es, How.frz fz = .bor es → ∀ b, b ∉ σ → (fun _ : Nat => False) b := fun es e => by cases e
  have hfσ : ∀ b ∈ fz.filter (fun b => !σ.contains b), b ∉ σ := fun b hb => by
    simp at hb
    exact hb.2
  have hsh := inv_shape (I := I) σ (.frz fz) m
  have hv : ∀ v u, ARep E m w v u → ARep (E.ren m σ (fz.filter (fun b => !σ.contains b)) (fun _ => False)) (invMem I σ (.frz fz) m) w (v.inv I σ (.frz fz) m) u := fun v u hv => ARep.inv hI h.sat hfz hB hsh hv
  refine ⟨_, ⟨⟨Sat.inv hI h.sat hσ hfz hB (fun _ h => h.elim) hfσ, ⟨by simp [mask_len, h.ts.1], fun i x hi => ?_⟩, h.defers⟩, renw_grow hI h.grow h.sat hp _⟩, hv⟩
  rw [List.getElem?_map] at hi
  cases hq : (maskT keep 0 ts)[i]? with
  | none => simp [hq] at hi
  | some y =>
    simp [hq] at hi
    subst hi
    rcases mask_get keep ts 0 i y hq with rfl | hy
    · exact any_rep _
    · exact hv _ _ (h.ts.2 i y hy)
theorem sy_rows (b : Blk) : b.sy.rows.length = b.rows.length ∧ b.sy.es = b.es ∧ (b.sy.live ↔ b.live) := by cases b <;> simp [Blk.sy, Blk.rows, Blk.es, Blk.live]
theorem sy_get {id : Nat} {blk : Blk} (h : (m.map Blk.sy)[id]? = some blk) : ∃ b, m[id]? = some b ∧ blk = b.sy := by
  rw [List.getElem?_map] at h
  obtain ⟨b, hb, rfl⟩ := Option.map_eq_some_iff.1 h
  exact ⟨b, hb, rfl⟩
theorem CRep.sy {x : C} {u : Value} (h : CRep E m w x u) : CRep E (m.map Blk.sy) w x.sy u := by
  cases x with
  | any => exact h
  | g x =>
    cases x with
    | bool b => generalize u = v at h; cases h; exact .bool (.sym b.val)
    | int k z => generalize u = v at h; cases h; exact .int k (.sym z.val)
    | str s => exact h
    | nilp => exact h
    | nil => exact h
    | rows es l => exact h
  | bor es l => exact h
  | gp row j => exact h
  | ptr b i es j => exact ⟨by rw [List.length_map]; exact h.1, h.2⟩
  | row b es cap =>
    refine ⟨by rw [List.length_map]; exact h.1, h.2.1, fun blk hb hl => ?_⟩
    obtain ⟨b0, h1, rfl⟩ := sy_get hb
    obtain ⟨r1, r2, r3⟩ := sy_rows b0
    rw [r1, r2]
    exact h.2.2 b0 h1 (r3.1 hl)
  | sl b i es n cap =>
    refine ⟨by rw [List.length_map]; exact h.1, h.2.1, fun blk hb hl => ?_⟩
    obtain ⟨b0, h1, rfl⟩ := sy_get hb
    obtain ⟨r1, r2, r3⟩ := sy_rows b0
    rw [r1, r2]
    exact h.2.2 b0 h1 (r3.1 hl)
  | fn f l =>
    obtain ⟨us, h1, h2, h3⟩ := h
    exact ⟨us, h1, h2, fun i b es j hi => by rw [List.length_map]; exact h3 i b es j hi⟩
  | map b => exact ⟨by rw [List.length_map]; exact h.1, h.2⟩
  | stamp b z => exact ⟨by rw [List.length_map]; exact h.1, h.2⟩
theorem V1Rep.sy {x : V1} {u : Value} (h : V1Rep E m w x u) : V1Rep E (m.map Blk.sy) w x.sy u := by
  cases x with
  | c x =>
    rcases h with rfl | h
    · exact .inl rfl
    · exact .inr h.sy
  | agg l =>
    obtain ⟨cs, h1, h2, h3⟩ := h
    refine ⟨cs, h1, by simp [h2], fun i x hi => ?_⟩
    rw [List.getElem?_map] at hi
    obtain ⟨y, hy, rfl⟩ := Option.map_eq_some_iff.1 hi
    obtain ⟨u, h4, h5⟩ := h3 i y hy
    exact ⟨u, h4, h5.sy⟩
theorem ARep.sy {x : A} {u : Value} (h : ARep E m w x u) : ARep E (m.map Blk.sy) w x.sy u := by
  cases x with
  | one v => exact V1Rep.sy h
  | tup l =>
    obtain ⟨cs, h1, h2, h3⟩ := h
    refine ⟨cs, h1, by simp [h2], fun i x hi => ?_⟩
    rw [List.getElem?_map] at hi
    obtain ⟨y, hy, rfl⟩ := Option.map_eq_some_iff.1 hi
    obtain ⟨u, h4, h5⟩ := h3 i y hy
    exact ⟨u, h4, h5.sy⟩
theorem Now.sy (h : Now E0 m0 w0 E m w ts a) : Now E0 m0 w0 E (m.map Blk.sy) w (ts.map A.sy) a where
  sat := ⟨fun id blk hb hl => by
      obtain ⟨b0, h1, rfl⟩ := sy_get hb
      obtain ⟨r1, r2, r3⟩ := sy_rows b0
      refine (h.sat.rep id b0 h1 (r3.1 hl)).imp (fun q => ⟨q.1, List.eq_nil_of_length_eq_zero (by rw [r1, q.2]; rfl)⟩) ?_
      rintro ⟨a_, base, e, g1, g2, g3⟩
      refine ⟨a_, base, e, by rw [r1, r2]; exact g1, g2, fun i row hi => ?_⟩
      cases b0 with
      | dead => simp [Blk.sy, Blk.rows] at hi
      | mp ag l => simp [Blk.sy, Blk.rows] at hi
      | sym es l => exact ⟨(g3 i row hi).1, fun j x hj => by
          obtain ⟨u, h4, h5⟩ := (g3 i row hi).2 j x hj
          refine ⟨u, h4, ?_⟩
          have hg : ∃ y : G, x = .g y := by
            simp only [Blk.sy, Blk.rows] at hi
            rw [List.getElem?_map] at hi
            obtain ⟨r, hr, rfl⟩ := Option.map_eq_some_iff.1 hi
            rw [List.getElem?_map] at hj
            obtain ⟨y, hy, rfl⟩ := Option.map_eq_some_iff.1 hj
            exact ⟨y, rfl⟩
          obtain ⟨y, rfl⟩ := hg
          exact h5⟩
      | lit es rows =>
        simp only [Blk.sy, Blk.rows] at hi
        rw [List.getElem?_map] at hi
        obtain ⟨r, hr, rfl⟩ := Option.map_eq_some_iff.1 hi
        refine ⟨by rw [List.length_map]; exact (g3 i r hr).1, fun j x hj => ?_⟩
        rw [List.getElem?_map] at hj
        obtain ⟨y, hy, rfl⟩ := Option.map_eq_some_iff.1 hj
        obtain ⟨u, h4, h5⟩ := (g3 i r hr).2 j y hy
        exact ⟨u, h4, h5.sy⟩,
    fun i j bi bj a_ x y hi hj li lj ei ej => by
      obtain ⟨b1, h1, rfl⟩ := sy_get hi
      obtain ⟨b2, h2, rfl⟩ := sy_get hj
      exact h.sat.inj i j b1 b2 a_ x y h1 h2 ((sy_rows b1).2.2.1 li) ((sy_rows b2).2.2.1 lj) ei ej,
    fun i bi a_ x hi li ei => by
      obtain ⟨b1, h1, rfl⟩ := sy_get hi
      exact h.sat.dis i b1 a_ x h1 ((sy_rows b1).2.2.1 li) ei, h.sat.old,
    fun id ag l hb => by
      obtain ⟨b0, h1, e⟩ := sy_get hb
      cases b0 with
      | mp ag' l' => cases e; exact h.sat.maps id ag l h1
      | _ => cases e⟩
  ts := ⟨by rw [List.length_map]; exact h.ts.1, fun t x ht => by
    rw [List.getElem?_map] at ht
    obtain ⟨y, hy, rfl⟩ := Option.map_eq_some_iff.1 ht
    exact (h.ts.2 t y hy).sy⟩
  defers := h.defers
  grow :=
    { F := h.grow.F, B := h.grow.B, ρ := h.grow.ρ, len := by rw [List.length_map]; exact h.grow.len
      shape := fun id blk' hid hb hl => by
        obtain ⟨b0, h1, rfl⟩ := sy_get hb
        obtain ⟨r1, r2, r3⟩ := sy_rows b0
        obtain ⟨blk, q1, q2, q3, q4⟩ := h.grow.shape id b0 hid h1 (r3.1 hl)
        exact ⟨blk, q1, q2, r1.trans q3, r2.trans q4⟩
      frz := h.grow.frz, stays := h.grow.stays, B' := h.grow.B', os := h.grow.os, tape := h.grow.tape, output := h.grow.output, size := h.grow.size, block := h.grow.block, newF := h.grow.newF
      newρ := fun id a_ x blk h1 h2 h3 h4 => by
        obtain ⟨b0, g1, rfl⟩ := sy_get h2
        exact h.grow.newρ id a_ x b0 h1 g1 ((sy_rows b0).2.2.1 h3) h4 }
theorem GRep_nil {F : Nat → Prop} {w : World} {u : Value} (h : GRep F w .nil u) : u = .slice none 0 0 := by
  generalize u = u' at h
  cases h
  rfl
/-- A nil field of a block is a row of its own. -/
theorem nil_field {E : Env} {m : Mem} {w : World} {Wt : Nat → Prop} (hs : Sat E m w) {b es i j : Nat} {rows : List (List C)} {row : List C} (hb : m[b]? = some (.lit es rows)) (hW : Wt b) (hi : rows[i]? = some row) (hj : row[j]? = some (.g .nil)) (es' : Nat) :
    ∃ E', Grow Wt E m w E' ((m.set b (.lit es (rows.set i (row.set j (.row m.length es' none))))) ++ [.sym es' []]) w ∧ Sat E' ((m.set b (.lit es (rows.set i (row.set j (.row m.length es' none))))) ++ [.sym es' []]) w := by
  obtain ⟨g1, s1⟩ := add_grow (Wt := Wt) (w' := w) hs (blk := .sym es' []) (r := none) (Nat.le_refl _) rfl rfl rfl (Stays.refl _) (fun _ _ => rfl) (fun _ _ h => by cases h) (fun _ => .inl ⟨rfl, rfl⟩)
  have hbm : b < m.length := (List.getElem?_eq_some_iff.1 hb).1
  have hb' : (m ++ [Blk.sym es' []])[b]? = some (.lit es rows) := by rw [List.getElem?_append_left hbm]; exact hb
  have hil : i < rows.length := (List.getElem?_eq_some_iff.1 hi).1
  have hjl : j < row.length := (List.getElem?_eq_some_iff.1 hj).1
  rcases s1.rep b _ hb' trivial with ⟨_, h0⟩ | ⟨a_, base, e, p1, p2, p3⟩
  · have : rows = [] := h0
    rw [this] at hil
    simp at hil
  have hw := write_grow (w' := w) (Wt := Wt) s1 hb' trivial (blk' := .lit es (rows.set i (row.set j (.row m.length es' none)))) trivial e hW rfl rfl rfl rfl (fun _ _ => rfl) (Stays.refl _) (by simp [Blk.rows]) rfl (fun i' row' hi' => by
    simp only [Blk.rows, Blk.es] at hi' ⊢
    rw [List.getElem?_set] at hi'
    by_cases hii : i = i'
    · subst hii
      simp only [hil, if_true, Option.some.injEq] at hi'
      subst hi'
      obtain ⟨q1, q2⟩ := p3 i row hi
      refine ⟨by rw [List.length_set]; exact q1, fun j' x hj' => ?_⟩
      rw [List.getElem?_set] at hj'
      by_cases hjj : j = j'
      · subst hjj
        simp only [hjl, if_true, Option.some.injEq] at hj'
        subst hj'
        obtain ⟨u, r1, r2⟩ := q2 j _ hj
        refine ⟨u, r1, ?_⟩
        obtain rfl := GRep_nil r2
        refine ⟨by simp, rfl, fun blk hbk hl => ?_⟩
        rw [List.getElem?_append_right (Nat.le_refl _)] at hbk
        simp at hbk
        subst hbk
        exact ⟨rfl, fun c' hc => (by cases hc), .inl ⟨if_pos rfl, rfl⟩⟩
      · simp only [hjj, if_false] at hj'
        exact q2 j' x hj'
    · simp only [hii, if_false] at hi'
      exact p3 i' row' hi')
  rw [List.set_append_left _ _ hbm] at hw
  exact ⟨_, g1.trans hw.1 (fun _ _ h => h), hw.2⟩
/-- A nil slice in a slot is a row of its own. -/
theorem Now.own (h : Now E0 m0 w0 E m w ts a) {t es : Nat} (ht : ts[t]? = some (.one (.c (.g .nil)))) : Now E0 m0 w0 (E.add m.length none) (m ++ [.sym es []]) w (ts.set t (.one (.c (.row m.length es none)))) a := by
  obtain ⟨g, s⟩ := add_grow (Wt := fun _ => True) (w' := w) h.sat (blk := .sym es []) (r := none) (Nat.le_refl _) rfl rfl rfl (Stays.refl _) (fun _ _ => rfl) (fun _ _ h => by cases h) (fun _ => .inl ⟨rfl, rfl⟩)
  refine ⟨⟨s, ⟨by rw [List.length_set]; exact h.ts.1, fun q x hq => ?_⟩, h.defers⟩, h.grow.trans g (fun _ _ h => h)⟩
  rw [List.getElem?_set] at hq
  by_cases htq : t = q
  · subst htq
    have hlt : t < ts.length := (List.getElem?_eq_some_iff.1 ht).1
    simp only [hlt, if_true, Option.some.injEq] at hq
    subst hq
    have hu : a.tmps.getD t undef = .slice none 0 0 := by
      have h0 := h.ts.2 t _ ht
      rcases h0 with h0 | h0
      · cases h0
      · generalize a.tmps.getD t undef = u at h0
        cases h0
        rfl
    refine .inr ⟨by simp, by rw [hu]; rfl, fun blk hb hl => ?_⟩
    rw [List.getElem?_append_right (Nat.le_refl _)] at hb
    simp at hb
    subst hb
    exact ⟨rfl, fun c' hc => (by cases hc), .inl ⟨if_pos rfl, hu⟩⟩
  · simp only [htq, if_false] at hq
    exact (h.ts.2 q x hq).step g.toStep
inductive LoopHolds (P : Program) (I : Ints) (p : Nat) (x : X) (ts : List A) (m : Mem) (k : Ex → List A → Mem → Tree) : Prop where
  | mk (Inv : Nat → List A → Mem → Prop) (n : Nat) (ts0 : List A) (m0 : Mem) (σ fz : List Nat) (keep : List Nat)
      (hσ : σ.Nodup) (hp : σ.take p = List.range p) (ht : ts0 = ((maskT keep 0 ts).map (A.inv I σ (.frz fz) m)).map A.sy) (hm : m0 = (invMem I σ (.frz fz) m).map Blk.sy) (h0 : Inv n ts0 m0)
      (h : ∀ (n : Nat) (ts : List A) (m : Mem), Inv n ts m → Holds P I p (ev I x ts m fun e ts m => match e with
          | .normal => .goal (∃ (n' : Nat) (ts1 : List A) (m1 : Mem) (σ fz : List Nat) (keep : List Nat), n' < n ∧ σ.Nodup ∧ σ.take p = List.range p ∧ ts1 = ((maskT keep 0 ts).map (A.inv I σ (.frz fz) m)).map A.sy ∧ m1 = (invMem I σ (.frz fz) m).map Blk.sy ∧ Inv n' ts1 m1)
          | .exit i => k (.exit i) ts m
          | .ret => k .ret ts m)) : LoopHolds P I p x ts m k
theorem loop_inv {x : X} {k : Ex → List A → Mem → Tree} : ∀ {T : Tree}, Holds P I p T → ∀ {ts : List A} {m : Mem} {E : Env}, T = .loop x ts m k → Now E0 m0 w0 E m w ts a → ∃ E' ts' m', Now E0 m0 w0 E' m' w ts' a ∧ LoopHolds P I p x ts' m' k := by
  intro T h
  induction h with
  | loop Inv n ts0 m1 σ fz keep hσ hpσ ht hm h0 h =>
    intro ts m E e hN
    cases e
    exact ⟨E, _, _, hN, .mk Inv n ts0 m1 σ fz keep hσ hpσ ht hm h0 h⟩
  | own t es ht h ih =>
    intro ts m E e hN
    cases e
    exact ih rfl (hN.own ht)
  | ownc b es i j es' rows row hb hi hj h ih =>
    intro ts m E e hN
    cases e
    obtain ⟨E2, g, s⟩ := nil_field (Wt := fun _ => True) hN.sat hb trivial hi hj es'
    exact ih rfl ⟨⟨s, hN.ts.step g.toStep, hN.defers⟩, hN.grow.trans g (fun _ _ h => h)⟩
  | _ => intro ts m E e; cases e
/-- Places where ways meet. -/
theorem join_sim {c : Code} {x : X} (hI : I = ints) (hp : m0.length = p)
    (plain : ∀ {E : Env} {m : Mem} {w : World} {ts : List A} {a : Act} {k : Ex → List A → Mem → Tree} {Q : Exit → Act → World → Prop}, (∀ c d v a w, Q (.panic c) (Act.put a d v) w → Q (.panic c) a w) →
      Now E0 m0 w0 E m w ts a → Holds P I p (ev I x ts m k) → (∀ e ts' m' E' w' a', Holds P I p (k e ts' m') → Now E0 m0 w0 E' m' w' ts' a' → Q e.out a' w') → c.wp P Q a w)
    {E : Env} {m : Mem} {w : World} {ts : List A} {a : Act} {k : Ex → List A → Mem → Tree} {Q : Exit → Act → World → Prop} (hQ : ∀ c d v a w, Q (.panic c) (Act.put a d v) w → Q (.panic c) a w)
    (hN : Now E0 m0 w0 E m w ts a) (h : Holds P I p (.join x ts m k)) (hK : ∀ e ts' m' E' w' a', Holds P I p (k e ts' m') → Now E0 m0 w0 E' m' w' ts' a' → Q e.out a' w') : c.wp P Q a w := by
  cases h with
  | pass h => exact plain hQ hN h hK
  | join Post h1 h2 =>
    subst hp
    refine plain hQ hN h1 (fun e ts' m' E' w' a' hk hN' => ?_)
    cases e with
    | normal =>
      cases hk with
      | goal hk =>
      obtain ⟨ts1, m1, σ, fz, keep, hσ, hpσ, ht, hm, hi⟩ := hk
      obtain ⟨E2, hN2, -⟩ := Now.tidy (keep := keep) hI hN' (fz := fz) hσ hpσ
      replace hN2 := hN2.sy
      rw [← ht, ← hm] at hN2
      exact hK .normal _ _ _ _ _ (h2 _ _ hi) hN2
    | exit i => exact hK (.exit i) _ _ _ _ _ hk hN'
    | ret => exact hK .ret _ _ _ _ _ hk hN'
theorem ev_sim {j : List Nat} (hI : I = ints) (hmo : P.follows .mixedOrders = true) (hp : m0.length = p) : ∀ (c : Code) (x : X), comp P j c = some x → ∀ {E : Env} {m : Mem} {w : World} {ts : List A} {a : Act} {k : Ex → List A → Mem → Tree} {Q : Exit → Act → World → Prop}, (∀ c d v a w, Q (.panic c) (Act.put a d v) w → Q (.panic c) a w) →
    Now E0 m0 w0 E m w ts a → Holds P I p (ev I x ts m k) → (∀ e ts' m' E' w' a', Holds P I p (k e ts' m') → Now E0 m0 w0 E' m' w' ts' a' → Q e.out a' w') → c.wp P Q a w := by
  intro c
  induction c with
  | skip => intro x hc E m w ts a k Q hQ hN h hK; cases hc; exact wp_skip (hK .normal _ _ _ _ _ h hN)
  | region id ops d =>
    intro x hc E m w ts a k Q hQ hN h hK
    cases d
    · obtain ⟨l, hl, rfl⟩ := Option.map_eq_some_iff.1 hc
      exact wp_region_list (ops_sim hI ops.toList l hl hN h (fun ts' m' E' w' a' hk hN' => hK .normal _ _ _ _ _ hk hN'))
    · simp only [comp] at hc
      split at hc
      · rename_i s hns hs
        obtain ⟨l, hl, rfl⟩ := Option.map_eq_some_iff.1 hc
        have plain : ∀ {E : Env} {m : Mem} {w : World} {ts : List A} {a : Act} {k : Ex → List A → Mem → Tree} {Q : Exit → Act → World → Prop}, (∀ c d v a w, Q (.panic c) (Act.put a d v) w → Q (.panic c) a w) →
            Now E0 m0 w0 E m w ts a → Holds P I p (ev I (.drawn id l) ts m k) → (∀ e ts' m' E' w' a', Holds P I p (k e ts' m') → Now E0 m0 w0 E' m' w' ts' a' → Q e.out a' w') → (Code.region id ops true).wp P Q a w := fun {E m w ts a k Q} hQ hN h hK => by
          cases h with
          | drawn W h =>
          exact wp_region_held (S := Same (some (W, m.length)) E m w.drew) hmo (drawn_sim hI hns hQ (W, m.length) ops.size _ s l hs hl hN.drew h (fun ts' m' E' w' a' hk hN' => hK .normal _ _ _ _ _ hk hN'))
        generalize j.contains (1000 + id) = b9 at h
        cases b9 with
        | false => exact plain hQ hN h hK
        | true => exact join_sim hI hp plain hQ hN h hK
      · cases hc
  | seq b c ihb ihc =>
    intro x hc E m w ts a k Q hQ hN h hK
    simp only [comp] at hc
    split at hc
    · rename_i x1 x2 h1 h2
      cases hc
      refine wp_seq (ihb x1 h1 (Q := Exit.then (c.wp P Q) Q) (fun c d v a w hq => hQ c d v a w hq) hN h (fun e ts' m' E' w' a' hk hN' => ?_))
      cases e with
      | normal => exact ihc x2 h2 hQ hN' hk hK
      | exit i => exact hK (.exit i) _ _ _ _ _ hk hN'
      | ret => exact hK .ret _ _ _ _ _ hk hN'
    · cases hc
  | cond C_ b c ihb ihc =>
    intro x hc E m w ts a k Q hQ hN h hK
    simp only [comp] at hc
    split at hc
    · rename_i c0 x1 x2 h0 h1 h2
      cases hc
      have plain : ∀ {E : Env} {m : Mem} {w : World} {ts : List A} {a : Act} {k : Ex → List A → Mem → Tree} {Q : Exit → Act → World → Prop}, (∀ c d v a w, Q (.panic c) (Act.put a d v) w → Q (.panic c) a w) →
          Now E0 m0 w0 E m w ts a → Holds P I p (ev I (.cond c0 x1 x2) ts m k) → (∀ e ts' m' E' w' a', Holds P I p (k e ts' m') → Now E0 m0 w0 E' m' w' ts' a' → Q e.out a' w') → (Code.cond C_ b c).wp P Q a w := fun {E m w ts a k Q} hQ hN h hK => by
        obtain ⟨t, ht, h⟩ := evB_inv h0 hN.toAt h
        refine wp_cond ht ?_
        cases t
        · exact ihc x2 h2 hQ hN h hK
        · exact ihb x1 h1 hQ hN h hK
      generalize j.contains (opKey c0) = b9 at h
      cases b9 with
      | false => exact plain hQ hN h hK
      | true => exact join_sim hI hp plain hQ hN h hK
    · cases hc
  | block id b ihb =>
    intro x hc E m w ts a k Q hQ hN h hK
    obtain ⟨x1, h1, rfl⟩ := Option.map_eq_some_iff.1 hc
    have plain : ∀ {E : Env} {m : Mem} {w : World} {ts : List A} {a : Act} {k : Ex → List A → Mem → Tree} {Q : Exit → Act → World → Prop}, (∀ c d v a w, Q (.panic c) (Act.put a d v) w → Q (.panic c) a w) →
        Now E0 m0 w0 E m w ts a → Holds P I p (ev I (.block id x1) ts m k) → (∀ e ts' m' E' w' a', Holds P I p (k e ts' m') → Now E0 m0 w0 E' m' w' ts' a' → Q e.out a' w') → (Code.block id b).wp P Q a w := fun {E m w ts a k Q} hQ hN h hK => by
      refine wp_block (ihb x1 h1 (Q := Exit.inBlock id Q) (fun c d v a w hq => hQ c d v a w hq) hN h (fun e ts' m' E' w' a' hk hN' => ?_))
      cases e with
      | normal => exact hK .normal _ _ _ _ _ hk hN'
      | exit i =>
        show if i = id then Q .normal a' w' else Q (.exit i) a' w'
        simp only at hk
        split at hk
        · rename_i he
          rw [if_pos (by simpa using he)]
          exact hK .normal _ _ _ _ _ hk hN'
        · rename_i he
          rw [if_neg (by simpa using he)]
          exact hK (.exit i) _ _ _ _ _ hk hN'
      | ret => exact hK .ret _ _ _ _ _ hk hN'
    generalize j.contains (2000 + id) = b9 at h
    cases b9 with
    | false => exact plain hQ hN h hK
    | true => exact join_sim hI hp plain hQ hN h hK
  | loop b ihb =>
    intro x hc E m w ts a k Q hQ hN h hK
    obtain ⟨x1, h1, rfl⟩ := Option.map_eq_some_iff.1 hc
    obtain ⟨E, ts, m, hN, h⟩ := loop_inv h rfl hN
    cases h with
    | mk Inv n ts0 m1 σ fz keep hσ hpσ ht hm h0 h =>
    subst hp
    obtain ⟨E', hN', -⟩ := Now.tidy (keep := keep) hI hN (fz := fz) hσ hpσ
    replace hN' := hN'.sy
    rw [← ht, ← hm] at hN'
    refine wp_loop_ghost (fun n a w => ∃ ts m E, Inv n ts m ∧ Now E0 m0 w0 E m w ts a) n ⟨ts0, m1, E', h0, hN'⟩ ?_
    rintro n a w ⟨ts, m, E, hi, hN⟩
    refine ihb x1 h1 (Q := Exit.then (fun a' w' => ∃ n', n' < n ∧ ∃ ts m E, Inv n' ts m ∧ Now E0 m0 w0 E m w' ts a') Q) (fun c d v a w hq => hQ c d v a w hq) hN (h n ts m hi) (fun e ts' m' E' w' a' hk hN' => ?_)
    cases e with
    | normal =>
      cases hk with
      | goal hk =>
      obtain ⟨n', ts1, m1, σ, fz, keep, hlt, hσ, hpσ, ht, hm, hi⟩ := hk
      obtain ⟨E2, hN2, -⟩ := Now.tidy (keep := keep) hI hN' (fz := fz) hσ hpσ
      replace hN2 := hN2.sy
      rw [← ht, ← hm] at hN2
      exact ⟨n', hlt, ts1, m1, E2, hi, hN2⟩
    | exit i => exact hK (.exit i) _ _ _ _ _ hk hN'
    | ret => exact hK .ret _ _ _ _ _ hk hN'
  | exit id => intro x hc E m w ts a k Q hQ hN h hK; cases hc; exact wp_exit (hK (.exit id) _ _ _ _ _ h hN)
  | ret => intro x hc E m w ts a k Q hQ hN h hK; cases hc; exact wp_ret (hK .ret _ _ _ _ _ h hN)
  | _ => intro x hc; cases hc
end
end Go.Proofs.Ytdfbpdbfiffpbaa.E
