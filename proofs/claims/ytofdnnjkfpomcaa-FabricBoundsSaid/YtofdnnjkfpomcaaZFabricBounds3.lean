/- Contracts for FabricBounds, packed: E12 E13 E14 WWords E15 E17. -/
import Derived.Test.YtofdnnjkfpomcaaZFabricBounds2
import Derived.RegionTactic
import Derived.Laws.IdiomRangeMap
import Derived.KernelRfl
import Derived.RangeFuncRecord
import Derived.Below
import Derived.Deep.Draws
import Derived.Deep.AppendLies
import Derived.Maps.AppendAt
import Derived.OwnWalk
import Derived.Laws.BytesArg
import Derived.Laws.MakeOwn
import Derived.Laws.OwnMore
import Derived.Deep.OwnRows
import Derived.Tactics
import Derived.Lib.ConvBytes
import Derived.Laws.Slices
import Derived.WalkKit
import Derived.RowKit3
import Derived.Deep.LoopGhost
import Derived.Deep.QuietTactic
import Derived.BigQuiet
import Derived.WideLaws
import Derived.Deep.DeepCutAuto
import Derived.Deep.CutBlock
import Derived.Deep.RegionHeld3
import Derived.Laws.Rows
import Derived.Lib.AppendStr
import Derived.ArgAppend
import Derived.Laws.IdiomCopy
import Derived.RowKit
/- Regions, code, functions: what the evaluator shows of a body holds of the call. -/
namespace Go.Proofs.Ytofdnnjkfpomcaa.E
open Go
set_option linter.unusedVariables false
set_option linter.unusedSectionVars false

section
variable {lo : Nat} {P : Program} {I : Ints} {p : Nat} {E E0 : Env} {m m0 : Mem} {w w0 : World} {ts : List A} {a : Act}
def Fresh (lo : Nat) (w : World) (a : Act) : Prop := lo ≤ w.heap.size ∧ ∀ D : Nat, ({ target := .collected D, args := #[] } : Deferred) ∈ a.defers → lo ≤ D
theorem Fresh.mono {lo : Nat} {w w' : World} {a : Act} (h : Fresh lo w a) (hs : w.heap.size ≤ w'.heap.size) : Fresh lo w' a := ⟨Nat.le_trans h.1 hs, h.2⟩
theorem Fresh.put {lo : Nat} {w : World} {a : Act} (h : Fresh lo w a) (d : Option Nat) (v : Value) : Fresh lo w (a.put d v) := ⟨h.1, by cases d <;> exact h.2⟩
structure Now (lo : Nat) (E0 : Env) (m0 : Mem) (w0 : World) (E : Env) (m : Mem) (w : World) (ts : List A) (a : Act) : Prop extends At E m w ts a where
 grow : Grow (fun _ => True) E0 m0 w0 E m w
 fresh : Fresh lo w a
theorem TsRep.putT {tmps : Array Value} (h : TsRep E m w ts tmps) {x : A} {v : Value} (hx : ARep E m w x v) (d : Option Nat) (df : List Deferred) : TsRep E m w (putT ts d x) (Act.put ⟨tmps, df⟩ d v).tmps := by
 cases d with
 | none => exact h
 | some d => exact h.put hx d
theorem skip_rep : ARep E m w (.tup []) undef := ⟨#[], rfl, rfl, fun i x h => by simp at h⟩
theorem any_rep (v : Value) : ARep E m w (.one (.c .any)) v := Or.inl rfl
theorem At.putT (h : At E m w ts a) {x : A} {v : Value} (hx : ARep E m w x v) (d : Option Nat) : At E m w (putT ts d x) (a.put d v) :=
 ⟨h.sat, h.ts.putT hx d a.defers, h.defers.put d v⟩
theorem guard_inv {ops : Array Oper} {o : Oper} {g : Option (Nat × Bool)} {k : Bool → List A → Tree} (hg : tmpOf ops o.guard = some g) (hA : At E m w ts a) (h : Holds P I p (evGuard g ts k)) :
  ∃ t ts', Region.wanted o (yielded ops a.tmps) = t ∧ At E m w ts' a ∧ Holds P I p (k t ts') := by
 unfold tmpOf at hg
 split at hg
 ·rename_i e
  cases hg
  exact ⟨true, ts, by simp [Region.wanted, e], hA, h⟩
 ·rename_i j b e
  split at hg
  ·rename_i t ht
   cases hg
   have key : ∀ b0 : Bool, a.tmps.getD t undef = .bool b0 → Region.wanted o (yielded ops a.tmps) = (b0 == b) := by
    intro b0 hb
    have : a.tmps[t]? = some (.bool b0) := by
     rw [Array.getD_eq_getD_getElem?] at hb
     cases hq : a.tmps[t]? with
     | none => rw [hq] at hb; simp [undef] at hb
     | some v => rw [hq] at hb; simp at hb; rw [hb]
    simp only [Region.wanted, e, yielded, ht, Option.bind_some, this]
    cases b0 <;> cases b <;> rfl
   have hr : ARep E m w (getT ts t) (a.tmps.getD t undef) := opd_rep (X := .tmp t) (x := .tmp t) rfl hA
   unfold evGuard at h
   simp only at h
   split at h
   ·rename_i b0 hv
    rw [hv] at hr
    rcases hr with hr | hr
    ·cases hr
    ·generalize hu : a.tmps.getD t undef = u at hr
     cases hr
     exact ⟨_, ts, key _ hu, hA, h⟩
   ·rename_i hv
    rw [hv] at hr
    obtain ⟨us, hu, hz, -⟩ := hr
    refine ⟨false, ts, ?_, hA, h⟩
    have hn : ∀ x, a.tmps[t]? ≠ some (.bool x) := fun x hx => by
     rw [Array.getD_eq_getD_getElem?, hx] at hu
     simp at hu
    simp only [Region.wanted, e, yielded, ht, Option.bind_some]
    cases hq : a.tmps[t]? with
    | none => rfl
    | some v =>
     cases v with
     | bool x => exact absurd hq (hn x)
     | _ => rfl
   ·rename_i b0 hv
    have hlt : t < ts.length := by
     rcases Nat.lt_or_ge t ts.length with h' | h'
     ·exact h'
     ·unfold getT at hv
      rw [List.getD_eq_getElem?_getD, List.getElem?_eq_none h'] at hv
      cases hv
    rw [hv] at hr
    rcases hr with hr | hr
    ·cases hr
    ·generalize hu : a.tmps.getD t undef = u at hr
     cases hr
     have set : ∀ c : Bool, b0 = c → At E m w (ts.set t (.one (.c (.g (.bool (.lit c)))))) a := by
      rintro c rfl
      refine ⟨hA.sat, ⟨by simpa using hA.ts.1, fun q x hq => ?_⟩, hA.defers⟩
      rw [List.getElem?_set] at hq
      by_cases he : t = q
      ·subst he
       simp only [hlt, if_true, Option.some.injEq] at hq
       subst hq
       rw [hu]
       exact .inr (.bool (.lit _))
      ·simp only [he, if_false] at hq
       exact hA.ts.2 q x hq
     cases h with
     | br h1 h2 =>
      cases b0
      ·exact ⟨_, _, key _ hu, set false rfl, h2 rfl⟩
      ·exact ⟨_, _, key _ hu, set true rfl, h1 rfl⟩
   ·exact (holds_fail h).elim
  ·cases hg
variable {ops : Array Oper} {o : Oper} {Q : Exit → Act → World → Prop}
/-- One operation, in its turn. -/
theorem one_sim {wr : Option (List Nat × Nat)} {xo : XO} {k : List A → Mem → Tree} (hI : I = ints) (hx : compO P ops o = some xo) (hN : Now lo E0 m0 w0 E m w ts a) (h : Holds P I p (ev1op I false wr xo ts m k)) {K : Act → World → Prop}
  (hK : ∀ ts' m' E' w' a', Holds P I p (k ts' m') → Now lo E0 m0 w0 E' m' w' ts' a' → Grow (fun b => okW wr b = true) E m w E' m' w' → K a' w') :
  if Region.wanted o (yielded ops a.tmps) = true then o.wp P a w K Q else K (a.put o.dst undef) w := by
 unfold compO at hx
 split at hx
 ·rename_i x g hc hg
  cases hx
  obtain ⟨t, ts', ht, hA', h⟩ := guard_inv hg hN.toAt h
  rw [ht]
  cases t
  ·exact hK _ _ _ _ _ h ⟨hA'.putT skip_rep o.dst, hN.grow, hN.fresh.put _ _⟩ (Grow.refl _ _ _ _)
  ·cases hq : x.quiet
   ·refine loud_sim hI hc hq hA' h K (fun av v E' m' w' hk hg hs hr => ?_)
    have step := hg.toStep
    exact hK _ _ _ _ _ hk ⟨⟨hs, (hA'.ts.step step).putT hr o.dst a.defers, (hA'.defers.step step).put o.dst v⟩, hN.grow.trans hg (fun _ _ _ => trivial), (hN.fresh.mono hg.size).put _ _⟩ hg
   ·obtain ⟨av, v, hk, hr, hrun⟩ := quiet_sim hI hc hq hA' (fun e => by cases e) h
    show o.wp P a w K Q
    unfold Oper.wp
    rw [hrun w (.inl rfl)]
    exact hK _ _ _ _ _ hk ⟨hA'.putT hr o.dst, hN.grow, hN.fresh.put _ _⟩ (Grow.refl _ _ _ _)
 ·cases hx
theorem ops_sim (hI : I = ints) : ∀ (l : List Oper) (xs : List XO) {E : Env} {m : Mem} {w : World} {ts : List A} {a : Act} {k : List A → Mem → Tree}, compOs P ops l = some xs → Now lo E0 m0 w0 E m w ts a → Holds P I p (evOps I xs ts m k) →
  (∀ ts' m' E' w' a', Holds P I p (k ts' m') → Now lo E0 m0 w0 E' m' w' ts' a' → Q .normal a' w') → wpList P ops Q l a w
 | [], xs, E, m, w, ts, a, k, hc, hN, h, hK => by
  cases hc
  exact hK _ _ _ _ _ h hN
 | o :: l, xs, E, m, w, ts, a, k, hc, hN, h, hK => by
  simp only [compOs] at hc
  split at hc
  ·rename_i x xl hx hl
   cases hc
   refine wpList_step fun K hK' => ?_
   exact one_sim hI hx hN h (fun ts' m' E' w' a' hk hN' _ => hK' _ _ (ops_sim hI l xl hl hN' hk hK))
  ·cases hc
theorem wpAnyH_weak {md : Region.Mode} {S S' : World → Prop} (hS : ∀ w, S' w → S w) : ∀ (n : Nat) (l : Array Bool) (a : Act) (w : World), wpAnyH P md ops Q S' n l a w → wpAnyH P md ops Q S n l a w
 | 0, _, _, _, h => h
 | n + 1, l, a, w, h => ⟨h.1, fun i hi => wpOp_mono (fun a' w' h' => ⟨hS _ h'.1, wpAnyH_weak hS n _ a' w' h'.2⟩) (h.2 i hi)⟩
theorem same_trans {wr : Option (List Nat × Nat)} {E' : Env} {m' : Mem} {w' w2 : World} (hg : Grow (fun b => okW wr b = true) E m w E' m' w') (h : Same wr E' m' w' w2) : Same wr E m w w2 := fun k hk hn =>
 (h k (Nat.lt_of_lt_of_le hk hg.size) (fun hf => (hg.foot (fun _ _ h => h) hf).elim (fun h => by omega) hn)).trans (hg.block k hk hn)
theorem manyB_one : ∀ {l : List Nat}, manyB l = false → ∃ j, l = [j]
 | [], h => by cases h
 | [j], _ => ⟨j, rfl⟩
 | _ :: _ :: _, h => by cases h
theorem drawn_sim {bq : Nat} (hI : I = ints) (hns : Region.noSelect ops = true) (hQ : ∀ c d v a w, Q (.panic c) (Act.put a d v) w → Q (.panic c) a w) (wr : List Nat × Nat) : ∀ (n : Nat) (listed : Array Bool) (s : SD) (l : DX) {E : Env} {m : Mem} {w : World} {ts : List A} {a : Act} {k : List A → Mem → Tree},
  sched ops (quiets P ops bq) n listed = some s → compSched P ops s = some l → Now lo E0 m0 w0 E m w ts a → Holds P I p (evDrawn I wr l ts m k) →
  (∀ ts' m' E' w' a', Holds P I p (k ts' m') → Now lo E0 m0 w0 E' m' w' ts' a' → Q .normal a' w') → wpAnyH P .any ops Q (Same (some wr) E m w) n listed a w
 | 0, listed, s, l, E, m, w, ts, a, k, hs, hc, hN, h, hK => by
  unfold sched at hs
  split at hs
  ·rename_i hr
   cases hs
   cases hc
   exact wpAnyH_done hr (hK _ _ _ _ _ h hN) 0
  ·cases hs
 | n + 1, listed, s, l, E, m, w, ts, a, k, hs, hc, hN, h, hK => by
  have one : ∀ (i : Nat) (s' : SD) (li : DX), sched ops (quiets P ops bq) n (listed.setIfInBounds i true) = some s' → compSched P ops (.op i false s') = some li → Holds P I p (evDrawn I wr li ts m k) →
    wpOp P ops Q i (fun a' w' => Same (some wr) E m w w' ∧ wpAnyH P .any ops Q (Same (some wr) E m w) n (listed.setIfInBounds i true) a' w') a w := fun i s' li hs' hc h => by
   simp only [compSched] at hc
   split at hc
   ·rename_i o ho
    split at hc
    ·rename_i xo l' hx hl
     cases hc
     refine wpOp_step ho fun K hK' => ?_
     exact one_sim hI hx hN h (fun ts' m' E' w' a' hk hN' hg => hK' _ _ ⟨fun k hk hn => hg.block k hk hn, wpAnyH_weak (fun w2 h2 => same_trans hg h2) _ _ _ _ (drawn_sim hI hns hQ wr n _ s' l' hs' hl hN' hk hK)⟩)
    ·cases hc
   ·cases hc
  unfold sched at hs
  split at hs
  ·rename_i hr
   cases hs
   cases hc
   exact wpAnyH_done hr (hK _ _ _ _ _ h hN) _
  ·rename_i rs hne
   split at hs
   ·rename_i i hi
    obtain ⟨s', hs', rfl⟩ := Option.map_eq_some_iff.1 hs
    have hp := List.find?_some hi
    have hmem := List.mem_of_find?_eq_some hi
    cases hone : manyB (Region.ready .any ops listed) with
    | false =>
     obtain ⟨j, hr⟩ := manyB_one hone
     have hij : i = j := by
      rw [hr] at hmem
      simpa using hmem
     subst hij
     rw [hone] at hc
     refine wpAnyH_all hr (by simp) (fun q hq => ?_)
     simp only [List.mem_singleton] at hq
     subst hq
     exact one _ _ _ hs' hc h
    | true =>
    rw [hone] at hc
    simp only [Bool.and_eq_true] at hp
    simp only [compSched] at hc
    split at hc
    ·rename_i o ho
     split at hc
     ·rename_i xo l' hx hl
      cases hc
      have hx' := hx
      unfold compO at hx'
      split at hx'
      ·rename_i x g hcx hg
       cases hx'
       have hq : x.quiet = true := by
        have h1 := hp.1
        unfold quiets at h1
        rw [Array.getD_eq_getD_getElem?, Array.getElem?_map, ho] at h1
        have h2 := h1
        simp [hcx] at h2
        first
         | exact h2.1.1
         | exact h2.1
       have h' : Holds P I p (evGuard g ts fun t ts => match t with
        | true => evOp I true (some wr) x ts m fun v m => evDrawn I wr l' (putT ts o.dst v) m k
        | false => evDrawn I wr l' (putT ts o.dst (.tup [])) m k) := h
       obtain ⟨t, ts', ht, hA', h⟩ := guard_inv hg hN.toAt h'
       have fin : ∀ av v, ARep E m w av v → Holds P I p (evDrawn I wr l' (putT ts' o.dst av) m k) → YieldsIf P ops (Same (some wr) E m w) o v a → wpAnyH P .any ops Q (Same (some wr) E m w) (n + 1) listed a w := fun av v hr hk hy =>
        wpAnyH_take ho hns hp.2 (by simpa using hmem) (fun c a w h => hQ c _ _ a w h) hy (fun _ _ _ => rfl) (drawn_sim hI hns hQ wr n _ s' l' hs' hl ⟨hA'.putT hr o.dst, hN.grow, hN.fresh.put _ _⟩ hk hK)
       cases t
       ·exact fin _ undef skip_rep h (.inr ⟨ht, rfl⟩)
       ·obtain ⟨av, v, hk, hr, hrun⟩ := quiet_sim hI hcx hq hA' (fun _ => rfl) h
        exact fin _ v hr hk (.inl ⟨ht, fun w' hw' => hrun w' (.inr ⟨rfl, hw'⟩)⟩)
      ·cases hx'
     ·cases hc
    ·cases hc
   ·split at hs
    ·rename_i i hr
     obtain ⟨s', hs', rfl⟩ := Option.map_eq_some_iff.1 hs
     refine wpAnyH_all hr (by simp) (fun j hj => ?_)
     simp only [List.mem_singleton] at hj
     subst hj
     exact one _ _ _ hs' hc h
    ·rename_i i j hr
     split at hs
     ·rename_i s1 s2 h1 h2
      cases hs
      change (match compSched P ops (.op i false s1), compSched P ops (.op j false s2) with | some a, some b => some (DX.alt a b) | _, _ => none) = some l at hc
      split at hc
      ·rename_i l1 l2 g1 g2
       cases hc
       cases h with
       | both ha hb =>
       refine wpAnyH_all hr (by simp) (fun q hq => ?_)
       simp only [List.mem_cons, List.not_mem_nil, or_false] at hq
       rcases hq with rfl | rfl
       ·exact one _ _ _ h1 g1 ha
       ·exact one _ _ _ h2 g2 hb
      ·cases hc
     ·cases hs
    ·rename_i i j q3 hr
     split at hs
     ·rename_i s1 s2 s3 h1 h2 h3
      cases hs
      change (match compSched P ops (.op i false s1), compSched P ops (.alt (.op j false s2) (.op q3 false s3)) with | some a, some b => some (DX.alt a b) | _, _ => none) = some l at hc
      split at hc
      ·rename_i l1 l2 g1 g2
       cases hc
       change (match compSched P ops (.op j false s2), compSched P ops (.op q3 false s3) with | some a, some b => some (DX.alt a b) | _, _ => none) = some l2 at g2
       split at g2
       ·rename_i l3 l4 g3 g4
        cases g2
        cases h with
        | both ha hb =>
        cases hb with
        | both hb hc =>
        refine wpAnyH_all hr (by simp) (fun q hq => ?_)
        simp only [List.mem_cons, List.not_mem_nil, or_false] at hq
        rcases hq with rfl | rfl | rfl
        ·exact one _ _ _ h1 g1 ha
        ·exact one _ _ _ h2 g3 hb
        ·exact one _ _ _ h3 g4 hc
       ·cases g2
      ·cases hc
     ·cases hs
    ·cases hs
def Ex.out : Ex → Exit
 | .normal => .normal
 | .exit i => .exit i
 | .ret => .ret
theorem Now.drew (h : Now lo E0 m0 w0 E m w ts a) : Now lo E0 m0 w0 E m w.drew ts a := by
 have step : Step E m w E m w.drew := { Step.refl E m w with frz := fun _ _ => rfl, stays := ⟨fun x hx => ⟨hx, rfl⟩, fun a es c h => ⟨es, c, h, fun i e h => ⟨e, h, rfl, rfl⟩⟩⟩ }
 have grow : Grow (fun _ => True) E m w E m w.drew := { Grow.refl (fun _ => True) E m w with toStep := step, os := rfl, tape := rfl, output := rfl, size := Nat.le_refl _, block := fun _ _ _ => rfl }
 refine ⟨⟨⟨fun id blk hb hl => ?_, h.sat.inj, h.sat.dis, h.sat.old, fun id ag l hb => let ⟨a_, e, hlt, hm⟩ := h.sat.maps id ag l hb; ⟨a_, e, hlt, MapAt.step (w := w) (w' := w.drew) (a := a_) (a' := a_) (fun _ h => h) (fun _ _ => rfl) rfl hm⟩⟩, h.ts.step step, h.defers.step step⟩, h.grow.trans grow (fun _ _ h => h), h.fresh⟩
 rcases h.sat.rep id blk hb hl with h1 | ⟨a_, base, e, g1, g2, g3⟩
 ·exact .inl h1
 ·rw [e]
  exact BRep.step_rep step rfl (Nat.le_refl _) (fun _ => .inr ⟨a_, base, rfl, g1, g2, g3⟩) hl
theorem mask_get (keep : List Nat) : ∀ (ts : List A) (n i : Nat) (x : A), (maskT keep n ts)[i]? = some x → x = .one (.c .any) ∨ ts[i]? = some x
 | [], n, i, x, h => by simp [maskT] at h
 | t :: ts, n, i, x, h => by
  cases i with
  | zero =>
   simp only [maskT, List.getElem?_cons_zero, Option.some.injEq] at h
   split at h
   ·exact .inr (by rw [← h]; rfl)
   ·exact .inl h.symm
  | succ i =>
   simp only [maskT, List.getElem?_cons_succ] at h
   simpa using mask_get keep ts (n + 1) i x h
theorem mask_len (keep : List Nat) : ∀ (ts : List A) (n : Nat), (maskT keep n ts).length = ts.length
 | [], _ => rfl
 | t :: ts, n => by simp [maskT, mask_len keep ts]
theorem renw_grow (hI : I = ints) (hg : Grow (fun _ => True) E0 m0 w0 E m w) (hs : Sat E m w) {σ fz : List Nat} (hp : σ.take m0.length = List.range m0.length) (q : How) : Grow (fun _ => True) E0 m0 w0 (E.ren m σ fz (fun _ => False)) (invMem I σ q m) w := by
 have hpl : m0.length ≤ σ.length := by
  have := congrArg List.length hp
  simp at this
  omega
 have hσ : ∀ id, id < m0.length → σ[id]? = some id := fun id hid => by
  have : (σ.take m0.length)[id]? = some id := by rw [hp]; simp [hid]
  rw [List.getElem?_take, if_pos hid] at this
  exact this
 have hsh := inv_shape (I := I) σ q m
 have foot : ∀ k, LiveAt (fun _ => True) E m k → w0.heap.size ≤ k ∨ Foot (fun _ => True) E0 m0 k := fun k ⟨b, blk, x, h1, h2, h3, h4⟩ => hg.foot (Wt' := fun _ => True) (fun _ _ _ => trivial) ⟨b, blk, x, h1, h2, trivial, h4⟩
 exact
  {F := fun k hk => .inl (hg.F k hk)
   B := fun k hk => .inl (hg.B k hk)
   ρ := fun id hid => by rw [← hg.ρ id hid]; simp [Env.ren, hσ id hid]
   len := by rw [hsh.len]; exact hpl
   shape := fun id blk' hid h hl => by
    obtain ⟨blk, q1, q2, q3, q4⟩ := hsh.get id id blk' (hσ id hid) h hl
    obtain ⟨blk0, r1, r2, r3, r4⟩ := hg.shape id blk hid q1 q2
    exact ⟨blk0, r1, r2, q3.trans r3, q4.trans r4⟩
   frz := hg.frz
   stays := hg.stays
   B' := fun k hk => hk.elim (hg.B' k) (fun ⟨_, _, _, _, _, h, _⟩ => h.elim)
   os := hg.os
   tape := hg.tape
   output := hg.output
   size := hg.size
   block := hg.block
   newF := fun k hk => by
    rcases hk with hk | ⟨b, blk, x, h1, h2, h3, h4⟩
    ·exact hg.newF k hk
    ·exact .inr (foot k ⟨b, blk, x, h1, h2, trivial, h4⟩)
   newρ := fun id a_ x blk' hid h hl e => by
    cases hq : σ[id]? with
    | none => simp [Env.ren, hq] at e
    | some b =>
     obtain ⟨blk, q1, q2, _, _⟩ := hsh.get id b blk' hq h hl
     exact foot a_ ⟨b, blk, x, q1, q2, trivial, by simpa [Env.ren, hq] using e⟩ }
/-- Names are forgotten, frozen, turned: where a round ends, where a function returns. -/
theorem Now.tidy (hI : I = ints) (h : Now lo E0 m0 w0 E m w ts a) {σ fz keep : List Nat} (hσ : σ.Nodup) (hp : σ.take m0.length = List.range m0.length) : ∃ E', Now lo E0 m0 w0 E' (invMem I σ (.frz fz) m) w ((maskT keep 0 ts).map (A.inv I σ (.frz fz) m)) a ∧
  ∀ v u, ARep E m w v u → ARep E' (invMem I σ (.frz fz) m) w (v.inv I σ (.frz fz) m) u := by
 have hfz : ∀ l, How.frz fz = .frz l → ∀ b ∈ l, b ∉ σ → b ∈ fz.filter (fun b => !σ.contains b) := fun l e b hb hn => by
  cases e
  simp [hb, hn]
 have hB : ∀ es, How.frz fz = .bor es → ∀ b, b ∉ σ → (fun _ : Nat => False) b := fun es e => by cases e
 have hfσ : ∀ b ∈ fz.filter (fun b => !σ.contains b), b ∉ σ := fun b hb => by
  simp at hb
  exact hb.2
 have hsh := inv_shape (I := I) σ (.frz fz) m
 have hv : ∀ v u, ARep E m w v u → ARep (E.ren m σ (fz.filter (fun b => !σ.contains b)) (fun _ => False)) (invMem I σ (.frz fz) m) w (v.inv I σ (.frz fz) m) u := fun v u hv => ARep.inv hI h.sat hfz hB hsh hv
 refine ⟨_, ⟨⟨Sat.inv hI h.sat hσ hfz hB (fun _ h => h.elim) hfσ, ⟨by simp [mask_len, h.ts.1], fun i x hi => ?_⟩, h.defers.mono (fun _ h => .inl h) (fun _ _ => rfl)⟩, renw_grow hI h.grow h.sat hp _, h.fresh⟩, hv⟩
 rw [List.getElem?_map] at hi
 cases hq : (maskT keep 0 ts)[i]? with
 | none => simp [hq] at hi
 | some y =>
  simp [hq] at hi
  subst hi
  rcases mask_get keep ts 0 i y hq with rfl | hy
  ·exact any_rep _
  ·exact hv _ _ (h.ts.2 i y hy)
theorem sy_rows (b : Blk) : b.sy.rows.length = b.rows.length ∧ b.sy.es = b.es ∧ (b.sy.live ↔ b.live) := by cases b <;> simp [Blk.sy, Blk.rows, Blk.es, Blk.live]
theorem sy_get {id : Nat} {blk : Blk} (h : (m.map Blk.sy)[id]? = some blk) : ∃ b, m[id]? = some b ∧ blk = b.sy := by
 rw [List.getElem?_map] at h
 obtain ⟨b, hb, rfl⟩ := Option.map_eq_some_iff.1 h
 exact ⟨b, hb, rfl⟩
theorem CRep.sy {x : C} {u : Value} (h : CRep E m w x u) : CRep E (m.map Blk.sy) w x.sy u := by
 cases x with
 | any => exact h
 | g x =>
  cases x with
  | bool b => generalize u = v at h; cases h; exact .bool (.sym b.val)
  | int k z => generalize u = v at h; cases h; exact .int k (.sym z.val)
  | str s => exact h
  | nilp => exact h
  | nil => exact h
  | rows es l => exact h
 | bor es l => exact h
 | gp row j => exact h
 | ptr b i es j => exact ⟨by rw [List.length_map]; exact h.1, h.2⟩
 | row b es cap =>
  refine ⟨by rw [List.length_map]; exact h.1, h.2.1, fun blk hb hl => ?_⟩
  obtain ⟨b0, h1, rfl⟩ := sy_get hb
  obtain ⟨r1, r2, r3⟩ := sy_rows b0
  rw [r1, r2]
  exact h.2.2 b0 h1 (r3.1 hl)
 | sl b i es n cap =>
  refine ⟨by rw [List.length_map]; exact h.1, h.2.1, fun blk hb hl => ?_⟩
  obtain ⟨b0, h1, rfl⟩ := sy_get hb
  obtain ⟨r1, r2, r3⟩ := sy_rows b0
  rw [r1, r2]
  exact h.2.2 b0 h1 (r3.1 hl)
 | fn f l =>
  obtain ⟨us, h1, h2, h3⟩ := h
  exact ⟨us, h1, h2, fun i b es j hi => by rw [List.length_map]; exact h3 i b es j hi⟩
 | map b => exact ⟨by rw [List.length_map]; exact h.1, h.2⟩
 | stamp b z => exact ⟨by rw [List.length_map]; exact h.1, h.2⟩
theorem V1Rep.sy {x : V1} {u : Value} (h : V1Rep E m w x u) : V1Rep E (m.map Blk.sy) w x.sy u := by
 cases x with
 | c x =>
  rcases h with rfl | h
  ·exact .inl rfl
  ·exact .inr h.sy
 | agg l =>
  obtain ⟨cs, h1, h2, h3⟩ := h
  refine ⟨cs, h1, by simp [h2], fun i x hi => ?_⟩
  rw [List.getElem?_map] at hi
  obtain ⟨y, hy, rfl⟩ := Option.map_eq_some_iff.1 hi
  obtain ⟨u, h4, h5⟩ := h3 i y hy
  exact ⟨u, h4, h5.sy⟩
theorem ARep.sy {x : A} {u : Value} (h : ARep E m w x u) : ARep E (m.map Blk.sy) w x.sy u := by
 cases x with
 | one v => exact V1Rep.sy h
 | tup l =>
  obtain ⟨cs, h1, h2, h3⟩ := h
  refine ⟨cs, h1, by simp [h2], fun i x hi => ?_⟩
  rw [List.getElem?_map] at hi
  obtain ⟨y, hy, rfl⟩ := Option.map_eq_some_iff.1 hi
  obtain ⟨u, h4, h5⟩ := h3 i y hy
  exact ⟨u, h4, h5.sy⟩
theorem Now.sy (h : Now lo E0 m0 w0 E m w ts a) : Now lo E0 m0 w0 E (m.map Blk.sy) w (ts.map A.sy) a where
 sat := ⟨fun id blk hb hl => by
   obtain ⟨b0, h1, rfl⟩ := sy_get hb
   obtain ⟨r1, r2, r3⟩ := sy_rows b0
   refine (h.sat.rep id b0 h1 (r3.1 hl)).imp (fun q => ⟨q.1, List.eq_nil_of_length_eq_zero (by rw [r1, q.2]; rfl)⟩) ?_
   rintro ⟨a_, base, e, g1, g2, g3⟩
   refine ⟨a_, base, e, by rw [r1, r2]; exact g1, g2, fun i row hi => ?_⟩
   cases b0 with
   | dead => simp [Blk.sy, Blk.rows] at hi
   | mp ag l => simp [Blk.sy, Blk.rows] at hi
   | sym es l => exact ⟨(g3 i row hi).1, fun j x hj => by
     obtain ⟨u, h4, h5⟩ := (g3 i row hi).2 j x hj
     refine ⟨u, h4, ?_⟩
     have hg : ∃ y : G, x = .g y := by
      simp only [Blk.sy, Blk.rows] at hi
      rw [List.getElem?_map] at hi
      obtain ⟨r, hr, rfl⟩ := Option.map_eq_some_iff.1 hi
      rw [List.getElem?_map] at hj
      obtain ⟨y, hy, rfl⟩ := Option.map_eq_some_iff.1 hj
      exact ⟨y, rfl⟩
     obtain ⟨y, rfl⟩ := hg
     exact h5⟩
   | lit es rows =>
    simp only [Blk.sy, Blk.rows] at hi
    rw [List.getElem?_map] at hi
    obtain ⟨r, hr, rfl⟩ := Option.map_eq_some_iff.1 hi
    refine ⟨by rw [List.length_map]; exact (g3 i r hr).1, fun j x hj => ?_⟩
    rw [List.getElem?_map] at hj
    obtain ⟨y, hy, rfl⟩ := Option.map_eq_some_iff.1 hj
    obtain ⟨u, h4, h5⟩ := (g3 i r hr).2 j y hy
    exact ⟨u, h4, h5.sy⟩,
  fun i j bi bj a_ x y hi hj li lj ei ej => by
   obtain ⟨b1, h1, rfl⟩ := sy_get hi
   obtain ⟨b2, h2, rfl⟩ := sy_get hj
   exact h.sat.inj i j b1 b2 a_ x y h1 h2 ((sy_rows b1).2.2.1 li) ((sy_rows b2).2.2.1 lj) ei ej,
  fun i bi a_ x hi li ei => by
   obtain ⟨b1, h1, rfl⟩ := sy_get hi
   exact h.sat.dis i b1 a_ x h1 ((sy_rows b1).2.2.1 li) ei, h.sat.old,
  fun id ag l hb => by
   obtain ⟨b0, h1, e⟩ := sy_get hb
   cases b0 with
   | mp ag' l' => cases e; exact h.sat.maps id ag l h1
   | _ => cases e⟩
 ts := ⟨by rw [List.length_map]; exact h.ts.1, fun t x ht => by
  rw [List.getElem?_map] at ht
  obtain ⟨y, hy, rfl⟩ := Option.map_eq_some_iff.1 ht
  exact (h.ts.2 t y hy).sy⟩
 defers := h.defers
 fresh := h.fresh
 grow :=
  {F := h.grow.F, B := h.grow.B, ρ := h.grow.ρ, len := by rw [List.length_map]; exact h.grow.len
   shape := fun id blk' hid hb hl => by
    obtain ⟨b0, h1, rfl⟩ := sy_get hb
    obtain ⟨r1, r2, r3⟩ := sy_rows b0
    obtain ⟨blk, q1, q2, q3, q4⟩ := h.grow.shape id b0 hid h1 (r3.1 hl)
    exact ⟨blk, q1, q2, r1.trans q3, r2.trans q4⟩
   frz := h.grow.frz, stays := h.grow.stays, B' := h.grow.B', os := h.grow.os, tape := h.grow.tape, output := h.grow.output, size := h.grow.size, block := h.grow.block, newF := h.grow.newF
   newρ := fun id a_ x blk h1 h2 h3 h4 => by
    obtain ⟨b0, g1, rfl⟩ := sy_get h2
    exact h.grow.newρ id a_ x b0 h1 g1 ((sy_rows b0).2.2.1 h3) h4 }
theorem GRep_nil {F : Nat → Prop} {w : World} {u : Value} (h : GRep F w .nil u) : u = .slice none 0 0 := by
 generalize u = u' at h
 cases h
 rfl
/-- A nil field of a block is a row of its own. -/
theorem nil_field {E : Env} {m : Mem} {w : World} {Wt : Nat → Prop} (hs : Sat E m w) {b es i j : Nat} {rows : List (List C)} {row : List C} (hb : m[b]? = some (.lit es rows)) (hW : Wt b) (hi : rows[i]? = some row) (hj : row[j]? = some (.g .nil)) (es' : Nat) :
  ∃ E', Grow Wt E m w E' ((m.set b (.lit es (rows.set i (row.set j (.row m.length es' none))))) ++ [.sym es' []]) w ∧ Sat E' ((m.set b (.lit es (rows.set i (row.set j (.row m.length es' none))))) ++ [.sym es' []]) w := by
 obtain ⟨g1, s1⟩ := add_grow (Wt := Wt) (w' := w) hs (blk := .sym es' []) (r := none) (Nat.le_refl _) rfl rfl rfl (Stays.refl _) (fun _ _ => rfl) (fun _ _ h => by cases h) (fun _ => .inl ⟨rfl, rfl⟩)
 have hbm : b < m.length := (List.getElem?_eq_some_iff.1 hb).1
 have hb' : (m ++ [Blk.sym es' []])[b]? = some (.lit es rows) := by rw [List.getElem?_append_left hbm]; exact hb
 have hil : i < rows.length := (List.getElem?_eq_some_iff.1 hi).1
 have hjl : j < row.length := (List.getElem?_eq_some_iff.1 hj).1
 rcases s1.rep b _ hb' trivial with ⟨_, h0⟩ | ⟨a_, base, e, p1, p2, p3⟩
 ·have : rows = [] := h0
  rw [this] at hil
  simp at hil
 have hw := write_grow (w' := w) (Wt := Wt) s1 hb' trivial (blk' := .lit es (rows.set i (row.set j (.row m.length es' none)))) trivial e hW rfl rfl rfl rfl (fun _ _ => rfl) (Stays.refl _) (by simp [Blk.rows]) rfl (fun i' row' hi' => by
  simp only [Blk.rows, Blk.es] at hi' ⊢
  rw [List.getElem?_set] at hi'
  by_cases hii : i = i'
  ·subst hii
   simp only [hil, if_true, Option.some.injEq] at hi'
   subst hi'
   obtain ⟨q1, q2⟩ := p3 i row hi
   refine ⟨by rw [List.length_set]; exact q1, fun j' x hj' => ?_⟩
   rw [List.getElem?_set] at hj'
   by_cases hjj : j = j'
   ·subst hjj
    simp only [hjl, if_true, Option.some.injEq] at hj'
    subst hj'
    obtain ⟨u, r1, r2⟩ := q2 j _ hj
    refine ⟨u, r1, ?_⟩
    obtain rfl := GRep_nil r2
    refine ⟨by simp, rfl, fun blk hbk hl => ?_⟩
    rw [List.getElem?_append_right (Nat.le_refl _)] at hbk
    simp at hbk
    subst hbk
    exact ⟨rfl, fun c' hc => (by cases hc), .inl ⟨if_pos rfl, rfl⟩⟩
   ·simp only [hjj, if_false] at hj'
    exact q2 j' x hj'
  ·simp only [hii, if_false] at hi'
   exact p3 i' row' hi')
 rw [List.set_append_left _ _ hbm] at hw
 exact ⟨_, g1.trans hw.1 (fun _ _ h => h), hw.2⟩
/-- A nil slice in a slot is a row of its own. -/
theorem Now.own (h : Now lo E0 m0 w0 E m w ts a) {t es : Nat} (ht : ts[t]? = some (.one (.c (.g .nil)))) : Now lo E0 m0 w0 (E.add m.length none) (m ++ [.sym es []]) w (ts.set t (.one (.c (.row m.length es none)))) a := by
 obtain ⟨g, s⟩ := add_grow (Wt := fun _ => True) (w' := w) h.sat (blk := .sym es []) (r := none) (Nat.le_refl _) rfl rfl rfl (Stays.refl _) (fun _ _ => rfl) (fun _ _ h => by cases h) (fun _ => .inl ⟨rfl, rfl⟩)
 refine ⟨⟨s, ⟨by rw [List.length_set]; exact h.ts.1, fun q x hq => ?_⟩, h.defers.step g.toStep⟩, h.grow.trans g (fun _ _ h => h), h.fresh⟩
 rw [List.getElem?_set] at hq
 by_cases htq : t = q
 ·subst htq
  have hlt : t < ts.length := (List.getElem?_eq_some_iff.1 ht).1
  simp only [hlt, if_true, Option.some.injEq] at hq
  subst hq
  have hu : a.tmps.getD t undef = .slice none 0 0 := by
   have h0 := h.ts.2 t _ ht
   rcases h0 with h0 | h0
   ·cases h0
   ·generalize a.tmps.getD t undef = u at h0
    cases h0
    rfl
  refine .inr ⟨by simp, by rw [hu]; rfl, fun blk hb hl => ?_⟩
  rw [List.getElem?_append_right (Nat.le_refl _)] at hb
  simp at hb
  subst hb
  exact ⟨rfl, fun c' hc => (by cases hc), .inl ⟨if_pos rfl, hu⟩⟩
 ·simp only [htq, if_false] at hq
  exact (h.ts.2 q x hq).step g.toStep
inductive LoopHolds (P : Program) (I : Ints) (p : Nat) (x : X) (ts : List A) (m : Mem) (k : Ex → List A → Mem → Tree) : Prop where
 | mk (Inv : Nat → List A → Mem → Prop) (n : Nat) (ts0 : List A) (m0 : Mem) (σ fz : List Nat) (keep : List Nat)
   (hσ : σ.Nodup) (hp : σ.take p = List.range p) (ht : ts0 = ((maskT keep 0 ts).map (A.inv I σ (.frz fz) m)).map A.sy) (hm : m0 = (invMem I σ (.frz fz) m).map Blk.sy) (h0 : Inv n ts0 m0)
   (h : ∀ (n : Nat) (ts : List A) (m : Mem), Inv n ts m → Holds P I p (ev I x ts m fun e ts m => match e with
     | .normal => .goal (∃ (n' : Nat) (ts1 : List A) (m1 : Mem) (σ fz : List Nat) (keep : List Nat), n' < n ∧ σ.Nodup ∧ σ.take p = List.range p ∧ ts1 = ((maskT keep 0 ts).map (A.inv I σ (.frz fz) m)).map A.sy ∧ m1 = (invMem I σ (.frz fz) m).map Blk.sy ∧ Inv n' ts1 m1)
     | .exit i => k (.exit i) ts m
     | .ret => k .ret ts m)) : LoopHolds P I p x ts m k
theorem loop_inv {x : X} {k : Ex → List A → Mem → Tree} : ∀ {T : Tree}, Holds P I p T → ∀ {ts : List A} {m : Mem} {E : Env}, T = .loop x ts m k → Now lo E0 m0 w0 E m w ts a → ∃ E' ts' m', Now lo E0 m0 w0 E' m' w ts' a ∧ LoopHolds P I p x ts' m' k := by
 intro T h
 induction h with
 | loop Inv n ts0 m1 σ fz keep hσ hpσ ht hm h0 h =>
  intro ts m E e hN
  cases e
  exact ⟨E, _, _, hN, .mk Inv n ts0 m1 σ fz keep hσ hpσ ht hm h0 h⟩
 | own t es ht h ih =>
  intro ts m E e hN
  cases e
  exact ih rfl (hN.own ht)
 | ownc b es i j es' rows row hb hi hj h ih =>
  intro ts m E e hN
  cases e
  obtain ⟨E2, g, s⟩ := nil_field (Wt := fun _ => True) hN.sat hb trivial hi hj es'
  exact ih rfl ⟨⟨s, hN.ts.step g.toStep, hN.defers.step g.toStep⟩, hN.grow.trans g (fun _ _ h => h), hN.fresh⟩
 | _ => intro ts m E e; cases e
theorem Now.tidy2 (hI : I = ints) (h : Now lo E0 m0 w0 E m w ts a) {σ fz keep : List Nat} (hσ : σ.Nodup) (hp : σ.take m0.length = List.range m0.length) : ∃ E', Now lo E0 m0 w0 E' (invMem I σ (.frz fz) m) w ((maskT keep 0 ts).map (A.inv I σ (.frz fz) m)) a ∧
  (∀ i b, σ[i]? = some b → E'.ρ i = E.ρ b) ∧ (∀ k, E'.F k → E.F k ∨ ∃ b blk x, m[b]? = some blk ∧ blk.live ∧ E.ρ b = some (k, x)) ∧ (∀ k, E'.B k → E.B k) := by
 have hfz : ∀ l, How.frz fz = .frz l → ∀ b ∈ l, b ∉ σ → b ∈ fz.filter (fun b => !σ.contains b) := fun l e b hb hn => by
  cases e
  simp [hb, hn]
 have hB : ∀ es, How.frz fz = .bor es → ∀ b, b ∉ σ → (fun _ : Nat => False) b := fun es e => by cases e
 have hfσ : ∀ b ∈ fz.filter (fun b => !σ.contains b), b ∉ σ := fun b hb => by
  simp at hb
  exact hb.2
 have hsh := inv_shape (I := I) σ (.frz fz) m
 have hv : ∀ v u, ARep E m w v u → ARep (E.ren m σ (fz.filter (fun b => !σ.contains b)) (fun _ => False)) (invMem I σ (.frz fz) m) w (v.inv I σ (.frz fz) m) u := fun v u hv => ARep.inv hI h.sat hfz hB hsh hv
 refine ⟨E.ren m σ (fz.filter (fun b => !σ.contains b)) (fun _ => False), ⟨⟨Sat.inv hI h.sat hσ hfz hB (fun _ h => h.elim) hfσ, ⟨by simp [mask_len, h.ts.1], fun i x hi => ?_⟩, h.defers.mono (fun _ h => .inl h) (fun _ _ => rfl)⟩, renw_grow hI h.grow h.sat hp _, h.fresh⟩, fun i b hb => by simp [Env.ren, hb], fun k hk => hk.imp id (fun ⟨b, blk, x, h1, h2, _, h4⟩ => ⟨b, blk, x, h1, h2, h4⟩), fun k hk => hk.elim id (fun ⟨_, _, _, _, _, h, _⟩ => h.elim)⟩
 rw [List.getElem?_map] at hi
 cases hq : (maskT keep 0 ts)[i]? with
 | none => simp [hq] at hi
 | some y =>
  simp [hq] at hi
  subst hi
  rcases mask_get keep ts 0 i y hq with rfl | hy
  ·exact any_rep _
  ·exact hv _ _ (h.ts.2 i y hy)
/-! ### Ranges over maps -/
theorem heap_setI {w : World} {r k : Nat} {o : Obj} : ({ w with heap := w.heap.setIfInBounds r o } : World).heap[k]? = if r = k ∧ r < w.heap.size then some o else w.heap[k]? := by
 show (w.heap.setIfInBounds r o)[k]? = _
 rw [Array.getElem?_setIfInBounds]
 by_cases h1 : r = k
 ·subst h1
  by_cases h2 : r < w.heap.size
  ·simp [h2]
  ·simp [h2]
 ·simp [h1]
/-- 'next', the map as it was when the loop began. -/
theorem run_next_at (w : World) (ty : TypeId) (r bm since : Nat) (seen : Array Nat) (es : Array MapEntry) (hr : w.heap[r]? = some (.mapIter (some bm) since seen since)) (hb : w.heap[bm]? = some (.map es since)) (hold : ∀ x ∈ es.toList, x.born < since) :
  ((leftOf es seen).size = 0 ∧ (Instr.next (.pointer (some ⟨r, 0, none⟩)) false ty).run P w = .ok (.tuple #[.bool false]) w) ∨
  ∃ e ∈ (leftOf es seen).toList, ∃ w1 : World, (w1 = w ∨ w1 = w.drew) ∧ (Instr.next (.pointer (some ⟨r, 0, none⟩)) false ty).run P w = .ok (.tuple #[.bool true, e.key, e.val]) { w1 with heap := w1.heap.setIfInBounds r (.mapIter (some bm) since (seen.push e.born) since) } := by
 simp only [Instr.next, getObj, Sem.run_bind, Sem.run, hr, hb, Result.andThen, next_test_false seen es since since hold (Nat.le_refl _), Bool.false_eq_true, if_false]
 unfold leftOf
 have hmem : ∀ x ∈ (Array.filter (fun e => !seen.contains e.born) es).toList, x.born < since := fun x hx => hold x (by simp at hx ⊢; exact hx.1)
 generalize Array.filter (fun e => !seen.contains e.born) es = L at hmem ⊢
 have e1 : L.filter (fun x => decide (x.born < since)) = L := Array.filter_eq_self.2 (fun x hx => by simpa using hmem x (by simpa using hx))
 have e2 : L.filter (fun x => decide (x.born ≥ since)) = #[] := by
  rw [Array.filter_eq_empty_iff]
  intro x hx
  have := hmem x (by simpa using hx)
  simp
  omega
 simp only [e1, e2, Array.append_empty]
 by_cases h0 : L.size = 0
 ·left
  have : L = #[] := Array.eq_empty_of_size_eq_zero h0
  subst this
  refine ⟨rfl, ?_⟩
  simp [choose, Sem.run, Question.forced]
 ·right
  have hne : L.isEmpty = false := by simp [Array.isEmpty, h0]
  simp only [hne, Bool.false_eq_true, if_false, Array.empty_append, Array.size_map]
  have hch : ∃ (j : Nat) (w1 : World), j < L.size ∧ (w1 = w ∨ w1 = w.drew) ∧ (choose (Question.mapNext L.size)).run P w = .ok j w1 := by
   by_cases hf : L.size ≤ 1
   ·exact ⟨0, w, by omega, .inl rfl, by simp [choose, Sem.run, Question.forced, hf]⟩
   ·exact ⟨_, w.drew, Nat.mod_lt _ (by omega), .inr rfl, by
     simp only [choose, Sem.run, Question.forced, decide_eq_true_eq, hf, if_false, Question.cut]
     rfl⟩
  obtain ⟨j, w1, hj, hw1, hrun⟩ := hch
  have hr1 : w1.heap[r]? = some (.mapIter (some bm) since seen since) := by rcases hw1 with rfl | rfl <;> exact hr
  refine ⟨L[j], by simp, w1, hw1, ?_⟩
  have hset : ∀ o' : Obj, (setObj r o').run P w1 = .ok () ({ w1 with heap := w1.heap.setIfInBounds r o' } : World) := fun o' => by
   simp only [setObj, Sem.run, hr1]
  simp only [hrun, Array.getElem?_map, Array.getElem?_eq_getElem hj, Option.map_some, Sem.run_bind, hset, Result.andThen]
  rfl
theorem run_entry_at (w : World) (r bm since : Nat) (seen : Array Nat) (es : Array MapEntry) (e : MapEntry) (hr : w.heap[r]? = some (.mapIter (some bm) since (seen.push e.born) since)) (hb : w.heap[bm]? = some (.map es since)) (he : e ∈ es.toList) (hn : (es.toList.map (·.born)).Nodup) :
  (Instr.entry (.pointer (some ⟨r, 0, none⟩))).run P w = .ok (.tuple #[e.key, e.val]) w := by
 have hf : es.find? (·.born == e.born) = some e := by rw [← Array.find?_toList]; exact find_born e es.toList hn he
 simp only [Instr.entry, getObj, Sem.run_bind, Sem.run, hr, hb, Result.andThen, Array.back?_push, bne_self_eq_false, Bool.false_eq_true, if_false, hf]
 rfl
/-- The iterator alone is turned. -/
theorem Now.turn (h : Now lo E0 m0 w0 E m w ts a) {r : Nat} {o o' : Obj} (hr : w.heap[r]? = some o) (ho : ∀ es c, o ≠ .map es c) (hc : ∀ x : Addr, x.block = r → w.cell? x = none) (h0 : w0.heap.size ≤ r) (hF : ¬ E.F r) (hB : ¬ E.B r)
  (hl : ∀ id blk x, m[id]? = some blk → blk.live → E.ρ id ≠ some (r, x)) : Now lo E0 m0 w0 E m { w with heap := w.heap.setIfInBounds r o' } ts a := by
 have hsame : ∀ k, k ≠ r → ({ w with heap := w.heap.setIfInBounds r o' } : World).heap[k]? = w.heap[k]? := fun k hk => by
  rw [heap_setI, if_neg (fun e => hk e.1.symm)]
 have hst : Stays w { w with heap := w.heap.setIfInBounds r o' } := by
  refine ⟨fun x hx => ?_, fun a_ es c hm => ?_⟩
  ·have hne : x.block ≠ r := fun e => by rw [hc x e] at hx; cases hx
   exact ⟨by rw [World.cell?_of_block (hsame _ hne)]; exact hx, World.frozen?_of_block (hsame _ hne)⟩
  ·have hne : a_ ≠ r := fun e => by
    rw [e, hr] at hm
    exact ho es c (Option.some.inj hm)
   exact ⟨es, c, (hsame _ hne).trans hm, fun i e h => ⟨e, h, rfl, rfl⟩⟩
 have hfr : ∀ k, E.F k ∨ E.B k → ({ w with heap := w.heap.setIfInBounds r o' } : World).heap[k]? = w.heap[k]? := fun k hk => hsame k (fun e => by subst e; exact hk.elim hF hB)
 have step : Step E m w E m { w with heap := w.heap.setIfInBounds r o' } := { Step.refl E m w with frz := hfr, stays := hst }
 refine ⟨⟨⟨fun id blk hb hlv => ?_, h.sat.inj, h.sat.dis, fun k hk => by simpa using h.sat.old k hk, fun id ag l hb => ?_⟩, h.ts.step step, h.defers.step step⟩, ?_, h.fresh.mono (by simp)⟩
 ·rcases h.sat.rep id blk hb hlv with h1 | ⟨a_, base, e, g1, g2, g3⟩
  ·exact .inl h1
  ·rw [e]
   exact BRep.step_rep step (hsame a_ (fun q => hl id blk base hb hlv (by rw [e, q]))) (by simp) (fun _ => .inr ⟨a_, base, rfl, g1, g2, g3⟩) hlv
 ·obtain ⟨a_, e, hlt, hm⟩ := h.sat.maps id ag l hb
  exact ⟨a_, e, by simpa using hlt, MapAt.step (fun _ h => h) (fun k hk => hfr k (.inl hk)) (hsame a_ (fun q => hl id _ 0 hb trivial (by rw [e, q]))) hm⟩
 ·have hg := h.grow
  exact { hg with
   frz := fun k hk => (hsame k (fun e => by subst e; exact hk.elim (fun q => hF (hg.F _ q)) (fun q => hB (hg.B _ q)))).trans (hg.frz k hk)
   stays := hg.stays.trans hst
   size := by simpa using hg.size
   block := fun k hk hn => (hsame k (by omega)).trans (hg.block k hk hn)
   os := hg.os, tape := hg.tape, output := hg.output }
theorem notRow_cell {b' : Nat} {blk0 : Blk} {E' : Env} {m1 : Mem} {w' : World} {x : C} {u : Value} (hn : x.notRow b' = true) (hx : CRep E' m1 w' x u) : CRep E' (m1.set b' blk0) w' x u := by
 cases x with
 | any => exact hx
 | g x => exact hx
 | bor es l => exact hx
 | gp row j => exact hx
 | ptr b i es j => exact ⟨by rw [List.length_set]; exact hx.1, hx.2⟩
 | row b es cap =>
  have hbb : ¬ b = b' := by simpa [C.notRow] using hn
  refine ⟨by rw [List.length_set]; exact hx.1, hx.2.1, fun blk hk hl => hx.2.2 blk ?_ hl⟩
  rw [List.getElem?_set, if_neg (fun e => hbb e.symm)] at hk
  exact hk
 | sl b i es n cap =>
  have hbb : ¬ b = b' := by simpa [C.notRow] using hn
  refine ⟨by rw [List.length_set]; exact hx.1, hx.2.1, fun blk hk hl => hx.2.2 blk ?_ hl⟩
  rw [List.getElem?_set, if_neg (fun e => hbb e.symm)] at hk
  exact hk
 | fn f l => exact let ⟨us, h1, h2, h3⟩ := hx; ⟨us, h1, h2, fun i b es j hi => ⟨by rw [List.length_set]; exact (h3 i b es j hi).1, (h3 i b es j hi).2⟩⟩
 | map b => exact ⟨by rw [List.length_set]; exact hx.1, hx.2⟩
 | stamp b z => exact ⟨by rw [List.length_set]; exact hx.1, hx.2⟩
theorem notRow_v {b' : Nat} {blk0 : Blk} {E' : Env} {m1 : Mem} {w' : World} {x : V1} {u : Value} (hn : x.notRow b' = true) (hx : V1Rep E' m1 w' x u) : V1Rep E' (m1.set b' blk0) w' x u := by
 cases x with
 | c x => exact hx.imp id (notRow_cell hn)
 | agg l =>
  obtain ⟨cs, h1, h2, h3⟩ := hx
  exact ⟨cs, h1, h2, fun i x hi => let ⟨u, h4, h5⟩ := h3 i x hi; ⟨u, h4, notRow_cell (List.all_eq_true.1 hn x (List.mem_of_getElem? hi)) h5⟩⟩
theorem notRow_a {b' : Nat} {blk0 : Blk} {E' : Env} {m1 : Mem} {w' : World} {x : A} {u : Value} (hn : x.notRow b' = true) (hx : ARep E' m1 w' x u) : ARep E' (m1.set b' blk0) w' x u := by
 cases x with
 | one v => exact notRow_v hn hx
 | tup l =>
  obtain ⟨cs, h1, h2, h3⟩ := hx
  exact ⟨cs, h1, h2, fun i x hi => let ⟨u, h4, h5⟩ := h3 i x hi; ⟨u, h4, notRow_v (List.all_eq_true.1 hn x (List.mem_of_getElem? hi)) h5⟩⟩
/-- A map that a stretch had not is there again. -/
theorem restore {b' : Nat} {ag : Option Nat} {l : List (List G)} {E' : Env} {m1 : Mem} {w' : World} (hs : Sat E m w) (hb : m[b']? = some (.mp ag l)) (hs' : Sat E' m1 w') (hn : m1.all (Blk.notRow b') = true) (hg : Grow (fun _ => True) E (m.set b' .dead) w E' m1 w') :
  Sat E' (m1.set b' (.mp ag l)) w' ∧ Grow (fun _ => True) E m w E' (m1.set b' (.mp ag l)) w' := by
 obtain ⟨bm, hρ, hlt, hma⟩ := hs.maps b' ag l hb
 have hbl : b' < m.length := (List.getElem?_eq_some_iff.1 hb).1
 have hl1 : m.length ≤ m1.length := by have := hg.len; simpa using this
 have hnf : ¬ Foot (fun _ => True) E (m.set b' .dead) bm := by
  rintro ⟨id, blk, x, h1, h2, _, h4⟩
  rw [List.getElem?_set] at h1
  split at h1
  ·cases h1
   exact h2
  ·rename_i hne
   exact hne (hs.inj b' id _ blk bm 0 x hb h1 trivial h2 hρ h4)
 have hsame : w'.heap[bm]? = w.heap[bm]? := hg.block bm hlt hnf
 have hρ' : E'.ρ b' = some (bm, 0) := (hg.ρ b' (by simpa using hbl)).trans hρ
 have hd1 : ∀ blk, m1[b']? = some blk → ¬ blk.live := fun blk h hl => by
  obtain ⟨blk0, h1, h2, _⟩ := hg.shape b' blk (by simpa using hbl) h hl
  rw [List.getElem?_set, if_pos rfl, if_pos hbl] at h1
  cases h1
  exact h2
 have hno : ∀ id blk x, m1[id]? = some blk → blk.live → E'.ρ id = some (bm, x) → False := fun id blk x h1 h2 h3 => by
  rcases Nat.lt_or_ge id m.length with hid | hid
  ·obtain ⟨blk0, g1, g2, _⟩ := hg.shape id blk (by simpa using hid) h1 h2
   exact hnf ⟨id, blk0, x, g1, g2, trivial, (hg.ρ id (by simpa using hid)).symm.trans h3⟩
  ·rcases hg.newρ id bm x blk (by simpa using hid) h1 h2 h3 with h4 | h4
   ·omega
   ·exact hnf h4
 have hF' : ¬ E'.F bm ∧ ¬ E'.B bm := by
  obtain ⟨d1, d2⟩ := hs.dis b' _ bm 0 hb trivial hρ
  refine ⟨fun h => ?_, fun h => d2 (hg.B' _ h)⟩
  rcases hg.newF bm h with h1 | h1 | h1
  ·exact d1 h1
  ·omega
  ·exact hnf h1
 have get : ∀ (id : Nat) (blk : Blk), (m1.set b' (.mp ag l))[id]? = some blk → (id = b' ∧ blk = .mp ag l) ∨ (id ≠ b' ∧ m1[id]? = some blk) := fun id blk h => by
  rw [List.getElem?_set] at h
  split at h
  ·rename_i e
   split at h
   ·cases h; exact .inl ⟨e.symm, rfl⟩
   ·cases h
  ·rename_i e
   exact .inr ⟨fun q => e q.symm, h⟩
 have hma' : MapAt w' E'.F ag l bm := hma.step hg.F (fun k hk => hg.frz k (.inl hk)) hsame
 have hlt' : bm < w'.heap.size := Nat.lt_of_lt_of_le hlt hg.size
 have hm1l : b' < m1.length := by omega
 refine ⟨⟨fun id blk hk hl => ?_, fun i j bi bj c x y hi hj li lj ei ej => ?_, fun i bi c x hi li ei => ?_, hs'.old, fun id ag1 l1 hk => ?_⟩, ?_⟩
 ·rcases get id blk hk with ⟨rfl, rfl⟩ | ⟨hne, hk⟩
  ·exact .inr ⟨bm, 0, hρ', fun j hj => by simp [Blk.rows] at hj, hlt', fun i row hi => by simp [Blk.rows] at hi⟩
  ·rcases hs'.rep id blk hk hl with h1 | ⟨a_, base, e, g1, g2, g3⟩
   ·exact .inl h1
   ·refine .inr ⟨a_, base, e, g1, g2, fun i row hi => ⟨(g3 i row hi).1, fun j x hj => ?_⟩⟩
    obtain ⟨u, q1, q2⟩ := (g3 i row hi).2 j x hj
    refine ⟨u, q1, notRow_cell ?_ q2⟩
    have hbn := List.all_eq_true.1 hn blk (List.mem_of_getElem? hk)
    cases blk with
    | dead => exact hl.elim
    | lit es rows => exact List.all_eq_true.1 (List.all_eq_true.1 hbn row (List.mem_of_getElem? hi)) x (List.mem_of_getElem? hj)
    | sym es l =>
     simp only [Blk.rows, List.getElem?_map] at hi
     obtain ⟨r, hr, rfl⟩ := Option.map_eq_some_iff.1 hi
     rw [List.getElem?_map] at hj
     obtain ⟨g, hg', rfl⟩ := Option.map_eq_some_iff.1 hj
     rfl
    | mp _ _ => simp [Blk.rows] at hi
 ·rcases get i bi hi with ⟨ei', rfl⟩ | ⟨hne1, hi'⟩ <;> rcases get j bj hj with ⟨ej', rfl⟩ | ⟨hne2, hj'⟩
  ·exact ei'.trans ej'.symm
  ·rw [ei', hρ'] at ei
   cases ei
   exact (hno j bj y hj' lj ej).elim
  ·rw [ej', hρ'] at ej
   cases ej
   exact (hno i bi x hi' li ei).elim
  ·exact hs'.inj i j bi bj c x y hi' hj' li lj ei ej
 ·rcases get i bi hi with ⟨rfl, rfl⟩ | ⟨hne1, hi⟩
  ·rw [hρ'] at ei
   cases ei
   exact hF'
  ·exact hs'.dis i bi c x hi li ei
 ·rcases get id _ hk with ⟨rfl, e⟩ | ⟨hne, hk⟩
  ·cases e
   exact ⟨bm, hρ', hlt', hma'⟩
  ·exact hs'.maps id ag1 l1 hk
 ·have old : ∀ (id : Nat) (blk : Blk), (m.set b' .dead)[id]? = some blk → blk.live → m[id]? = some blk := fun id blk h hl => by
   rw [List.getElem?_set] at h
   split at h
   ·cases h
    exact hl.elim
   ·exact h
  have foot : ∀ k, Foot (fun _ => True) E (m.set b' .dead) k → Foot (fun _ => True) E m k := fun k ⟨id, blk, x, h1, h2, h3, h4⟩ => ⟨id, blk, x, old id blk h1 h2, h2, h3, h4⟩
  exact
   {F := hg.F, B := hg.B, ρ := fun id hid => hg.ρ id (by simpa using hid), len := by rw [List.length_set]; exact hl1
    shape := fun id blk' hid hk hl => by
     rcases get id blk' hk with ⟨rfl, rfl⟩ | ⟨hne, hk⟩
     ·exact ⟨_, hb, trivial, rfl, rfl⟩
     ·obtain ⟨blk0, q1, q2, q3, q4⟩ := hg.shape id blk' (by simpa using hid) hk hl
      exact ⟨blk0, old id blk0 q1 q2, q2, q3, q4⟩
    frz := hg.frz, stays := hg.stays, B' := hg.B', os := hg.os, tape := hg.tape, output := hg.output, size := hg.size
    block := fun k hk hnf => hg.block k hk (fun h => hnf (foot k h))
    newF := fun k hk => (hg.newF k hk).imp id (fun h => h.imp id (foot k))
    newρ := fun id a_ x blk h1 h2 h3 h4 => by
     rcases get id blk h2 with ⟨rfl, _⟩ | ⟨_, h2⟩
     ·omega
     ·exact (hg.newρ id a_ x blk (by simpa using h1) h2 h3 h4).imp (fun h => h) (foot a_) }
/-- Places where ways meet. -/
theorem join_sim {c : Code} {x : X} (hI : I = ints) (hp : m0.length = p)
  (plain : ∀ {E : Env} {m : Mem} {w : World} {ts : List A} {a : Act} {k : Ex → List A → Mem → Tree} {Q : Exit → Act → World → Prop}, (∀ c d v a w, Q (.panic c) (Act.put a d v) w → Q (.panic c) a w) →
   Now lo E0 m0 w0 E m w ts a → Holds P I p (ev I x ts m k) → (∀ e ts' m' E' w' a', Holds P I p (k e ts' m') → Now lo E0 m0 w0 E' m' w' ts' a' → Q e.out a' w') → c.wp P Q a w)
  {E : Env} {m : Mem} {w : World} {ts : List A} {a : Act} {k : Ex → List A → Mem → Tree} {Q : Exit → Act → World → Prop} (hQ : ∀ c d v a w, Q (.panic c) (Act.put a d v) w → Q (.panic c) a w)
  (hN : Now lo E0 m0 w0 E m w ts a) (h : Holds P I p (.join x ts m k)) (hK : ∀ e ts' m' E' w' a', Holds P I p (k e ts' m') → Now lo E0 m0 w0 E' m' w' ts' a' → Q e.out a' w') : c.wp P Q a w := by
 cases h with
 | pass h => exact plain hQ hN h hK
 | join Post h1 h2 =>
  subst hp
  refine plain hQ hN h1 (fun e ts' m' E' w' a' hk hN' => ?_)
  cases e with
  | normal =>
   cases hk with
   | goal hk =>
   obtain ⟨ts1, m1, σ, fz, keep, hσ, hpσ, ht, hm, hi⟩ := hk
   obtain ⟨E2, hN2, -⟩ := Now.tidy (keep := keep) hI hN' (fz := fz) hσ hpσ
   replace hN2 := hN2.sy
   rw [← ht, ← hm] at hN2
   exact hK .normal _ _ _ _ _ (h2 _ _ hi) hN2
  | exit i => exact hK (.exit i) _ _ _ _ _ hk hN'
  | ret => exact hK .ret _ _ _ _ _ hk hN'
theorem rangeAt_inv {b c : Code} {q : RQ} (h : rangeAt b c = some q) : ∃ (r0 r1 r2 id : Nat) (ops1 : Array Oper) (o1 o2 o3 : Oper), b = .region r0 q.ops0 false ∧ c = .block id (.loop (.seq (.region r1 ops1 false) (.seq (.cond (.tmp q.tok) .skip (.exit id)) (.block q.b7 (.seq (.region r2 q.ops2 false) q.rest))))) ∧
  q.ops0.toList = q.pre ++ [q.o0] ∧ ops1.toList = [o1, o2] ∧ q.ops2.toList = o3 :: q.tl ∧ (q.o0.op = .range q.T q.x ∧ q.o0.dst = some q.it ∧ q.o0.guard = none) ∧ (o1.op = .next (.tmp q.it) false ∧ o1.dst = some q.t1 ∧ o1.guard = none) ∧ (o2.op = .extract (.tmp q.t1) 0 ∧ o2.dst = some q.tok ∧ o2.guard = none) ∧
  (o3.op = .entry (.tmp q.it) ∧ o3.dst = some q.t2 ∧ o3.guard = none) ∧ q.t1 ≠ q.it ∧ q.tok ≠ q.it ∧ q.t2 ≠ q.it ∧ q.t1 ≠ q.tok := by
 unfold rangeAt at h
 split at h
 ·rename_i r0 ops0 id r1 ops1 tok id' b7 r2 ops2 rest
  split at h
  ·rename_i o0 o1 o2 o3 tl h1 h2 h3
   split at h
   ·rename_i T x it g1 g2 g3
    split at h
    ·rename_i it1 t1 g4 g5 g6
     split at h
     ·rename_i t1' tok' g7 g8 g9
      split at h
      ·rename_i it2 t2 g10 g11 g12
       split at h
       ·rename_i hb
        cases h
        simp only [Bool.and_eq_true, Bool.not_eq_true', beq_iff_eq, beq_eq_false_iff_ne, ne_eq] at hb
        obtain ⟨⟨⟨⟨⟨⟨⟨⟨rfl, rfl⟩, rfl⟩, rfl⟩, rfl⟩, b1⟩, b2⟩, b3⟩, b4⟩ := hb
        have h1' : ops0.toList = ops0.toList.dropLast ++ [o0] := by
         obtain ⟨l', hl'⟩ := List.getLast?_eq_some_iff.1 h1
         rw [hl']
         simp
        exact ⟨r0, r1, r2, _, ops1, o1, o2, o3, rfl, rfl, h1', h2, h3, ⟨g1, g2, g3⟩, ⟨g4, g5, g6⟩, ⟨g7, g8, g9⟩, ⟨g10, g11, g12⟩, b1, b2, b3, b4⟩
       ·cases h
      ·cases h
     ·cases h
    ·cases h
   ·cases h
  ·cases h
 ·cases h
theorem ops_sim2 {ops : Array Oper} {Q : Exit → Act → World → Prop} (hI : I = ints) (l2 : List Oper) : ∀ (l : List Oper) (xs : List XO) {E : Env} {m : Mem} {w : World} {ts : List A} {a : Act} {k : List A → Mem → Tree}, compOs P ops l = some xs → Now lo E0 m0 w0 E m w ts a → Holds P I p (evOps I xs ts m k) →
  (∀ ts' m' E' w' a', Holds P I p (k ts' m') → Now lo E0 m0 w0 E' m' w' ts' a' → wpList P ops Q l2 a' w') → wpList P ops Q (l ++ l2) a w
 | [], xs, E, m, w, ts, a, k, hc, hN, h, hK => by
  cases hc
  exact hK _ _ _ _ _ h hN
 | o :: l, xs, E, m, w, ts, a, k, hc, hN, h, hK => by
  simp only [compOs] at hc
  split at hc
  ·rename_i x xl hx hl
   cases hc
   refine wpList_step fun K hK' => ?_
   exact one_sim hI hx hN h (fun ts' m' E' w' a' hk hN' _ => hK' _ _ (ops_sim2 hI l2 l xl hl hN' hk hK))
  ·cases hc
theorem noPair_inv {ag : Option Nat} {t : Tree} (h : Holds P I p (noPair ag t)) : ag ≠ some 0 ∧ Holds P I p t := by
 unfold noPair at h
 split at h
 ·exact (holds_fail h).elim
 ·rename_i hag
  exact ⟨fun e => hag e, h⟩
theorem wanted_none {o : Oper} {y : Nat → Option Bool} (h : o.guard = none) : Region.wanted o y = true := by simp [Region.wanted, h]
/-- What a round is told. -/
theorem round_rep {ag : Option Nat} {z : Z} {gs : List G} {e : MapEntry} {us : List Value} (hk : e.key = .int .i64 z.val) (hl : us.length = gs.length) (hg : ∀ (j : Nat) (g : G), gs[j]? = some g → ∃ u, us[j]? = some u ∧ GRep E.F w g u) (hv : match ag with | none => us = [e.val] | some n => e.val = .agg us.toArray ∧ us.length = n) :
  ARep E m w (.tup [.c (.g (.int .i64 z)), rowVal ag gs]) (.tuple #[e.key, e.val]) := by
 refine ⟨_, rfl, rfl, fun i v hi => ?_⟩
 match i with
 | 0 =>
  cases hi
  exact ⟨_, rfl, .inr (by rw [hk]; exact GRep.int .i64 z)⟩
 | 1 =>
  cases hi
  refine ⟨_, rfl, ?_⟩
  cases ag with
  | none =>
   have hv : us = [e.val] := hv
   subst hv
   match gs, hl with
   | [g], _ =>
    obtain ⟨u, h1, h2⟩ := hg 0 g rfl
    cases h1
    exact .inr h2
  | some n =>
   obtain ⟨h1, h2⟩ := hv
   show V1Rep E m w (.agg (gs.map C.g)) e.val
   rw [h1]
   refine ⟨us.toArray, rfl, by simpa using hl, fun i x hi => ?_⟩
   rw [List.getElem?_map] at hi
   obtain ⟨g, hg1, rfl⟩ := Option.map_eq_some_iff.1 hi
   obtain ⟨u, q1, q2⟩ := hg i g hg1
   exact ⟨u, by simpa using q1, q2⟩
 | i + 2 => simp at hi
theorem mloop_sim {j : List Nat} {n : Nat} {b c : Code} {q : RQ} {x : X} (hI : I = ints) (hp : m0.length = p)
  (ih : ∀ y, comp P j n q.rest = some y → ∀ {p : Nat} {E0 : Env} {m0 : Mem} {w0 : World} {E : Env} {m : Mem} {w : World} {ts : List A} {a : Act} {k : Ex → List A → Mem → Tree} {Q : Exit → Act → World → Prop}, m0.length = p → (∀ c d v a w, Q (.panic c) (Act.put a d v) w → Q (.panic c) a w) →
   Now lo E0 m0 w0 E m w ts a → Holds P I p (ev I y ts m k) → (∀ e ts' m' E' w' a', Holds P I p (k e ts' m') → Now lo E0 m0 w0 E' m' w' ts' a' → Q e.out a' w') → q.rest.wp P Q a w)
  (hq : rangeAt b c = some q)
  (hc : (match compOs P q.ops0 q.pre, mapTyI P q.T, opd q.x, compOs P q.ops2 q.tl, comp P j n q.rest with
    | some pre, some _, some mp, some tl, some y => some (X.mloop pre mp q.it q.t1 q.tok q.t2 (.block q.b7 (.seq (.ops tl) y)))
    | _, _, _, _, _ => none) = some x)
  {E : Env} {m : Mem} {w : World} {ts : List A} {a : Act} {k : Ex → List A → Mem → Tree} {Q : Exit → Act → World → Prop} (hQ : ∀ c d v a w, Q (.panic c) (Act.put a d v) w → Q (.panic c) a w)
  (hN : Now lo E0 m0 w0 E m w ts a) (h : Holds P I p (ev I x ts m k)) (hK : ∀ e ts' m' E' w' a', Holds P I p (k e ts' m') → Now lo E0 m0 w0 E' m' w' ts' a' → Q e.out a' w') : (Code.seq b c).wp P Q a w := by
 obtain ⟨r0, r1, r2, id, ops1, o1, o2, o3, rfl, rfl, e0, e1, e2, ⟨p1, p2, p3⟩, ⟨p4, p5, p6⟩, ⟨p7, p8, p9⟩, ⟨p10, p11, p12⟩, n1, n2, n3, n4⟩ := rangeAt_inv hq
 split at hc
 ·rename_i pre tz mp tl y c1 c2 c3 c4 c5
  cases hc
  subst hp
  refine wp_seq (wp_region_list ?_)
  rw [e0]
  refine ops_sim2 hI [q.o0] q.pre pre c1 hN h (fun ts m E w a h hN => ?_)
  obtain ⟨cm, hcm, h⟩ := evC_inv c3 hN.toAt h
  split at h
  ·rename_i b
   split at h
   ·rename_i ag l hb
    obtain ⟨hag, h⟩ := noPair_inv h
    rcases hcm with hcm | ⟨hbl, bm0, base0, hρb, hval⟩
    ·cases hcm
    obtain ⟨bm, hρm, hlt, hma⟩ := hN.sat.maps b ag l hb
    have hbb : bm0 = bm := by rw [hρm] at hρb; cases hρb; rfl
    subst hbb
    obtain ⟨es, clock, hes, hsz, hrows, huniq⟩ := hma.ex
    obtain ⟨kt, et, hun⟩ : ∃ kt et, P.underlying q.T = some (.map kt et) := by
     obtain ⟨tag, tzz⟩ := tz
     have c2 := (mapTyI_inv c2).1
     unfold mapTy at c2
     split at c2
     ·rename_i kt et hu
      exact ⟨kt, et, hu⟩
     ·cases c2
    have hrun : (execOp a.eval q.o0).run P w = .ok (.value (.pointer (some ⟨w.heap.size, 0, none⟩))) (w.alloc (.mapIter (some bm0) clock #[] clock)) := by
     have := run_range_map (P := P) w q.T kt et bm0 es clock hun hes
     simp [execOp, p1, hval, this]
    obtain ⟨w1, hw1⟩ : ∃ w1, w1 = w.alloc (.mapIter (some bm0) clock #[] clock) := ⟨_, rfl⟩
    rw [← hw1] at hrun
    have hold : ∀ k, k < w.heap.size → w1.heap[k]? = w.heap[k]? := fun k hk => by rw [hw1]; exact heap_alloc_old w _ hk
    have hnew : w1.heap[w.heap.size]? = some (.mapIter (some bm0) clock #[] clock) := by rw [hw1]; exact heap_alloc_new w _
    have hsz1 : w1.heap.size = w.heap.size + 1 := by rw [hw1]; simp
    have hg1 := add_grow (Wt := fun _ => True) (w' := w1) hN.sat (blk := .dead) (r := some (w.heap.size, 0)) (by omega) (by rw [hw1]; rfl) (by rw [hw1]; rfl) (by rw [hw1]; rfl) (stays_below hold) hold (fun a_ base e => by cases e; exact Nat.le_refl _) (fun h => h.elim)
    refine wpList_step fun K hK' => ?_
    rw [wanted_none p3]
    show Oper.wp P q.o0 a w K _
    unfold Oper.wp
    rw [hrun]
    refine hK' _ _ ?_
    show Exit.then _ Q .normal _ _
    have hN1 : Now lo E0 m0 w0 (E.add m.length (some (w.heap.size, 0))) (m ++ [.dead]) w1 (ts.set q.it (.one (.c (.ptr m.length (.lit 0) 0 0)))) (a.put q.o0.dst (.pointer (some ⟨w.heap.size, 0, none⟩))) := by
     refine ⟨⟨hg1.2, ?_, (hN.defers.step hg1.1.toStep).put _ _⟩, hN.grow.trans hg1.1 (fun _ _ h => h), (hN.fresh.mono hg1.1.size).put _ _⟩
     rw [p2]
     have hv : ARep (E.add m.length (some (w.heap.size, 0))) (m ++ [.dead]) w1 (.one (.c (.ptr m.length (.lit 0) 0 0))) (.pointer (some ⟨w.heap.size, 0, none⟩)) := Or.inr ⟨by simp, w.heap.size, 0, if_pos rfl, rfl⟩
     exact (hN.ts.step hg1.1.toStep).put hv q.it
    generalize a.put q.o0.dst (.pointer (some ⟨w.heap.size, 0, none⟩)) = a1 at hN1
    have hρ1 : (E.add m.length (some (w.heap.size, 0))).ρ b = some (bm0, 0) := (hg1.1.ρ b hbl).trans hρm
    have hρ2 : (E.add m.length (some (w.heap.size, 0))).ρ m.length = some (w.heap.size, 0) := if_pos rfl
    have hbm1 : w1.heap[bm0]? = some (.map es clock) := (hold bm0 hlt).trans hes
    have hw0 : w0.heap.size ≤ w.heap.size := hN.grow.size
    have hF1 : ¬ (E.add m.length (some (w.heap.size, 0))).F w.heap.size := fun h => Nat.lt_irrefl _ (hN.sat.old _ (.inl h))
    have hB1 : ¬ (E.add m.length (some (w.heap.size, 0))).B w.heap.size := fun h => Nat.lt_irrefl _ (hN.sat.old _ (.inr h))
    have hno1 : ∀ id blk x, (m ++ [Blk.dead])[id]? = some blk → blk.live → (E.add m.length (some (w.heap.size, 0))).ρ id ≠ some (w.heap.size, x) := fun id blk x h1 h2 h3 => by
     rcases get_append h1 with ⟨h4, h5⟩ | ⟨_, rfl⟩
     ·exact Nat.lt_irrefl _ (blk_lt hN.sat h5 h2 ((hg1.1.ρ id h4).symm.trans h3))
     ·exact h2
    generalize E.add m.length (some (w.heap.size, 0)) = E1 at hN1 hρ1 hρ2 hF1 hB1 hno1
    have hmb1 : (m ++ [Blk.dead])[b]? = some (.mp ag l) := by rw [List.getElem?_append_left hbl]; exact hb
    generalize hR : w.heap.size = r at hnew hw0 hρ2 hF1 hB1 hno1
    have hlb : bm0 ≠ r := by omega
    cases h with
    | mloop Inv ts0 m1 σ fz keep b' bit hσ hpσ hbσ hbtσ ht hm h0 hm1 hbody hend =>
    obtain ⟨E2, hN2, hρr, hFr, hBr⟩ := Now.tidy2 (keep := keep) hI hN1 (fz := fz) hσ hpσ
    replace hN2 := hN2.sy
    rw [← ht, ← hm] at hN2
    have hlast : σ[bit]? = some m.length := by simpa using hbtσ
    have hno2 : ∀ id blk x, m1[id]? = some blk → blk.live → E2.ρ id ≠ some (r, x) := fun i blk x h1 h2 h3 => by
     rw [hm] at h1
     obtain ⟨blk0, h4, rfl⟩ := sy_get h1
     have h5 : blk0.live := (sy_rows blk0).2.2.1 h2
     rw [invMem, List.getElem?_map] at h4
     obtain ⟨b2, h6, rfl⟩ := Option.map_eq_some_iff.1 h4
     have h7 := (inv_rows (I := I) σ (.frz fz) (m ++ [Blk.dead]) ((m ++ [Blk.dead]).getD b2 .dead)).2.2.1 h5
     rw [List.getD_eq_getElem?_getD] at h7
     cases h8 : (m ++ [Blk.dead])[b2]? with
     | none => rw [h8] at h7; exact h7
     | some blk2 =>
      rw [h8] at h7
      exact hno1 b2 blk2 x h8 h7 ((hρr i b2 h6).symm.trans h3)
    have hF2 : ¬ E2.F r := fun h => by
     rcases hFr r h with h1 | ⟨b2, blk, x, h1, h2, h3⟩
     ·exact hF1 h1
     ·exact hno1 b2 blk x h1 h2 h3
    have hB2 : ¬ E2.B r := fun h => hB1 (hBr r h)
    refine wp_block (wp_loop_ghost (fun nn a w => ∃ ts m E seen, Inv ts m ∧ Now lo E0 m0 w0 E m w ts a ∧ E.ρ b' = some (bm0, 0) ∧ E.ρ bit = some (r, 0) ∧ w.heap[r]? = some (.mapIter (some bm0) clock seen clock) ∧ w.heap[bm0]? = some (.map es clock) ∧ (leftOf es seen).size = nn ∧ ¬ E.F r ∧ ¬ E.B r ∧
      (∀ id blk x, m[id]? = some blk → blk.live → E.ρ id ≠ some (r, x))) _ ⟨ts0, m1, E2, #[], h0, hN2, (hρr b' b hbσ).trans hρ1, (hρr bit m.length hlast).trans hρ2, hnew, hbm1, rfl, hF2, hB2, hno2⟩ ?_)
    clear hN2 hF2 hB2 hno2 hN1 hρ1 hρ2 hF1 hB1 hno1 hnew hbm1 hrun
    rintro nn a w ⟨ts, m, E, seen, hinv, hN, hb1, hbt1, hit, hmp, hleft, hF, hB, hno⟩
    obtain ⟨hmb, hmd, hts, ht1, htok⟩ := hm1 ts m hinv
    obtain ⟨bm', hρ', hlt', hma'⟩ := hN.sat.maps b' ag l hmb
    have hbb : bm' = bm0 := by rw [hb1] at hρ'; cases hρ'; rfl
    subst hbb
    obtain ⟨es', c', hes', hsz', hrows', huniq'⟩ := hma'.ex
    have hee : es' = es ∧ c' = clock := by rw [hmp] at hes'; cases hes'; exact ⟨rfl, rfl⟩
    obtain ⟨rfl, rfl⟩ := hee
    have hrow : ∀ (i : Nat) (e : MapEntry), es'[i]? = some e → ∃ row, l[i]? = some row := fun i e h => by
     have := (Array.getElem?_eq_some_iff.1 h).1
     exact ⟨l[i]'(by omega), List.getElem?_eq_getElem _⟩
    have hborn : ∀ x ∈ es'.toList, x.born < c' := fun x hx => by
     obtain ⟨i, hi⟩ := List.mem_iff_getElem?.1 hx
     have hi' : es'[i]? = some x := by rw [← Array.getElem?_toList]; exact hi
     obtain ⟨row, hrw⟩ := hrow i x hi'
     obtain ⟨z, gs, e, us, _, g2, _, g4, _⟩ := hrows' i row hrw
     rw [hi'] at g2
     cases g2
     exact g4
    have hnodup : (es'.toList.map (·.born)).Nodup := by
     unfold List.Nodup
     rw [List.pairwise_iff_getElem]
     intro i k hi hk hik heq
     have hkl : k < es'.size := by simpa using hk
     have heq : es'[i].born = es'[k].born := by simpa using heq
     have := huniq' i k _ _ (Array.getElem?_eq_getElem (by omega)) (Array.getElem?_eq_getElem hkl) (.inl heq)
     omega
    have hptr : ∀ {E : Env} {m : Mem} {w : World} {ts : List A} {a : Act}, TsRep E m w ts a.tmps → ts[q.it]? = some (.one (.c (.ptr bit (.lit 0) 0 0))) → E.ρ bit = some (r, 0) → a.eval (.tmp q.it) = .pointer (some ⟨r, 0, none⟩) := fun {E m w ts a} h1 h2 h3 => by
     have h4 := h1.2 q.it _ h2
     rcases h4 with h4 | ⟨_, a_, base, h5, h6⟩
     ·cases h4
     ·rw [h3] at h5
      cases h5
      exact h6
    have hip := hptr hN.ts hts hbt1
    refine wp_seq (wp_region_list ?_)
    rw [e1]
    refine wpList_step fun K hK' => ?_
    rw [wanted_none p6]
    show Oper.wp P o1 a w K _
    unfold Oper.wp
    have hget : ∀ (a : Act) (t : Nat) (v : Value), t < a.tmps.size → (a.put (some t) v).eval (.tmp t) = v := fun a t v h => by
     show (a.tmps.setIfInBounds t v).getD t undef = v
     simp [Array.getD_eq_getD_getElem?, h]
    have hput : ∀ (a : Act) (t s : Nat) (v : Value), t ≠ s → (a.put (some t) v).eval (.tmp s) = a.eval (.tmp s) := fun a t s v h => by
     show (a.tmps.setIfInBounds t v).getD s undef = a.tmps.getD s undef
     simp [Array.getD_eq_getD_getElem?, Array.getElem?_setIfInBounds_ne h]
    have hsz0 : a.tmps.size = ts.length := hN.ts.1
    rcases run_next_at (P := P) w o1.type r bm' c' seen es' hit hmp hborn with ⟨hl0, hrun⟩ | ⟨e, he, w2, hw2, hrun⟩
    ·have hrun1 : (execOp a.eval o1).run P w = .ok (.value (.tuple #[.bool false])) w := by simp [execOp, p4, hip, hrun]
     rw [hrun1]
     refine hK' _ _ ?_
     refine wpList_step fun K hK' => ?_
     rw [wanted_none p9]
     show Oper.wp P o2 _ w K _
     unfold Oper.wp
     have hx : (a.put o1.dst (.tuple #[.bool false])).eval (.tmp q.t1) = .tuple #[.bool false] := by rw [p5]; exact hget a q.t1 _ (by omega)
     have hrun2 : (execOp (a.put o1.dst (.tuple #[.bool false])).eval o2).run P w = .ok (.value (.bool false)) w := by simp [execOp, p7, hx]; rfl
     rw [hrun2]
     refine hK' _ _ ?_
     have hxc : ((a.put o1.dst (.tuple #[.bool false])).put o2.dst (.bool false)).eval (.tmp q.tok) = .bool false := by
      rw [p8, p5]
      exact hget _ q.tok _ (by show q.tok < (a.tmps.setIfInBounds _ _).size; simp; omega)
     show (Code.seq _ _).wp P _ _ w
     refine wp_seq (wp_cond (t := false) hxc (wp_exit ?_))
     show if id = id then Q .normal _ w else _
     rw [if_pos rfl]
     refine hK .normal _ _ _ _ _ (hend ts m hinv) ⟨⟨hN.sat, ?_, (hN.defers.put _ _).put _ _⟩, hN.grow, (hN.fresh.put _ _).put _ _⟩
     rw [p5, p8]
     have hv1 : ARep E m w (.tup [.c (.g (.bool (.lit false)))]) (.tuple #[.bool false]) := ⟨_, rfl, rfl, fun i v hi => by
      match i with
      | 0 => cases hi; exact ⟨_, rfl, .inr (GRep.bool (.lit false))⟩
      | i + 1 => simp at hi⟩
     have hv2 : ARep E m w (.one (.c (.g (.bool (.lit false))))) (.bool false) := Or.inr (GRep.bool (.lit false))
     exact (hN.ts.put hv1 q.t1).put hv2 q.tok
    ·obtain ⟨heL, hes0⟩ := mem_left he
     have hrun1 : (execOp a.eval o1).run P w = .ok (.value (.tuple #[.bool true, e.key, e.val])) { w2 with heap := w2.heap.setIfInBounds r (.mapIter (some bm') c' (seen.push e.born) c') } := by simp [execOp, p4, hip, hrun]
     rw [hrun1]
     have hNd : Now lo E0 m0 w0 E m w2 ts a ∧ w2.heap = w.heap := by
      rcases hw2 with rfl | rfl
      ·exact ⟨hN, rfl⟩
      ·exact ⟨hN.drew, rfl⟩
     obtain ⟨hNd, hh2⟩ := hNd
     have hit2 : w2.heap[r]? = some (.mapIter (some bm') c' seen c') := by rw [hh2]; exact hit
     have hrl : r < w2.heap.size := (Array.getElem?_eq_some_iff.1 hit2).1
     have hNt := hNd.turn (o' := .mapIter (some bm') c' (seen.push e.born) c') hit2 (fun _ _ h => by cases h) (fun x hx => by simp [World.cell?, hx, hit2]) hw0 hF hB hno
     obtain ⟨w3, hw3⟩ : ∃ w3 : World, w3 = { w2 with heap := w2.heap.setIfInBounds r (.mapIter (some bm') c' (seen.push e.born) c') } := ⟨_, rfl⟩
     have hr3 : w3.heap[r]? = some (.mapIter (some bm') c' (seen.push e.born) c') := by rw [hw3, heap_setI, if_pos ⟨rfl, hrl⟩]
     have hm3 : w3.heap[bm']? = some (.map es' c') := by rw [hw3, heap_setI, if_neg (fun h => hlb h.1.symm), hh2]; exact hmp
     rw [← hw3] at hNt ⊢
     refine hK' _ _ ?_
     refine wpList_step fun K hK' => ?_
     rw [wanted_none p9]
     show Oper.wp P o2 _ w3 K _
     unfold Oper.wp
     have hx : (a.put o1.dst (.tuple #[.bool true, e.key, e.val])).eval (.tmp q.t1) = .tuple #[.bool true, e.key, e.val] := by rw [p5]; exact hget a q.t1 _ (by omega)
     have hrun2 : (execOp (a.put o1.dst (.tuple #[.bool true, e.key, e.val])).eval o2).run P w3 = .ok (.value (.bool true)) w3 := by simp [execOp, p7, hx]; rfl
     rw [hrun2]
     refine hK' _ _ ?_
     have hxc : ((a.put o1.dst (.tuple #[.bool true, e.key, e.val])).put o2.dst (.bool true)).eval (.tmp q.tok) = .bool true := by
      rw [p8, p5]
      exact hget _ q.tok _ (by show q.tok < (a.tmps.setIfInBounds _ _).size; simp; omega)
     have hv1 : ARep E m w3 (.tup [.c (.g (.bool (.lit true))), .c .any, .c .any]) (.tuple #[.bool true, e.key, e.val]) := ⟨_, rfl, rfl, fun i v hi => by
      match i with
      | 0 => cases hi; exact ⟨_, rfl, .inr (GRep.bool (.lit true))⟩
      | 1 => cases hi; exact ⟨_, rfl, .inl rfl⟩
      | 2 => cases hi; exact ⟨_, rfl, .inl rfl⟩
      | i + 3 => simp at hi⟩
     have hv2 : ARep E m w3 (.one (.c (.g (.bool (.lit true))))) (.bool true) := Or.inr (GRep.bool (.lit true))
     have hts2 : TsRep E m w3 ((ts.set q.t1 (.tup [.c (.g (.bool (.lit true))), .c .any, .c .any])).set q.tok (.one (.c (.g (.bool (.lit true)))))) ((a.put o1.dst (.tuple #[.bool true, e.key, e.val])).put o2.dst (.bool true)).tmps := by
      rw [p5, p8]
      exact (hNt.ts.put hv1 q.t1).put hv2 q.tok
     have hfr2 : Fresh lo w3 ((a.put o1.dst (.tuple #[.bool true, e.key, e.val])).put o2.dst (.bool true)) := (hNt.fresh.put _ _).put _ _
     have hdf2 : DefOK E w3 ((a.put o1.dst (.tuple #[.bool true, e.key, e.val])).put o2.dst (.bool true)) := (hNt.defers.put _ _).put _ _
     have hip2 : ((a.put o1.dst (.tuple #[.bool true, e.key, e.val])).put o2.dst (.bool true)).eval (.tmp q.it) = .pointer (some ⟨r, 0, none⟩) := by
      rw [p5, p8, hput _ _ _ _ n2, hput _ _ _ _ n1]
      exact hip
     generalize ((a.put o1.dst (.tuple #[.bool true, e.key, e.val])).put o2.dst (.bool true)) = a2 at hxc hts2 hdf2 hfr2 hip2
     show (Code.seq _ _).wp P _ _ w3
     refine wp_seq (wp_cond (t := true) hxc (wp_skip ?_))
     show (Code.block _ _).wp P _ _ w3
     refine wp_block (wp_seq (wp_region_list ?_))
     rw [e2]
     refine wpList_step fun K hK' => ?_
     rw [wanted_none p12]
     show Oper.wp P o3 _ w3 K _
     unfold Oper.wp
     have hrun3 : (execOp a2.eval o3).run P w3 = .ok (.value (.tuple #[e.key, e.val])) w3 := by
      have := run_entry_at (P := P) w3 r bm' c' seen es' e hr3 hm3 heL hnodup
      simp [execOp, p10, hip2, this]
     rw [hrun3]
     refine hK' _ _ ?_
     obtain ⟨i, hi⟩ := List.mem_iff_getElem?.1 heL
     have hi' : es'[i]? = some e := by rw [← Array.getElem?_toList]; exact hi
     obtain ⟨row, hrw⟩ := hrow i e hi'
     have hma3 : MapAt w3 E.F ag l bm' := by
      obtain ⟨bm2, q1, _, q3⟩ := hNt.sat.maps b' ag l hmb
      rw [hb1] at q1
      cases q1
      exact q3
     obtain ⟨es3, c3', hes3, _, hrows3, _⟩ := hma3.ex
     have hee : es3 = es' := by rw [hm3] at hes3; cases hes3; rfl
     subst hee
     obtain ⟨z, gs, e', us, rfl, g2, g3, g4, g5, g6, g7⟩ := hrows3 i row hrw
     have hee : e' = e := by rw [hi'] at g2; cases g2; rfl
     subst hee
     have g3 := (kvIs_int hag).1 g3
     rw [vag_id hag] at g7
     have hv3 := round_rep (E := E) (m := m) (w := w3) (ag := ag) g3 g5 g6 g7
     obtain ⟨k1, k2⟩ := kill_grow (Wt := fun _ => True) hNt.sat b'
     have hNB : Now lo E (m.set b' .dead) w3 E (m.set b' .dead) w3 (roundT ts q.t1 q.tok q.t2 ag z gs) (a2.put o3.dst (.tuple #[e'.key, e'.val])) := by
      refine ⟨⟨k2, ?_, hdf2.put _ _⟩, Grow.refl _ _ _ _, hfr2.put _ _⟩
      rw [p11]
      exact (hts2.put hv3 q.t2).step k1.toStep
     have hbd := hbody ts m hinv i z gs hrw
     have hnfr : ¬ Foot (fun _ => True) E (m.set b' .dead) r := by
      rintro ⟨id2, blk, x, h1, h2, _, h4⟩
      rw [List.getElem?_set] at h1
      split at h1
      ·split at h1
       ·cases h1; exact h2
       ·cases h1
      ·exact hno id2 blk x h1 h2 h4
     have hnfb : ¬ Foot (fun _ => True) E (m.set b' .dead) bm' := by
      rintro ⟨id2, blk, x, h1, h2, _, h4⟩
      rw [List.getElem?_set] at h1
      split at h1
      ·split at h1
       ·cases h1; exact h2
       ·cases h1
      ·rename_i hne
       exact hne (hN.sat.inj b' id2 _ blk bm' 0 x hmb h1 trivial h2 hb1 h4)
     have fin : ∀ {ts' : List A} {m' : Mem} {E' : Env} {w' : World} {a' : Act}, (∃ (ts2 : List A) (m2 : Mem) (σ fz keep : List Nat), σ.Nodup ∧ σ.take m0.length = List.range m0.length ∧ σ[b']? = some b' ∧ σ[bit]? = some bit ∧ ts'.all (A.notRow b') = true ∧ m'.all (Blk.notRow b') = true ∧
       ts2 = ((maskT keep 0 ts').map (A.inv I σ (.frz fz) (m'.set b' (.mp ag l)))).map A.sy ∧ m2 = (invMem I σ (.frz fz) (m'.set b' (.mp ag l))).map Blk.sy ∧ Inv ts2 m2) → Now lo E (m.set b' .dead) w3 E' m' w' ts' a' →
       ∃ n', n' < nn ∧ ∃ ts m E seen, Inv ts m ∧ Now lo E0 m0 w0 E m w' ts a' ∧ E.ρ b' = some (bm', 0) ∧ E.ρ bit = some (r, 0) ∧ w'.heap[r]? = some (.mapIter (some bm') c' seen c') ∧ w'.heap[bm']? = some (.map es3 c') ∧ (leftOf es3 seen).size = n' ∧ ¬ E.F r ∧ ¬ E.B r ∧
        (∀ id blk x, m[id]? = some blk → blk.live → E.ρ id ≠ some (r, x)) := by
      rintro ts' m' E' w' a' ⟨ts2, m2, σ, fz, keep, hσ, hpσ, hs1, hs2, hn1, hn2, rfl, rfl, hi2⟩ hN'
      obtain ⟨s1, s2⟩ := restore hNt.sat hmb hN'.sat hn2 hN'.grow
      have hgg := hN'.grow
      have hbl' : b' < m.length := (List.getElem?_eq_some_iff.1 hmb).1
      have hbtl : bit < m.length := (List.getElem?_eq_some_iff.1 hmd).1
      have hNr : Now lo E0 m0 w0 E' (m'.set b' (.mp ag l)) w' ts' a' := ⟨⟨s1, ⟨hN'.ts.1, fun t x hx => notRow_a (List.all_eq_true.1 hn1 x (List.mem_of_getElem? hx)) (hN'.ts.2 t x hx)⟩, hN'.defers⟩, hNt.grow.trans s2 (fun _ _ h => h), hN'.fresh⟩
      have hρb : E'.ρ b' = some (bm', 0) := (s2.ρ b' hbl').trans hb1
      have hρt : E'.ρ bit = some (r, 0) := (s2.ρ bit hbtl).trans hbt1
      have hr3l : r < w3.heap.size := (Array.getElem?_eq_some_iff.1 hr3).1
      have hnoR : ∀ id blk x, (m'.set b' (.mp ag l))[id]? = some blk → blk.live → E'.ρ id ≠ some (r, x) := fun id2 blk x h1 h2 h3 => by
       rcases Nat.lt_or_ge id2 m.length with hid | hid
       ·obtain ⟨blk0, q1, q2, _⟩ := s2.shape id2 blk hid h1 h2
        exact hno id2 blk0 x q1 q2 ((s2.ρ id2 hid).symm.trans h3)
       ·rcases s2.newρ id2 r x blk hid h1 h2 h3 with h4 | ⟨id3, blk3, x3, q1, q2, _, q4⟩
        ·omega
        ·exact hno id3 blk3 x3 q1 q2 q4
      have hFR : ¬ E'.F r := fun h => by
       rcases s2.newF r h with h1 | h1 | ⟨id3, blk3, x3, q1, q2, _, q4⟩
       ·exact hF h1
       ·omega
       ·exact hno id3 blk3 x3 q1 q2 q4
      have hBR : ¬ E'.B r := fun h => hB (s2.B' r h)
      obtain ⟨E4, hN4, hρr, hFr, hBr⟩ := Now.tidy2 (keep := keep) hI hNr (fz := fz) hσ hpσ
      replace hN4 := hN4.sy
      refine ⟨_, ?_, _, _, E4, seen.push e'.born, hi2, hN4, (hρr b' b' hs1).trans hρb, (hρr bit bit hs2).trans hρt, (hgg.block r hr3l hnfr).trans hr3, (hgg.block bm' (Array.getElem?_eq_some_iff.1 hm3).1 hnfb).trans hm3, rfl, fun h => ?_, fun h => hBR (hBr r h), fun id2 blk x h1 h2 h3 => ?_⟩
      ·rw [← hleft]
       exact left_shrinks es3 seen e' he
      ·rcases hFr r h with h1 | ⟨b2, blk, x, h1, h2, h3⟩
       ·exact hFR h1
       ·exact hnoR b2 blk x h1 h2 h3
      ·obtain ⟨blk0, h4, rfl⟩ := sy_get h1
       have h5 : blk0.live := (sy_rows blk0).2.2.1 h2
       rw [invMem, List.getElem?_map] at h4
       obtain ⟨b2, h6, rfl⟩ := Option.map_eq_some_iff.1 h4
       have h7 := (inv_rows (I := I) σ (.frz fz) (m'.set b' (.mp ag l)) ((m'.set b' (.mp ag l)).getD b2 .dead)).2.2.1 h5
       rw [List.getD_eq_getElem?_getD] at h7
       cases h8 : (m'.set b' (.mp ag l))[b2]? with
       | none => rw [h8] at h7; exact h7
       | some blk2 =>
        rw [h8] at h7
        exact hnoR b2 blk2 x h8 h7 ((hρr id2 b2 h6).symm.trans h3)
     refine ops_sim hI q.tl tl c4 hNB hbd (fun ts' m' E' w' a' hk hN' => ?_)
     refine ih y c5 (by simp) (fun c d v a w hq => ?_) hN' hk (fun e2 ts' m' E' w' a' hk hN' => ?_)
     ·exact hQ c d v a w hq
     ·cases e2 with
      | normal =>
       cases hk with
       | goal hk => exact fin hk hN'
      | exit i2 =>
       simp only at hk
       split at hk
       ·rename_i hei
        show if i2 = q.b7 then _ else _
        rw [if_pos (by simpa using hei)]
        cases hk with
        | goal hk => exact fin hk hN'
       ·exact (holds_fail hk).elim
      | ret => exact (holds_fail hk).elim
   ·exact (holds_fail h).elim
  ·exact (holds_fail h).elim
 ·cases hc
theorem ev_sim {j : List Nat} (hI : I = ints) (hmo : P.follows .mixedOrders = true) : ∀ (n : Nat) (c : Code) (x : X), comp P j n c = some x → ∀ {p : Nat} {E0 : Env} {m0 : Mem} {w0 : World} {E : Env} {m : Mem} {w : World} {ts : List A} {a : Act} {k : Ex → List A → Mem → Tree} {Q : Exit → Act → World → Prop}, m0.length = p → (∀ c d v a w, Q (.panic c) (Act.put a d v) w → Q (.panic c) a w) →
  Now lo E0 m0 w0 E m w ts a → Holds P I p (ev I x ts m k) → (∀ e ts' m' E' w' a', Holds P I p (k e ts' m') → Now lo E0 m0 w0 E' m' w' ts' a' → Q e.out a' w') → c.wp P Q a w := by
 intro n
 induction n with
 | zero => intro c x hc; cases hc
 | succ n ih =>
 intro c x hc p E0 m0 w0 E m w ts a k Q hp hQ hN h hK
 cases c with
 | skip => cases hc; exact wp_skip (hK .normal _ _ _ _ _ h hN)
 | region id ops d =>
  cases d
  ·simp only [comp] at hc
   obtain ⟨l, hl, rfl⟩ := Option.map_eq_some_iff.1 hc
   have plain : ∀ {E : Env} {m : Mem} {w : World} {ts : List A} {a : Act} {k : Ex → List A → Mem → Tree} {Q : Exit → Act → World → Prop}, (∀ c d v a w, Q (.panic c) (Act.put a d v) w → Q (.panic c) a w) →
     Now lo E0 m0 w0 E m w ts a → Holds P I p (ev I (.ops l) ts m k) → (∀ e ts' m' E' w' a', Holds P I p (k e ts' m') → Now lo E0 m0 w0 E' m' w' ts' a' → Q e.out a' w') → (Code.region id ops false).wp P Q a w := fun {E m w ts a k Q} hQ hN h hK =>
    wp_region_list (ops_sim hI ops.toList l hl hN h (fun ts' m' E' w' a' hk hN' => hK .normal _ _ _ _ _ hk hN'))
   generalize j.contains (1000 + id) = b9 at h
   cases b9 with
   | false => exact plain hQ hN h hK
   | true => exact join_sim hI hp plain hQ hN h hK
  ·simp only [comp] at hc
   split at hc
   ·rename_i s hns hs
    obtain ⟨l, hl, rfl⟩ := Option.map_eq_some_iff.1 hc
    have plain : ∀ {E : Env} {m : Mem} {w : World} {ts : List A} {a : Act} {k : Ex → List A → Mem → Tree} {Q : Exit → Act → World → Prop}, (∀ c d v a w, Q (.panic c) (Act.put a d v) w → Q (.panic c) a w) →
      Now lo E0 m0 w0 E m w ts a → Holds P I p (ev I (.drawn id l) ts m k) → (∀ e ts' m' E' w' a', Holds P I p (k e ts' m') → Now lo E0 m0 w0 E' m' w' ts' a' → Q e.out a' w') → (Code.region id ops true).wp P Q a w := fun {E m w ts a k Q} hQ hN h hK => by
     cases h with
     | drawn W h =>
     exact wp_region_held (S := Same (some (W, m.length)) E m w.drew) hmo (drawn_sim hI hns hQ (W, m.length) ops.size _ s l hs hl hN.drew h (fun ts' m' E' w' a' hk hN' => hK .normal _ _ _ _ _ hk hN'))
    generalize j.contains (1000 + id) = b9 at h
    cases b9 with
    | false => exact plain hQ hN h hK
    | true => exact join_sim hI hp plain hQ hN h hK
   ·cases hc
 | seq b c =>
  simp only [comp] at hc
  split at hc
  ·rename_i q hq
   exact mloop_sim hI hp (fun y hy {p E0 m0 w0 E m w ts a k Q} => ih q.rest y hy (p := p) (E0 := E0) (m0 := m0) (w0 := w0) (E := E) (m := m) (w := w) (ts := ts) (a := a) (k := k) (Q := Q)) hq hc hQ hN h hK
  split at hc
  ·rename_i x1 x2 h1 h2
   cases hc
   refine wp_seq (ih b x1 h1 hp (Q := Exit.then (c.wp P Q) Q) (fun c d v a w hq => hQ c d v a w hq) hN h (fun e ts' m' E' w' a' hk hN' => ?_))
   cases e with
   | normal => exact ih c x2 h2 hp hQ hN' hk hK
   | exit i => exact hK (.exit i) _ _ _ _ _ hk hN'
   | ret => exact hK .ret _ _ _ _ _ hk hN'
  ·cases hc
 | cond C_ b c =>
  simp only [comp] at hc
  split at hc
  ·rename_i c0 x1 x2 h0 h1 h2
   cases hc
   have plain : ∀ {E : Env} {m : Mem} {w : World} {ts : List A} {a : Act} {k : Ex → List A → Mem → Tree} {Q : Exit → Act → World → Prop}, (∀ c d v a w, Q (.panic c) (Act.put a d v) w → Q (.panic c) a w) →
     Now lo E0 m0 w0 E m w ts a → Holds P I p (ev I (.cond c0 x1 x2) ts m k) → (∀ e ts' m' E' w' a', Holds P I p (k e ts' m') → Now lo E0 m0 w0 E' m' w' ts' a' → Q e.out a' w') → (Code.cond C_ b c).wp P Q a w := fun {E m w ts a k Q} hQ hN h hK => by
    obtain ⟨t, ht, h⟩ := evB_inv h0 hN.toAt h
    refine wp_cond ht ?_
    cases t
    ·exact ih c x2 h2 hp hQ hN h hK
    ·exact ih b x1 h1 hp hQ hN h hK
   generalize j.contains (opKey c0) = b9 at h
   cases b9 with
   | false => exact plain hQ hN h hK
   | true => exact join_sim hI hp plain hQ hN h hK
  ·cases hc
 | block id b =>
  obtain ⟨x1, h1, rfl⟩ := Option.map_eq_some_iff.1 hc
  have plain : ∀ {E : Env} {m : Mem} {w : World} {ts : List A} {a : Act} {k : Ex → List A → Mem → Tree} {Q : Exit → Act → World → Prop}, (∀ c d v a w, Q (.panic c) (Act.put a d v) w → Q (.panic c) a w) →
    Now lo E0 m0 w0 E m w ts a → Holds P I p (ev I (.block id x1) ts m k) → (∀ e ts' m' E' w' a', Holds P I p (k e ts' m') → Now lo E0 m0 w0 E' m' w' ts' a' → Q e.out a' w') → (Code.block id b).wp P Q a w := fun {E m w ts a k Q} hQ hN h hK => by
   refine wp_block (ih b x1 h1 hp (Q := Exit.inBlock id Q) (fun c d v a w hq => hQ c d v a w hq) hN h (fun e ts' m' E' w' a' hk hN' => ?_))
   cases e with
   | normal => exact hK .normal _ _ _ _ _ hk hN'
   | exit i =>
    show if i = id then Q .normal a' w' else Q (.exit i) a' w'
    simp only at hk
    split at hk
    ·rename_i he
     rw [if_pos (by simpa using he)]
     exact hK .normal _ _ _ _ _ hk hN'
    ·rename_i he
     rw [if_neg (by simpa using he)]
     exact hK (.exit i) _ _ _ _ _ hk hN'
   | ret => exact hK .ret _ _ _ _ _ hk hN'
  generalize j.contains (2000 + id) = b9 at h
  cases b9 with
  | false => exact plain hQ hN h hK
  | true => exact join_sim hI hp plain hQ hN h hK
 | loop b =>
  obtain ⟨x1, h1, rfl⟩ := Option.map_eq_some_iff.1 hc
  obtain ⟨E, ts, m, hN, h⟩ := loop_inv h rfl hN
  cases h with
  | mk Inv n0 ts0 m1 σ fz keep hσ hpσ ht hm h0 h =>
  subst hp
  obtain ⟨E', hN', -⟩ := Now.tidy (keep := keep) hI hN (fz := fz) hσ hpσ
  replace hN' := hN'.sy
  rw [← ht, ← hm] at hN'
  refine wp_loop_ghost (fun n a w => ∃ ts m E, Inv n ts m ∧ Now lo E0 m0 w0 E m w ts a) n0 ⟨ts0, m1, E', h0, hN'⟩ ?_
  rintro n1 a w ⟨ts, m, E, hi, hN⟩
  refine ih b x1 h1 rfl (Q := Exit.then (fun a' w' => ∃ n', n' < n1 ∧ ∃ ts m E, Inv n' ts m ∧ Now lo E0 m0 w0 E m w' ts a') Q) (fun c d v a w hq => hQ c d v a w hq) hN (h n1 ts m hi) (fun e ts' m' E' w' a' hk hN' => ?_)
  cases e with
  | normal =>
   cases hk with
   | goal hk =>
   obtain ⟨n', ts1, m1, σ, fz, keep, hlt, hσ, hpσ, ht, hm, hi⟩ := hk
   obtain ⟨E2, hN2, -⟩ := Now.tidy (keep := keep) hI hN' (fz := fz) hσ hpσ
   replace hN2 := hN2.sy
   rw [← ht, ← hm] at hN2
   exact ⟨n', hlt, ts1, m1, E2, hi, hN2⟩
  | exit i => exact hK (.exit i) _ _ _ _ _ hk hN'
  | ret => exact hK .ret _ _ _ _ _ hk hN'
 | exit id => cases hc; exact wp_exit (hK (.exit id) _ _ _ _ _ h hN)
 | ret => cases hc; exact wp_ret (hK .ret _ _ _ _ _ h hN)
 | rangeFunc g ps c1 c2 =>
  cases hc
  cases h with
  | rfun R hs hk => exact hs E w a Q hN.toAt fun E' m' w' ts' a' hr hA hg hd => hK .normal _ _ _ _ _ (hk _ _ hr) ⟨hA, hN.grow.trans hg (fun _ _ h => h), Nat.le_trans hN.fresh.1 hg.size, fun D hD => (hd D hD).elim (hN.fresh.2 D) (fun h => Nat.le_trans hN.fresh.1 h)⟩
 | _ => cases hc
end
end Go.Proofs.Ytofdnnjkfpomcaa.E

/- A function's contract by the evaluator; what a proof says of a tree; laws. -/
namespace Go.Proofs.Ytofdnnjkfpomcaa.E
open Go
set_option linter.unusedVariables false
set_option linter.unusedSectionVars false

section
variable {P : Program} {I : Ints} {p : Nat} {E E0 : Env} {m m0 : Mem} {w w0 : World} {ts : List A} {a : Act}
theorem ld_run {t : TypeId} {ag : Option Nat} {c : C} {u : Value} {k : V1 → Tree} (hag : agOf P t = some ag) (hs : Sat E m w) (hc : c = .any ∨ CRep E m w c u) (h : Holds P I p (ld ag c m k)) :
  ∃ v av x, u = .pointer (some x) ∧ Holds P I p (k av) ∧ V1Rep E m w av v ∧ (loadVar t x).run P w = .ok v w := by
 suffices hk : ∃ a_ off j row, u = .pointer (some (at_ a_ (off + j))) ∧ Holds P I p (seg row j ag k) ∧
   (∀ (jj : Nat) (c : C), row[jj]? = some c → ∃ u, w.cell? (at_ a_ (off + jj)) = some u ∧ CRep E m w c u) by
  obtain ⟨a_, off, j, row, h1, h2, h3⟩ := hk
  obtain ⟨av, v, g1, g2, g3⟩ := load_at hag h2 h3
  exact ⟨v, av, _, h1, g1, g2, g3 w rfl⟩
 cases c with
 | gp row j =>
  simp only [ld] at h
  rcases hc with hc | ⟨a_, off, h1, h2, h3⟩
  ·cases hc
  ·refine ⟨a_, off, j, row.map .g, h1, h, fun jj c hj => ?_⟩
   rw [List.getElem?_map] at hj
   cases hq : row[jj]? with
   | none => simp [hq] at hj
   | some g =>
    simp [hq] at hj
    subst hj
    exact h3 jj g hq
 | ptr b i es j =>
  simp only [ld] at h
  rcases hc with hc | ⟨hb, a_, base, h1, h2⟩
  ·cases hc
  cases hm : m[b]? with
  | none => rw [hm] at h; exact (holds_fail h).elim
  | some blk =>
   rw [hm] at h
   cases blk with
   | dead => exact (holds_fail h).elim
   | mp _ _ => exact (holds_fail h).elim
   | lit es' rows =>
    try simp only at h
    cases i with
    | sym i =>
     try simp only at h
     split at h
     ·rename_i heq he
      cases heq
     ·rename_i i'' heq he
      cases heq
      split at h
      ·rename_i l hl
       cases h with
       | nth r hr h =>
       obtain rfl : es = es' := by simpa using he
       rcases hs.rep b _ hm trivial with ⟨e, _⟩ | ⟨a', base', e, g1, g2, g3⟩
       ·rw [e] at h1; cases h1
       ·rw [e] at h1
        cases h1
        refine ⟨a_, base + i * es, j, _, by rw [h2, Nat.add_assoc]; rfl, h, fun jj c hj => ?_⟩
        obtain ⟨g, hg, rfl⟩ := sy_row hj
        obtain ⟨u, q1, q2⟩ := (g3 i _ (ground_row hl hr)).2 jj _ hg
        exact ⟨u, by rw [Nat.add_assoc]; exact q1, G_sy q2⟩
      ·exact (holds_fail h).elim
     ·exact (holds_fail h).elim
    | lit i =>
     try simp only at h
     split at h
     ·rename_i i'' heq he
      cases heq
      split at h
      ·rename_i row hr
       obtain rfl : es = es' := by simpa using he
       rcases hs.rep b _ hm trivial with ⟨e, _⟩ | ⟨a', base', e, g1, g2, g3⟩
       ·rw [e] at h1; cases h1
       ·rw [e] at h1
        cases h1
        refine ⟨a_, base + i * es, j, row, by rw [h2, Nat.add_assoc]; rfl, h, fun jj c hj => ?_⟩
        obtain ⟨u, q1, q2⟩ := (g3 i row hr).2 jj c hj
        exact ⟨u, by rw [Nat.add_assoc]; exact q1, q2⟩
      ·exact (holds_fail h).elim
     ·rename_i heq he
      cases heq
     ·exact (holds_fail h).elim
   | sym es' l =>
    try simp only at h
    split at h
    ·rename_i he
     obtain rfl : es = es' := by simpa using he
     cases h with
     | nth r hr h =>
     rcases hs.rep b _ hm trivial with ⟨e, _⟩ | ⟨a', base', e, g1, g2, g3⟩
     ·rw [e] at h1; cases h1
     ·rw [e] at h1
      cases h1
      refine ⟨a_, base + i.val * es, j, r.map .g, by rw [h2, Nat.add_assoc], h, fun jj c hj => ?_⟩
      obtain ⟨u, q1, q2⟩ := (g3 i.val (r.map .g) (by simp [Blk.rows, hr])).2 jj c hj
      exact ⟨u, by rw [Nat.add_assoc]; exact q1, q2⟩
    ·exact (holds_fail h).elim
 | _ => exact (holds_fail h).elim
/-- A result. -/
def pull (tmps : Array Value) : ResultVar → Sem Value
 | .tmp t => pure (tmps.getD t undef)
 | .cell c t => do loadVar t (← asAddr (tmps.getD c undef))
theorem pull_tmp (tmps : Array Value) (t : Tmp) : pull tmps (.tmp t) = pure (tmps.getD t undef) := rfl
theorem pull_cell (tmps : Array Value) (c : Tmp) (t : TypeId) : pull tmps (.cell c t) = (asAddr (tmps.getD c undef) >>= fun x => loadVar t x) := rfl
theorem asAddr_run {u : Value} {x : Addr} (h : u = .pointer (some x)) (w : World) : (asAddr u).run P w = .ok x w := by subst h; rfl
theorem results_eq (fn : Func) (tmps : Array Value) : results fn tmps = ((fun vs : Array Value => if h : vs.size = 1 then vs[0] else .tuple vs) <$> (List.toArray <$> fn.results.toList.mapM (pull tmps))) := by
 rw [← Array.mapM_eq_mapM_toList]
 rfl
theorem res_inv : ∀ {l : List ResultVar} {xs : List XRes} {k : List V1 → Tree}, compRes P l = some xs → At E m w ts a → Holds P I p (evRes xs ts m k) →
  ∃ (vs : List V1) (us : List Value), Holds P I p (k vs) ∧ us.length = vs.length ∧ (∀ (i : Nat) (v : V1), vs[i]? = some v → ∃ u, us[i]? = some u ∧ V1Rep E m w v u) ∧ (l.mapM (pull a.tmps)).run P w = .ok us w
 | [], xs, k, hc, hA, h => by
  cases hc
  exact ⟨[], [], h, rfl, fun i v h => by simp at h, by simp⟩
 | .tmp t :: l, xs, k, hc, hA, h => by
  simp only [compRes] at hc
  obtain ⟨xl, hl, rfl⟩ := Option.map_eq_some_iff.1 hc
  obtain ⟨v, hv, h⟩ := ev1_inv (X := .tmp t) rfl hA h
  obtain ⟨vs, us, h1, h2, h3, h4⟩ := res_inv hl hA h
  refine ⟨v :: vs, a.tmps.getD t undef :: us, h1, by simp [h2], fun i x hi => ?_, ?_⟩
  ·cases i with
   | zero => simp at hi; subst hi; exact ⟨_, rfl, hv⟩
   | succ i => simpa using h3 i x (by simpa using hi)
  ·rw [List.mapM_cons, pull_tmp]
   simp only [Sem.run_bind, Sem.run_pure, Result.andThen_ok, h4]
 | .cell c t :: l, xs, k, hc, hA, h => by
  simp only [compRes] at hc
  split at hc
  ·rename_i ag xl hag hl
   cases hc
   obtain ⟨c', hc', h⟩ := evC_inv (X := .tmp c) rfl hA h
   obtain ⟨u, v, x, hx, h, hv, hrun⟩ := ld_run hag hA.sat hc' h
   obtain ⟨vs, us, h1, h2, h3, h4⟩ := res_inv hl hA h
   have hx' : a.tmps.getD c undef = .pointer (some x) := hx
   refine ⟨v :: vs, u :: us, h1, by simp [h2], fun i y hi => ?_, ?_⟩
   ·cases i with
    | zero => simp at hi; subst hi; exact ⟨_, rfl, hv⟩
    | succ i => simpa using h3 i y (by simpa using hi)
   ·rw [List.mapM_cons, pull_cell]
    simp only [Sem.run_bind, Sem.run_pure, Result.andThen_ok, h4, asAddr_run (P := P) hx' w, hrun]
  ·cases hc
theorem end_inv {fn : Func} {xs : List XRes} {k : A → Mem → Tree} (hc : compRes P fn.results.toList = some xs) (hA : At E m w ts a) (h : Holds P I p (evEnd xs ts m k)) :
  ∃ v u, Holds P I p (k v m) ∧ ARep E m w v u ∧ (results fn a.tmps).run P w = .ok u w := by
 obtain ⟨vs, us, h1, h2, h3, h4⟩ := res_inv hc hA h
 have hm : (results fn a.tmps).run P w = .ok (if h : us.toArray.size = 1 then us.toArray[0] else .tuple us.toArray) w := by
  rw [results_eq]
  simp only [Sem.run_map, h4, Result.andThen_ok]
 have tup : vs.length ≠ 1 → ARep E m w (.tup vs) (if h : us.toArray.size = 1 then us.toArray[0] else .tuple us.toArray) := fun hn => by
  rw [dif_neg (by simp [h2, hn])]
  exact ⟨us.toArray, rfl, by simp [h2], fun i v hi => by simpa using h3 i v hi⟩
 match vs, h1, h2, h3, tup with
 | [v], h1, h2, h3, _ =>
  match us, h2, hm, h3 with
  | [u], _, hm, h3 =>
   obtain ⟨u', g1, g2⟩ := h3 0 v rfl
   simp at g1
   subst g1
   exact ⟨.one v, u, h1, g2, hm⟩
 | [], h1, h2, h3, tup => exact ⟨.tup [], _, h1, tup (by simp), hm⟩
 | v :: v' :: r, h1, h2, h3, tup => exact ⟨.tup (v :: v' :: r), _, h1, tup (by simp), hm⟩
/-! ### Worlds with the same cells -/
section
variable {E' : Env} {m' : Mem} {w' : World}
theorem RowAt.same (hc : ∀ x, w'.cell? x = w.cell? x) {T : Nat → Prop} {es : Nat} {l : List (List G)} {A : Option Addr} {u : Nat → Nat → Value} (h : RowAt w T es l A u) : RowAt w' T es l A u :=
 ⟨h.wid, fun i r j x hi hj => let ⟨a, off, h1, h2, h3⟩ := h.cell i r j x hi hj; ⟨a, off, h1, h2, (hc _).trans h3⟩, h.some_⟩
theorem GRep.same (hc : ∀ x, w'.cell? x = w.cell? x) {F : Nat → Prop} {x : G} {v : Value} (h : GRep F w x v) : GRep F w' x v := by
 induction h with
 | bool b => exact .bool b
 | int k z => exact .int k z
 | str s => exact .str s
 | nilp => exact .nilp
 | nil => exact .nil
 | rows u hn hr hg ih => exact .rows u hn (hr.same hc) ih
theorem CRep.same (hc : ∀ x, w'.cell? x = w.cell? x) (hs : Stays w w') (hm : ∀ (a : Nat) (es : Array MapEntry) (c : Nat), w.heap[a]? = some (.map es c) → w'.heap[a]? = some (.map es c)) {x : C} {v : Value} (hx : CRep E m w x v) : CRep E m w' x v := by
 cases x with
 | any => exact hx
 | g x => exact GRep.same hc hx
 | bor es l =>
  obtain ⟨A, c, u, h1, h2, h3, h4⟩ := hx
  exact ⟨A, c, u, h1, h2, h3.same hc, fun i r j x hi hj => (h4 i r j x hi hj).same hc⟩
 | gp row j =>
  obtain ⟨a, off, h1, h2, h3⟩ := hx
  exact ⟨a, off, h1, h2, fun j x hj => let ⟨u, h4, h5⟩ := h3 j x hj; ⟨u, (hc _).trans h4, h5.same hc⟩⟩
 | ptr b i es j => exact hx
 | row b es cap =>
  obtain ⟨h0, ho, hx⟩ := hx
  refine ⟨h0, ho, fun blk hb hl => ?_⟩
  obtain ⟨k1, k2, k3⟩ := hx blk hb hl
  refine ⟨k1, k2, k3.imp id ?_⟩
  rintro ⟨a, base, c, e1, e2, e3, e4, e5⟩
  exact ⟨a, base, c, e1, e2, e3, e4, there_stays hs e5⟩
 | sl b i es n cap =>
  obtain ⟨h0, ho, hx⟩ := hx
  refine ⟨h0, ho, fun blk hb hl => ?_⟩
  obtain ⟨k1, k2, k3, k4⟩ := hx blk hb hl
  refine ⟨k1, k2, k3, k4.imp id ?_⟩
  rintro ⟨a, base, c, off, e1, e2, e3, e4, e5, e6⟩
  exact ⟨a, base, c, off, e1, e2, e3, e4, e5, there_stays hs e6⟩
 | fn f l => exact hx
 | map b => exact hx
 | stamp b z =>
  obtain ⟨h0, a, base, born, es, c, h1, h2, h3, h4⟩ := hx
  exact ⟨h0, a, base, born, es, c, h1, h2, hm a es c h3, h4⟩
theorem V1Rep.same (hc : ∀ x, w'.cell? x = w.cell? x) (hs : Stays w w') (hm : ∀ (a : Nat) (es : Array MapEntry) (c : Nat), w.heap[a]? = some (.map es c) → w'.heap[a]? = some (.map es c)) {x : V1} {v : Value} (hx : V1Rep E m w x v) : V1Rep E m w' x v := by
 cases x with
 | c x => exact hx.imp id (CRep.same hc hs hm)
 | agg l =>
  obtain ⟨cs, h1, h2, h3⟩ := hx
  exact ⟨cs, h1, h2, fun i x hi => let ⟨u, h4, h5⟩ := h3 i x hi; ⟨u, h4, h5.same hc hs hm⟩⟩
theorem ARep.same (hc : ∀ x, w'.cell? x = w.cell? x) (hs : Stays w w') (hm : ∀ (a : Nat) (es : Array MapEntry) (c : Nat), w.heap[a]? = some (.map es c) → w'.heap[a]? = some (.map es c)) {x : A} {v : Value} (hx : ARep E m w x v) : ARep E m w' x v := by
 cases x with
 | one v => exact V1Rep.same hc hs hm hx
 | tup l =>
  obtain ⟨cs, h1, h2, h3⟩ := hx
  exact ⟨cs, h1, h2, fun i x hi => let ⟨u, h4, h5⟩ := h3 i x hi; ⟨u, h4, h5.same hc hs hm⟩⟩
theorem MapAt.same (hc : ∀ x, w'.cell? x = w.cell? x) (hm : ∀ (a : Nat) (es : Array MapEntry) (c : Nat), w.heap[a]? = some (.map es c) → w'.heap[a]? = some (.map es c)) {F : Nat → Prop} {ag : Option Nat} {l : List (List G)} {a : Nat} (h : MapAt w F ag l a) : MapAt w' F ag l a := by
 obtain ⟨es, clock, h1, h2, h3, h4⟩ := h.ex
 refine ⟨es, clock, hm a es clock h1, h2, fun i row hi => ?_, h4⟩
 obtain ⟨z, gs, e, us, g1, g2, g3, g4, g5, g6, g7⟩ := h3 i row hi
 exact ⟨z, gs, e, us, g1, g2, g3, g4, g5, fun j g hj => let ⟨u, k1, k2⟩ := g6 j g hj; ⟨u, k1, k2.same hc⟩, g7⟩
theorem Sat.same (hc : ∀ x, w'.cell? x = w.cell? x) (hz : w.heap.size ≤ w'.heap.size) (hs : Stays w w') (hm : ∀ (a : Nat) (es : Array MapEntry) (c : Nat), w.heap[a]? = some (.map es c) → w'.heap[a]? = some (.map es c)) (h : Sat E m w) : Sat E m w' where
 rep := fun id blk hb hl => (h.rep id blk hb hl).imp (fun h => h) fun ⟨a, base, e, h1, h2, h3⟩ => ⟨a, base, e, there_stays hs h1, Nat.lt_of_lt_of_le h2 hz, fun i row hi => ⟨(h3 i row hi).1, fun j x hj => let ⟨u, h4, h5⟩ := (h3 i row hi).2 j x hj; ⟨u, (hc _).trans h4, h5.same hc hs hm⟩⟩⟩
 inj := h.inj
 dis := h.dis
 old := fun k hk => Nat.lt_of_lt_of_le (h.old k hk) hz
 maps := fun id ag l hb => let ⟨a, e, hlt, hma⟩ := h.maps id ag l hb; ⟨a, e, Nat.lt_of_lt_of_le hlt hz, hma.same hc hm⟩
end
/-- A block that is no cells and no map turns into such a one: all else is as it was. -/
theorem putObj_same {w : World} {r : Nat} {o o' : Obj} (hr : w.heap[r]? = some o) (hc : ∀ c t f, o ≠ .cells c t f) (hc' : ∀ c t f, o' ≠ .cells c t f) (ho : ∀ es c, o ≠ .map es c) :
  (∀ x, (w.putObj r o').cell? x = w.cell? x) ∧ Stays w (w.putObj r o') ∧ (∀ (a : Nat) (es : Array MapEntry) (c : Nat), w.heap[a]? = some (.map es c) → (w.putObj r o').heap[a]? = some (.map es c)) := by
 have hlt : r < w.heap.size := (Array.getElem?_eq_some_iff.1 hr).1
 have c1 : ∀ x : Addr, (w.putObj r o').cell? x = w.cell? x := fun x => by
  by_cases he : x.block = r
  ·have h1 : (w.putObj r o').heap[x.block]? = some o' := by rw [he]; exact World.putObj_heap_same hlt
   have h2 : w.heap[x.block]? = some o := by rw [he]; exact hr
   unfold World.cell?
   rw [h1, h2]
   cases o <;> cases o' <;> first | rfl | exact (hc _ _ _ rfl).elim | exact (hc' _ _ _ rfl).elim
  ·exact World.cell?_of_block (World.putObj_heap_other he)
 have f1 : ∀ x : Addr, (w.putObj r o').frozen? x = w.frozen? x := fun x => by
  by_cases he : x.block = r
  ·have h1 : (w.putObj r o').heap[x.block]? = some o' := by rw [he]; exact World.putObj_heap_same hlt
   have h2 : w.heap[x.block]? = some o := by rw [he]; exact hr
   unfold World.frozen?
   rw [h1, h2]
   cases o <;> cases o' <;> first | rfl | exact (hc _ _ _ rfl).elim | exact (hc' _ _ _ rfl).elim
  ·exact World.frozen?_of_block (World.putObj_heap_other he)
 have m1 : ∀ (a : Nat) (es : Array MapEntry) (c : Nat), w.heap[a]? = some (.map es c) → (w.putObj r o').heap[a]? = some (.map es c) := fun a es c h => by
  have hne : a ≠ r := fun e => by rw [e, hr] at h; exact ho es c (Option.some.inj h)
  exact (World.putObj_heap_other hne).trans h
 exact ⟨c1, ⟨fun x hx => ⟨by rw [c1]; exact hx, f1 x⟩, fun a es c h => ⟨es, c, m1 a es c h, fun i e hi => ⟨e, hi, rfl, rfl⟩⟩⟩, m1⟩
theorem Grow.put (hg : Grow (fun _ => True) E0 m0 w0 E m w) {r : Nat} {o' : Obj} (h0 : w0.heap.size ≤ r) (h00 : ∀ k, E0.F k ∨ E0.B k → k < w0.heap.size) (hs : Stays w (w.putObj r o')) : Grow (fun _ => True) E0 m0 w0 E m (w.putObj r o') :=
 {hg with
   frz := fun k hk => (World.putObj_heap_other (by have := h00 k hk; omega)).trans (hg.frz k hk)
   stays := hg.stays.trans hs
   size := by simpa using hg.size
   block := fun k hk hn => (World.putObj_heap_other (by omega)).trans (hg.block k hk hn)
   os := hg.os, tape := hg.tape, output := hg.output }
/-- Where a body ends: the marks of ranges over functions go by. -/
theorem leaves_shut {fn : Func} {R : Ending → World → Prop} {tmps : Array Value} (h00 : ∀ k, E0.F k ∨ E0.B k → k < w0.heap.size) : ∀ (Ds : List Nat) {w : World}, Ds.Nodup → (∀ D ∈ Ds, w0.heap.size ≤ D ∧ w.heap[D]? = some (.deferred (some []))) → Sat E m w → Grow (fun _ => True) E0 m0 w0 E m w → TsRep E m w ts tmps →
  (∀ w', Sat E m w' → Grow (fun _ => True) E0 m0 w0 E m w' → TsRep E m w' ts tmps → w.heap.size ≤ w'.heap.size → ∃ v, (results fn tmps).run P w' = .ok v w' ∧ R (.returned v) w') →
  LeavesInM Fence.wide 0 P fn tmps R (Ds.map fun D => { target := .collected D, args := #[] }) .returning w
 | [], w, _, _, hs, hg, ht, h => h w hs hg ht (Nat.le_refl _)
 | D :: Ds, w, hn, hD, hs, hg, ht, h => by
  obtain ⟨g1, g2⟩ := hD D (List.mem_cons_self ..)
  obtain ⟨p1, p2, p3⟩ := putObj_same (o' := .deferred none) g2 (fun _ _ _ e => by cases e) (fun _ _ _ e => by cases e) (fun es c e => by cases e)
  have hn' := List.nodup_cons.1 hn
  refine ⟨(by intro e; cases e), .inl ⟨D, w.putObj D (.deferred none), rfl, run_takeDeferred g2, ?_⟩⟩
  refine leaves_shut h00 Ds hn'.2 (fun D' hD' => ⟨(hD D' (List.mem_cons_of_mem _ hD')).1, ?_⟩) (hs.same p1 (by simp) p2 p3) (hg.put g1 h00 p2) ⟨ht.1, fun t x hx => (ht.2 t x hx).same p1 p2 p3⟩ (fun w' s g t hz => h w' s g t (by simpa using hz))
  exact (World.putObj_heap_other (fun (e : D' = D) => hn'.1 (e ▸ hD'))).trans (hD D' (List.mem_cons_of_mem _ hD')).2
theorem leaves_now {fn : Func} {R : Ending → World → Prop} (hs0 : Sat E0 m0 w0) (hN : Now w0.heap.size E0 m0 w0 E m w ts a)
  (h : ∀ w' a', a'.tmps = a.tmps → Now w0.heap.size E0 m0 w0 E m w' ts a' → ∃ v, (results fn a'.tmps).run P w' = .ok v w' ∧ R (.returned v) w') :
  LeavesInM Fence.wide 0 P fn a.tmps R a.defers .returning w := by
 obtain ⟨Ds, d1, d2, d3⟩ := hN.defers
 have hfr := hN.fresh
 rw [d2]
 refine leaves_shut hs0.old Ds d1 (fun D hD => ⟨hfr.2 D ?_, (d3 D hD).2⟩) hN.sat hN.grow hN.ts (fun w' s g t hz => h w' { tmps := a.tmps, defers := [] } rfl ⟨⟨s, t, .nil rfl⟩, g, Nat.le_trans hfr.1 hz, fun D hD => by cases hD⟩)
 rw [d2]
 exact List.mem_map.2 ⟨D, hD, rfl⟩
/-- What is asked behind a body: no panic. -/
def endQ (P : Program) (fn : Func) (R : Ending → World → Prop) : Exit → Act → World → Prop
 | .normal, a, w => LeavesInM Fence.wide 0 P fn a.tmps R a.defers .returning w
 | .ret, a, w => LeavesInM Fence.wide 0 P fn a.tmps R a.defers .returning w
 | _, _, _ => False
theorem calls_of_end {f : FuncId} {fn : Func} {c : Code} {args : Array Value} {w : World} {R : Ending → World → Prop} (hf : P.funcs[f]? = some fn) (hb : fn.body = some c)
  (h : c.wp P (endQ P fn R) { tmps := args ++ Array.replicate (fn.ntmps - args.size) undef, defers := [] } w) : Calls P f args w R :=
 callsIn_wide.1 (callsIn_of_wp_marks (n := 0) hf hb trivial (wpIn_mono (wpIn_wide.2 h) (fun e a w hq => by cases e <;> first | exact hq | exact hq.elim)))
/-- What an evaluated body says of calls. -/
theorem fn_sim (hI : I = ints) (hmo : P.follows .mixedOrders = true) {j : List Nat} {f : FuncId} {x : XF} (hx : compFj P j f = some x) {args : List V1} {R : A → Mem → Prop}
  (h : ∀ Post : A → Mem → Tree, (∀ (v : A) (m : Mem) (σ fz : List Nat) (v1 : A) (m1 : Mem), σ.Nodup → σ.take m0.length = List.range m0.length → v1 = v.inv I σ (.frz fz) m → m1 = invMem I σ (.frz fz) m → v1.free = true → m1.all Blk.free = true → R v1 m1 → Holds P I m0.length (Post v m)) →
   Holds P I m0.length (evF I x args m0 Post)) : LValid P f args m0 R := by
 intro E w vs hs hsz hrep
 unfold compFj at hx
 split at hx
 ·rename_i fn hf
  split at hx
  ·rename_i c r hb hr
   obtain ⟨xb, hxb, rfl⟩ := Option.map_eq_some_iff.1 hx
   refine calls_of_end hf hb ?_
   have h1 := h (fun v m => .goal (∃ (σ fz : List Nat) (v1 : A) (m1 : Mem), σ.Nodup ∧ σ.take m0.length = List.range m0.length ∧ v1 = v.inv I σ (.frz fz) m ∧ m1 = invMem I σ (.frz fz) m ∧ v1.free = true ∧ m1.all Blk.free = true ∧ R v1 m1))
    (fun v m σ fz v1 m1 a1 a2 a3 a4 a5 a6 a7 => .goal ⟨σ, fz, v1, m1, a1, a2, a3, a4, a5, a6, a7⟩)
   have hts : TsRep E m0 w (args.map A.one ++ List.replicate (fn.ntmps - args.length) (.one (.c .any))) (vs ++ Array.replicate (fn.ntmps - vs.size) undef) := by
    refine ⟨by simp [hsz], fun t y ht => ?_⟩
    rw [List.getElem?_append] at ht
    split at ht
    ·rename_i hlt
     rw [List.length_map] at hlt
     rw [List.getElem?_map] at ht
     obtain ⟨v, hv, rfl⟩ := Option.map_eq_some_iff.1 ht
     obtain ⟨u, g1, g2⟩ := hrep t v hv
     rw [Array.getD_eq_getD_getElem?, Array.getElem?_append_left (by omega), g1]
     exact g2
    ·rw [List.getElem?_replicate] at ht
     split at ht
     ·cases ht
      exact any_rep _
     ·cases ht
   have hN : Now w.heap.size E m0 w E m0 w (args.map A.one ++ List.replicate (fn.ntmps - args.length) (.one (.c .any))) { tmps := vs ++ Array.replicate (fn.ntmps - vs.size) undef, defers := [] } := ⟨⟨hs, hts, .nil rfl⟩, Grow.refl _ _ _ _, Nat.le_refl _, fun _ h => by cases h⟩
   have fin : ∀ {ts' : List A} {m' : Mem} {E' : Env} {w' : World} {a' : Act} {R' : Ending → World → Prop}, (∀ e w', (∃ u v m' E', e = .returned u ∧ R v m' ∧ ARep E' m' w' v u ∧ v.free = true ∧ (∀ (id : Nat) (blk : Blk), m'[id]? = some blk → blk.free = true) ∧ Sat E' m' w' ∧ Grow (fun _ => True) E m0 w E' m' w') → R' e w') →
     Holds P I m0.length (evEnd r ts' m' fun v m => .goal (∃ (σ fz : List Nat) (v1 : A) (m1 : Mem), σ.Nodup ∧ σ.take m0.length = List.range m0.length ∧ v1 = v.inv I σ (.frz fz) m ∧ m1 = invMem I σ (.frz fz) m ∧ v1.free = true ∧ m1.all Blk.free = true ∧ R v1 m1)) →
     Now w.heap.size E m0 w E' m' w' ts' a' → LeavesInM Fence.wide 0 P fn a'.tmps R' a'.defers .returning w' := by
    intro ts' m' E' w3 a3 R' hR' hk hN3
    refine leaves_now hs hN3 (fun w' a' ha' hN' => ?_)
    obtain ⟨v, u, h2, h3, h4⟩ := end_inv hr hN'.toAt hk
    cases h2 with
    | goal h2 =>
    obtain ⟨σ, fz, v1, m1, a1, a2, a3, a4, a5, a6, a7⟩ := h2
    obtain ⟨E2, hN2, hv2⟩ := Now.tidy (keep := []) hI hN' (fz := fz) a1 a2
    rw [← a4] at hN2
    refine ⟨u, h4, hR' _ _ ⟨u, v1, m1, E2, rfl, a7, ?_, a5, fun id blk hb => List.all_eq_true.1 a6 blk (List.mem_of_getElem? hb), hN2.sat, hN2.grow⟩⟩
    rw [a3, a4]
    exact hv2 _ _ h3
   refine ev_sim hI hmo 1000 c xb hxb rfl (fun c d v a w hq => hq.elim) hN h1 (fun e ts' m' E' w' a' hk hN' => ?_)
   cases e with
   | exit i => exact (holds_fail hk).elim
   | normal => exact fin (fun _ _ h => h) hk hN'
   | ret => exact fin (fun _ _ h => h) hk hN'
  ·cases hx
 ·cases hx
theorem kills_grow {Wt : Nat → Prop} : ∀ (kl : List Nat) {m : Mem}, Sat E m w → Grow Wt E m w E (kill m kl) w ∧ Sat E (kill m kl) w
 | [], m, hs => ⟨Grow.refl _ _ _ _, hs⟩
 | b :: kl, m, hs => by
  obtain ⟨h1, h2⟩ := kill_grow (Wt := Wt) hs b
  obtain ⟨h3, h4⟩ := kills_grow kl h2
  exact ⟨h1.trans h3 (fun _ _ h => h), h4⟩
/-- The same; blocks kl are forgotten at the end. -/
theorem fn_simk (hI : I = ints) (hmo : P.follows .mixedOrders = true) {j : List Nat} {f : FuncId} {x : XF} (hx : compFj P j f = some x) {args : List V1} {R : A → Mem → Prop}
  (h : ∀ Post : A → Mem → Tree, (∀ (v : A) (m : Mem) (σ fz kl : List Nat) (v1 : A) (m1 : Mem), σ.Nodup → σ.take m0.length = List.range m0.length → v1 = v.inv I σ (.frz fz) m → m1 = kill (invMem I σ (.frz fz) m) kl → v1.free = true → m1.all Blk.free = true → R v1 m1 → Holds P I m0.length (Post v m)) →
   Holds P I m0.length (evF I x args m0 Post)) : LValid P f args m0 R := by
 intro E w vs hs hsz hrep
 unfold compFj at hx
 split at hx
 ·rename_i fn hf
  split at hx
  ·rename_i c r hb hr
   obtain ⟨xb, hxb, rfl⟩ := Option.map_eq_some_iff.1 hx
   refine calls_of_end hf hb ?_
   have h1 := h (fun v m => .goal (∃ (σ fz kl : List Nat) (v1 : A) (m1 : Mem), σ.Nodup ∧ σ.take m0.length = List.range m0.length ∧ v1 = v.inv I σ (.frz fz) m ∧ m1 = kill (invMem I σ (.frz fz) m) kl ∧ v1.free = true ∧ m1.all Blk.free = true ∧ R v1 m1))
    (fun v m σ fz kl v1 m1 a1 a2 a3 a4 a5 a6 a7 => .goal ⟨σ, fz, kl, v1, m1, a1, a2, a3, a4, a5, a6, a7⟩)
   have hts : TsRep E m0 w (args.map A.one ++ List.replicate (fn.ntmps - args.length) (.one (.c .any))) (vs ++ Array.replicate (fn.ntmps - vs.size) undef) := by
    refine ⟨by simp [hsz], fun t y ht => ?_⟩
    rw [List.getElem?_append] at ht
    split at ht
    ·rename_i hlt
     rw [List.length_map] at hlt
     rw [List.getElem?_map] at ht
     obtain ⟨v, hv, rfl⟩ := Option.map_eq_some_iff.1 ht
     obtain ⟨u, g1, g2⟩ := hrep t v hv
     rw [Array.getD_eq_getD_getElem?, Array.getElem?_append_left (by omega), g1]
     exact g2
    ·rw [List.getElem?_replicate] at ht
     split at ht
     ·cases ht
      exact any_rep _
     ·cases ht
   have hN : Now w.heap.size E m0 w E m0 w (args.map A.one ++ List.replicate (fn.ntmps - args.length) (.one (.c .any))) { tmps := vs ++ Array.replicate (fn.ntmps - vs.size) undef, defers := [] } := ⟨⟨hs, hts, .nil rfl⟩, Grow.refl _ _ _ _, Nat.le_refl _, fun _ h => by cases h⟩
   have fin : ∀ {ts' : List A} {m' : Mem} {E' : Env} {w' : World} {a' : Act} {R' : Ending → World → Prop}, (∀ e w', (∃ u v m' E', e = .returned u ∧ R v m' ∧ ARep E' m' w' v u ∧ v.free = true ∧ (∀ (id : Nat) (blk : Blk), m'[id]? = some blk → blk.free = true) ∧ Sat E' m' w' ∧ Grow (fun _ => True) E m0 w E' m' w') → R' e w') →
     Holds P I m0.length (evEnd r ts' m' fun v m => .goal (∃ (σ fz kl : List Nat) (v1 : A) (m1 : Mem), σ.Nodup ∧ σ.take m0.length = List.range m0.length ∧ v1 = v.inv I σ (.frz fz) m ∧ m1 = kill (invMem I σ (.frz fz) m) kl ∧ v1.free = true ∧ m1.all Blk.free = true ∧ R v1 m1)) →
     Now w.heap.size E m0 w E' m' w' ts' a' → LeavesInM Fence.wide 0 P fn a'.tmps R' a'.defers .returning w' := by
    intro ts' m' E' w3 a3 R' hR' hk hN3
    refine leaves_now hs hN3 (fun w' a' ha' hN' => ?_)
    obtain ⟨v, u, h2, h3, h4⟩ := end_inv hr hN'.toAt hk
    cases h2 with
    | goal h2 =>
    obtain ⟨σ, fz, kl, v1, m1, a1, a2, a3, a4, a5, a6, a7⟩ := h2
    obtain ⟨E2, hN2, hv2⟩ := Now.tidy (keep := []) hI hN' (fz := fz) a1 a2
    obtain ⟨k1, k2⟩ := kills_grow (Wt := fun _ => True) kl hN2.sat
    rw [← a4] at k1 k2
    refine ⟨u, h4, hR' _ _ ⟨u, v1, m1, E2, rfl, a7, ?_, a5, fun id blk hb => List.all_eq_true.1 a6 blk (List.mem_of_getElem? hb), k2, hN2.grow.trans k1 (fun _ _ h => h)⟩⟩
    rw [a3]
    exact (hv2 _ _ h3).step k1.toStep
   refine ev_sim hI hmo 1000 c xb hxb rfl (fun c d v a w hq => hq.elim) hN h1 (fun e ts' m' E' w' a' hk hN' => ?_)
   cases e with
   | exit i => exact (holds_fail hk).elim
   | normal => exact fin (fun _ _ h => h) hk hN'
   | ret => exact fin (fun _ _ h => h) hk hN'
  ·cases hx
 ·cases hx
end
end Go.Proofs.Ytofdnnjkfpomcaa.E

/- What a proof uses: loops by a next step, a nil slice as a row of its own, a law's answer. -/
namespace Go.Proofs.Ytofdnnjkfpomcaa.E
open Go
set_option linter.unusedVariables false
set_option linter.unusedSectionVars false

/-- A frame of n slots: these values, letters elsewhere. -/
def fr (n : Nat) (l : List (Nat × A)) : List A := l.foldl (fun ts x => ts.set x.1 x.2) (List.replicate n (.one (.c .any)))
abbrev i64 (z : Int) : A := .one (.c (.g (.int .i64 (.sym z))))
abbrev u16 (z : Int) : A := .one (.c (.g (.int .u16 (.sym z))))
abbrev u8 (z : Int) : A := .one (.c (.g (.int .u8 (.sym z))))
abbrev boo (b : Bool) : A := .one (.c (.g (.bool (.sym b))))
abbrev gi (k : IntKind) (z : Int) : V1 := .c (.g (.int k (.sym z)))
abbrev gb (b : Bool) : V1 := .c (.g (.bool (.sym b)))
/-- A list of numbers as rows. -/
def nrow (k : IntKind) (l : List Int) : List (List G) := l.map fun x => [.int k (.sym x)]

theorem nrow_get (k : IntKind) (l : List Int) (i : Nat) (r : List G) (h : (nrow k l)[i]? = some r) : ∃ x : Int, r = [.int k (.sym x)] := by
 unfold nrow at h
 rw [List.getElem?_map] at h
 obtain ⟨x, hx, rfl⟩ := Option.map_eq_some_iff.1 h
 exact ⟨x, rfl⟩
section
variable {P : Program} {I : Ints} {p : Nat}
theorem br_t {b : Bool} {t e : Unit → Tree} (h : b = true) (h1 : Holds P I p (t ())) : Holds P I p (.br b t e) := .br (fun _ => h1) (fun h2 => by rw [h] at h2; cases h2)
theorem br_f {b : Bool} {t e : Unit → Tree} (h : b = false) (h1 : Holds P I p (e ())) : Holds P I p (.br b t e) := .br (fun h2 => by rw [h] at h2; cases h2) (fun _ => h1)
theorem Holds.loop_next {x : X} {ts : List A} {m : Mem} {k : Ex → List A → Mem → Tree} (Inv : Nat → List A → Mem → Prop) (n : Nat) (ts0 : List A) (m0 : Mem) (σ fz keep : List Nat)
  (hσ : σ.Nodup) (hp : σ.take p = List.range p) (ht : ts0 = ((maskT keep 0 ts).map (A.inv I σ (.frz fz) m)).map A.sy) (hm : m0 = (invMem I σ (.frz fz) m).map Blk.sy) (h0 : Inv n ts0 m0)
  (h : ∀ (next : List A → Mem → Tree) (n : Nat), (∀ (ts : List A) (m : Mem) (n' : Nat) (σ fz keep : List Nat) (ts1 : List A) (m1 : Mem), n' < n → σ.Nodup → σ.take p = List.range p → ts1 = ((maskT keep 0 ts).map (A.inv I σ (.frz fz) m)).map A.sy → m1 = (invMem I σ (.frz fz) m).map Blk.sy → Inv n' ts1 m1 → Holds P I p (next ts m)) →
   ∀ (ts : List A) (m : Mem), Inv n ts m → Holds P I p (ev I x ts m fun e ts m => match e with
    | .normal => next ts m
    | .exit i => k (.exit i) ts m
    | .ret => k .ret ts m)) : Holds P I p (.loop x ts m k) :=
 .loop Inv n ts0 m0 σ fz keep hσ hp ht hm h0 (fun n ts m hi => h _ n (fun ts m n' σ fz keep ts1 m1 a1 a2 a3 a4 a5 a6 => .goal ⟨n', ts1, m1, σ, fz, keep, a1, a2, a3, a4, a5, a6⟩) ts m hi)
theorem Holds.join_next {x : X} {ts : List A} {m : Mem} {k : Ex → List A → Mem → Tree} (Post : List A → Mem → Prop)
  (h : ∀ next : List A → Mem → Tree, (∀ (ts : List A) (m : Mem) (σ fz keep : List Nat) (ts1 : List A) (m1 : Mem), σ.Nodup → σ.take p = List.range p → ts1 = ((maskT keep 0 ts).map (A.inv I σ (.frz fz) m)).map A.sy → m1 = (invMem I σ (.frz fz) m).map Blk.sy → Post ts1 m1 → Holds P I p (next ts m)) →
   Holds P I p (ev I x ts m fun e ts m => match e with
    | .normal => next ts m
    | .exit i => k (.exit i) ts m
    | .ret => k .ret ts m))
  (h2 : ∀ (ts : List A) (m : Mem), Post ts m → Holds P I p (k .normal ts m)) : Holds P I p (.join x ts m k) :=
 .join Post (h _ (fun ts m σ fz keep ts1 m1 a1 a2 a3 a4 a5 => .goal ⟨ts1, m1, σ, fz, keep, a1, a2, a3, a4, a5⟩)) h2
theorem Holds.go {f : FuncId} {args args' : List V1} {m m0 : Mem} {wr : Option (List Nat × Nat)} {k : A → Mem → Tree} {R : A → Mem → Prop} (σ fz : List Nat) (qs : List How) (hc : LValid P f args' m0 R)
  (h1 : decide σ.Nodup = true) (h2 : ((σ ++ fz).all fun b => okW wr b && decide (b < m.length)) = true) (h3 : (fz.all fun b => !σ.contains b) = true) (h4 : (qs.all fun q => match q with | .frz l => l.all fun b => fz.contains b | _ => true) = true)
  (ha : args' = invArgs I σ m qs args) (hm : m0 = invMem I σ .keep m) (h : ∀ v m1, R v m1 → Holds P I p (k (v.up σ m.length) (upMem σ fz m m1))) : Holds P I p (.call f args m wr k) := by
 refine .call σ fz qs args' m0 R hc (of_decide_eq_true h1) (fun b hb => ?_) (fun b hb hn => ?_) (fun q hq l e b hb => ?_) ha hm h
 ·have := List.all_eq_true.1 h2 b hb
  simpa using this
 ·have := List.all_eq_true.1 h3 b hb
  simp [hn] at this
 ·have := List.all_eq_true.1 h4 q hq
  subst e
  have := List.all_eq_true.1 this b hb
  simpa using this
theorem LValid.mono {f : FuncId} {args : List V1} {m : Mem} {R R' : A → Mem → Prop} (h : LValid P f args m R) (hR : ∀ v m1, R v m1 → R' v m1) : LValid P f args m R' := fun E w vs hs hsz hr =>
 (h E w vs hs hsz hr).mono fun e w' ⟨u, v, m', E', a1, a2, a3⟩ => ⟨u, v, m', E', a1, hR _ _ a2, a3⟩
/-- A nil slice is a row of no elements that nobody else has. -/
theorem LValid.own {f : FuncId} {args : List V1} {m : Mem} {R R' : A → Mem → Prop} (es : Nat) (h : LValid P f args m R)
  (hR : ∀ v m1, R v m1 → R' v m1 ∨ (v = .one (.c (.g .nil)) ∧ R' (.one (.c (.row m1.length es none))) (m1 ++ [.sym es []]))) : LValid P f args m R' := fun E w vs hs hsz hr =>
 (h E w vs hs hsz hr).mono fun e w' ⟨u, v, m', E', a1, a2, a3, a4, a5, a6, a7⟩ => by
  rcases hR v m' a2 with h1 | ⟨rfl, h1⟩
  ·exact ⟨u, v, m', E', a1, h1, a3, a4, a5, a6, a7⟩
  ·have hu : u = .slice none 0 0 := by
    rcases a3 with a3 | a3
    ·cases a3
    ·generalize u = u' at a3
     cases a3
     rfl
   have hg := add_grow (Wt := fun _ => True) (w' := w') a6 (blk := .sym es []) (r := none) (Nat.le_refl _) rfl rfl rfl (Stays.refl _) (fun _ _ => rfl) (fun _ _ h => by cases h) (fun _ => .inl ⟨rfl, rfl⟩)
   refine ⟨u, _, _, _, a1, h1, .inr ⟨by simp, by rw [hu]; rfl, fun blk hb hl => ?_⟩, rfl, fun id blk hb => ?_, hg.2, a7.trans hg.1 (fun _ _ h => h)⟩
   ·simp at hb
    subst hb
    exact ⟨rfl, fun c' hc => (by cases hc), .inl ⟨if_pos rfl, hu⟩⟩
   ·rw [List.getElem?_append] at hb
    split at hb
    ·exact a5 id blk hb
    ·cases hq : id - m'.length with
     | zero => rw [hq] at hb; simp at hb; subst hb; rfl
     | succ n => rw [hq] at hb; simp at hb
/-- Known arguments may be taken for letters. -/
theorem LValid.sy {f : FuncId} {args : List V1} {m : Mem} {R : A → Mem → Prop} (h : LValid P f (args.map V1.sy) m R) : LValid P f args m R := fun E w vs hs hsz hr =>
 h E w vs hs (by simp [hsz]) fun i x hi => by
  rw [List.getElem?_map] at hi
  obtain ⟨y, hy, rfl⟩ := Option.map_eq_some_iff.1 hi
  obtain ⟨u, h1, h2⟩ := hr i y hy
  exact ⟨u, h1, V1_sy h2⟩
/-- A Bool, a number that is told is a letter. -/
theorem LValid.boo {f : FuncId} {args : List V1} {m : Mem} {x : Bool} {Q : Mem → Prop} (h : LValid P f args m fun v m1 => ∃ b : BB, v = .one (.c (.g (.bool b))) ∧ b.val = x ∧ Q m1) : LValid P f args m fun v m1 => v = E.boo x ∧ Q m1 := fun E w vs hs hsz hr =>
 (h E w vs hs hsz hr).mono fun e w' ⟨u, v, m', E', a1, a2, a3, a4, a5⟩ => by
  obtain ⟨b, rfl, rfl, a2⟩ := a2
  refine ⟨u, _, m', E', a1, ⟨rfl, a2⟩, .inr ?_, rfl, a5⟩
  rcases a3 with a3 | a3
  ·cases a3
  ·generalize u = u' at a3
   cases a3
   exact .bool (.sym b.val)
theorem LValid.num {f : FuncId} {args : List V1} {m : Mem} {k : IntKind} {x : Int} {Q : Mem → Prop} (h : LValid P f args m fun v m1 => ∃ z : Z, v = .one (.c (.g (.int k z))) ∧ z.val = x ∧ Q m1) : LValid P f args m fun v m1 => v = .one (.c (.g (.int k (.sym x)))) ∧ Q m1 := fun E w vs hs hsz hr =>
 (h E w vs hs hsz hr).mono fun e w' ⟨u, v, m', E', a1, a2, a3, a4, a5⟩ => by
  obtain ⟨b, rfl, rfl, a2⟩ := a2
  refine ⟨u, _, m', E', a1, ⟨rfl, a2⟩, .inr ?_, rfl, a5⟩
  rcases a3 with a3 | a3
  ·cases a3
  ·generalize u = u' at a3
   cases a3
   exact .int k (.sym b.val)
def nought (w : World) : Env := ⟨fun k => k < w.heap.size, fun _ => False, fun _ => none⟩
/-- A law answers true, and leaves all that was there. -/
theorem law_calls {f : FuncId} {args : List V1} {w : World} {us : List Value} (h : LValid P f args [] (fun v _ => ∃ b : BB, b.val = true ∧ v = .one (.c (.g (.bool b)))))
  (hs : us.length = args.length) (hr : ∀ (i : Nat) (x : V1), args[i]? = some x → ∃ u, us[i]? = some u ∧ V1Rep (nought w) [] w x u) : Calls P f us.toArray w fun e w' => e = .returned (.bool true) ∧ RowKit.Below w.heap.size w w' := by
 refine (h (nought w) w us.toArray ⟨fun id blk h => by simp at h, fun i j bi bj a x y h => by simp at h, fun i bi a x h => by simp at h, fun k hk => hk.elim id (fun h => h.elim), fun id ag l h => by simp at h⟩ (by simpa using hs) (fun i x hi => by simpa using hr i x hi)).mono ?_
 rintro e w' ⟨u, v, m', E', rfl, ⟨b, hb, rfl⟩, a3, a4, a5, a6, a7⟩
 have hu : u = .bool true := by
  rcases a3 with a3 | a3
  ·cases a3
  ·generalize u = u' at a3
   cases a3
   rw [hb]
 refine ⟨by rw [hu], a7.os, a7.tape, a7.output, a7.size, fun k hk => a7.block k hk ?_⟩
 rintro ⟨id, blk, x, h1, _⟩
 simp at h1
theorem arg_g {w : World} {x : G} {u : Value} (h : GRep (fun k => k < w.heap.size) w x u) : V1Rep (nought w) [] w (.c (.g x)) u := .inr h
theorem args_nil {E : Env} {m : Mem} {w : World} : ∀ (i : Nat) (x : V1), ([] : List V1)[i]? = some x → ∃ u, ([] : List Value)[i]? = some u ∧ V1Rep E m w x u := fun i x h => by simp at h
theorem args_cons {E : Env} {m : Mem} {w : World} {x : V1} {u : Value} {l : List V1} {us : List Value} (h : V1Rep E m w x u) (hl : ∀ (i : Nat) (x : V1), l[i]? = some x → ∃ u, us[i]? = some u ∧ V1Rep E m w x u) :
  ∀ (i : Nat) (y : V1), (x :: l)[i]? = some y → ∃ u', (u :: us)[i]? = some u' ∧ V1Rep E m w y u' := fun i y hi => by
 cases i with
 | zero => simp at hi; subst hi; exact ⟨u, rfl, h⟩
 | succ i => simpa using hl i y (by simpa using hi)
end
end Go.Proofs.Ytofdnnjkfpomcaa.E

-- PRINTED BY print.sh 35421559b90ae4d0a3588c463048766b98c2df88dd9212a6774a882060cdf62d: not written by this session
-- PRINTED WORDS (module Derived/Print/Words.lean): go-wishes' parts 1 to 38 and go-gate-2's additions: AI agents of Go's test side, Mon Nov 16 2026; no person has read them. Plain theorems and definitions: no macro, no elab, no axiom.
set_option linter.unusedVariables false
set_option linter.unusedSimpArgs false
namespace Go.Proofs.YtofdnnjkfpomcaaW.PrintWords
open Go.RowKit

/-- A fact that the walk's simp doesn't look into. -/
structure Aside0 (p : Prop) : Prop where mk :: (out : p)
/-- The world is the old one, some orders having been drawn. -/
structure Drawn0 (w w' : World) : Prop where mk :: (out : ∃ n, w' = w.drewN n)
theorem Drawn0.refl (w : World) : Drawn0 w w := ⟨⟨0, rfl⟩⟩
theorem Drawn0.step {w w' : World} (h : Drawn0 w w') (n : Nat) : Drawn0 w (w'.drewN n) := by
  obtain ⟨m, rfl⟩ := h
  exact ⟨⟨m + n, World.drewN_drewN ..⟩⟩
theorem Drawn0.grown {w w' : World} (h : Drawn0 w w') : Grown w w' := by
  obtain ⟨n, rfl⟩ := h
  induction n with
  | zero => exact Grown.refl _
  | succ n ih => rw [← World.drew_drewN]; exact Grown.drew ih
theorem Drawn0.below {w w' : World} (h : Drawn0 w w') : Below w.heap.size w w' := by
  obtain ⟨n, rfl⟩ := h
  induction n with
  | zero => exact Below.refl _ _
  | succ n ih => rw [← World.drew_drewN]; exact ih.drew


/-! ### 1. Values and lists -/
def rd (xs : List Int) (i : Int) : Int := xs.getD i.toNat 0
def bt (s : ByteArray) (i : Int) : Int := if h : i.toNat < s.size then ((s[i.toNat]'h).toNat : Int) else 0
def bools (xs : List Bool) : List Value := xs.map fun x => .bool x
/-! ### 2. The world -/
theorem below_alloc {w W : World} (h : Below w.heap.size w W) (o : Obj) : Below w.heap.size w (W.alloc o) := h.alloc h.size o
theorem grown_of_below {w w1 : World} (h : Below w.heap.size w w1) (row : Option Nat) : w.grownBy w1 row := ⟨h.os, h.tape, h.output, h.size, fun i hi _ => h.block i hi⟩
theorem pw_cell_below {w w1 : World} (h : Below w.heap.size w w1) {a : Addr} {v : Value} (hc : w.cell? a = some v) : w1.cell? a = some v := (h.cell (World.block_lt_of_cell? w a hc)).trans hc

/-! ### 3. A slice of whole numbers that is read; nil, empty and other slices alike -/
def ReadsInt (w : World) (k : IntKind) (A : Option Addr) (n : Nat) (xs : List Int) : Prop :=
  xs.length = n ∧ n ≤ 9223372036854775807 ∧ (0 < n → ∃ ad, A = some ad ∧ ∀ j, j < n → w.cell? (ad.add j) = some (.int k (xs.getD j 0)))
theorem ReadsInt.at_ {w : World} {k : IntKind} {A : Option Addr} {n : Nat} {xs : List Int} (h : ReadsInt w k A n xs) (i : Int) (h0 : 0 ≤ i) (h1 : i < n) : ∃ ad, A = some ad ∧ w.cell? (ad.add i.toNat) = some (.int k (rd xs i)) := by
  obtain ⟨ad, e, hc⟩ := h.2.2 (by omega)
  exact ⟨ad, e, hc _ (by omega)⟩
theorem ReadsInt.below {w w1 : World} {k : IntKind} {A : Option Addr} {n : Nat} {xs : List Int} (h : ReadsInt w k A n xs) (hb : Below w.heap.size w w1) : ReadsInt w1 k A n xs :=
  ⟨h.1, h.2.1, fun hn => by
    obtain ⟨ad, e, hc⟩ := h.2.2 hn
    exact ⟨ad, e, fun j hj => pw_cell_below hb (hc j hj)⟩⟩

/-! ### 4. A row of the call's own -/
theorem own_nil (W : World) (base : Nat) (e : TypeId) (size : Nat) : W.ownsRow base e size (.slice none 0 0) 0 [] := ⟨by simp, .inl ⟨rfl, rfl⟩⟩
theorem own_base {w : World} {base : Nat} {e : TypeId} {size n : Nat} {v : Value} {xs : List Value} (h : w.ownsRow base e size v n xs) (k : Nat) (hk : v.ownBlock = some k) : base ≤ k := by
  rcases h.2 with ⟨rfl, _⟩ | ⟨g, cap, cur, rfl, hb, _⟩
  · simp [Value.ownBlock] at hk
  · have : g = k := by simpa [Value.ownBlock] using hk
    omega
theorem own_lt {w : World} {base : Nat} {e : TypeId} {size n : Nat} {v : Value} {xs : List Value} (h : w.ownsRow base e size v n xs) (k : Nat) (hk : v.ownBlock = some k) : k < w.heap.size := by
  rcases h.2 with ⟨rfl, _⟩ | ⟨g, cap, cur, rfl, hb, hh, _⟩
  · simp [Value.ownBlock] at hk
  · have : g = k := by simpa [Value.ownBlock] using hk
    subst this
    exact (Array.getElem?_eq_some_iff.1 hh).1
theorem pw_own_below {w w1 : World} {base : Nat} {e : TypeId} {size n : Nat} {v : Value} {xs : List Value} (h : w.ownsRow base e size v n xs) (hb : Below w.heap.size w w1) : w1.ownsRow base e size v n xs :=
  h.kept (grown_of_below hb none) (by cases v.ownBlock <;> simp)
/-- What is written is another row: this one lives on. -/
theorem own_other {w w1 : World} {base : Nat} {e : TypeId} {size n : Nat} {v : Value} {xs : List Value} (h : w.ownsRow base e size v n xs) {row : Option Nat} (hg : w.grownBy w1 row) (hne : v.ownBlock = none ∨ v.ownBlock ≠ row) : w1.ownsRow base e size v n xs := h.kept hg hne
/-- The shape of whatever is owned. -/
theorem own_slice {w : World} {base n : Nat} {e : TypeId} {size : Nat} {v : Value} {xs : List Value} (h : w.ownsRow base e size v n xs) : ∃ A c, v = .slice A n c := by
  rcases h.2 with ⟨rfl, rfl⟩ | ⟨g, cap, cur, rfl, _⟩
  · exact ⟨none, 0, rfl⟩
  · exact ⟨_, cap, rfl⟩
/-! ### 5. append(v, x): behind 'at_builtin'; the goal's world is 'W.alloc' of the variadic's box -/
section
variable {P : Program} {ops : Array Oper} {rest : List Oper} {o : Oper} {a : Act} {Q : Exit → Act → World → Prop}

end

/-! ### 6. make([]T, n), n an Int; a literal -/
section
variable {P : Program}
end
/-! ### 7. v[i] read and v[i] = x, v a row of the call's own: 'obtain ⟨g, cap, rfl, hgb, hgl⟩ := HO.out.form (by omega)' first -/
/-! ### 8. append(v, ys...): ys a slice that is read, nil let in; behind 'at_builtin' -/
section
variable {P : Program} {ops : Array Oper} {rest : List Oper} {o : Oper} {a : Act} {Q : Exit → Act → World → Prop}
end

/-! ### 9. []byte(s): a slice that is read (its row bears a conversion's mark: no row of one's own); cuts of a slice that is read -/
def bytesOf (s : ByteArray) : List Int := s.data.toList.map fun b => (b.toNat : Int)
/-! ### 10. Rounds: more rounds give the same answer; what ends gives a number of rounds -/
/-- Where the first answers, the second answers the same. -/
def LeO {α : Type} (a b : Option α) : Prop := ∀ r, a = some r → b = some r
theorem LeO.refl {α : Type} (a : Option α) : LeO a a := fun _ h => h
theorem LeO.none {α : Type} (b : Option α) : LeO Option.none b := fun _ h => by cases h
theorem LeO.trans {α : Type} {a b c : Option α} (h : LeO a b) (k : LeO b c) : LeO a c := fun r hr => k r (h r hr)
theorem LeO.bind {α β : Type} {a a' : Option α} {f f' : α → Option β} (h : LeO a a') (k : ∀ x, LeO (f x) (f' x)) : LeO (a.bind f) (a'.bind f') := by
  intro r hr
  obtain ⟨x, hx, hf⟩ := Option.bind_eq_some_iff.1 hr
  exact Option.bind_eq_some_iff.2 ⟨x, h x hx, k x r hf⟩
theorem LeO.map {α β : Type} {a a' : Option α} (f : α → β) (h : LeO a a') : LeO (a.map f) (a'.map f) := by
  intro r hr
  obtain ⟨x, hx, hf⟩ := Option.map_eq_some_iff.1 hr
  exact Option.map_eq_some_iff.2 ⟨x, h x hx, hf⟩
theorem more_rounds {α : Type} {g : Nat → Option α} (h : ∀ k, LeO (g k) (g (k + 1))) (k : Nat) : ∀ j, LeO (g k) (g (k + j))
  | 0 => LeO.refl _
  | j + 1 => (more_rounds h k j).trans (h (k + j))
theorem at_rounds {α : Type} {g : Nat → Option α} (h : ∀ k, LeO (g k) (g (k + 1))) {k k' : Nat} (hk : k ≤ k') {r : α} (hr : g k = some r) : g k' = some r := by
  have := more_rounds h k (k' - k) r hr
  rwa [Nat.add_sub_cancel' hk] at this
/-! ### 11. Rows of elements of several cells (structs): read, made. R: what an element's cells say ('RepItem w': printed for each type) -/
def Reps {α : Type} (R : α → List Value → Prop) (size : Nat) (ps : List α) (cs : List Value) : Prop :=
  cs.length = ps.length * size ∧ ∀ j p, ps[j]? = some p → R p ((cs.drop (j * size)).take size)
theorem Reps.none {α : Type} (R : α → List Value → Prop) (size : Nat) : Reps R size [] [] := ⟨by simp, fun j p h => by simp at h⟩
theorem Reps.snoc {α : Type} {R : α → List Value → Prop} {size : Nat} {ps : List α} {cs c : List Value} {p : α} (h : Reps R size ps cs) (hp : R p c) (hc : c.length = size) : Reps R size (ps ++ [p]) (cs ++ c) := by
  refine ⟨by rw [List.length_append, h.1, hc, List.length_append, List.length_singleton, Nat.add_mul, Nat.one_mul], fun j q hq => ?_⟩
  rcases Nat.lt_or_ge j ps.length with hj | hj
  · rw [List.getElem?_append_left hj] at hq
    have h1 : j * size + size ≤ cs.length := by rw [h.1, ← Nat.succ_mul]; exact Nat.mul_le_mul_right _ hj
    have h2 := h.2 j q hq
    rw [List.drop_append_of_le_length (by omega), List.take_append_of_le_length (by rw [List.length_drop]; omega)]
    exact h2
  · have hj' : j = ps.length := by
      have := (List.getElem?_eq_some_iff.1 hq).1
      rw [List.length_append, List.length_singleton] at this
      omega
    subst hj'
    have hq' : p = q := by simpa using hq
    subst hq'
    rw [← h.1, List.drop_left, ← hc, List.take_length]
    exact hp
theorem Reps.imp_ {α : Type} {R R' : α → List Value → Prop} {size : Nat} {ps : List α} {cs : List Value} (h : Reps R size ps cs) (hR : ∀ p c, R p c → R' p c) : Reps R' size ps cs := ⟨h.1, fun j p hj => hR _ _ (h.2 j p hj)⟩

def ReadsRow {α : Type} (R : α → List Value → Prop) (size : Nat) (w : World) (A : Option Addr) (n : Nat) (ps : List α) : Prop :=
  ps.length = n ∧ n ≤ 9223372036854775807 ∧ (0 < n → ∃ ad, A = some ad ∧ ∀ j p, ps[j]? = some p → ∃ c, c.length = size ∧ R p c ∧ ∀ i u, c[i]? = some u → w.cell? (ad.add (j * size + i)) = some u)
theorem ReadsRow.imp_ {α : Type} {R R' : α → List Value → Prop} {size : Nat} {w w1 : World} {A : Option Addr} {n : Nat} {ps : List α} (h : ReadsRow R size w A n ps) (hb : Below w.heap.size w w1) (hR : ∀ p c, R p c → R' p c) : ReadsRow R' size w1 A n ps :=
  ⟨h.1, h.2.1, fun hn => by
    obtain ⟨ad, e, hc⟩ := h.2.2 hn
    refine ⟨ad, e, fun j p hj => ?_⟩
    obtain ⟨c, hs, hr, hcell⟩ := hc j p hj
    exact ⟨c, hs, hR _ _ hr, fun i u hu => pw_cell_below hb (hcell i u hu)⟩⟩
theorem own_reads_row {α : Type} {R : α → List Value → Prop} {w : World} {base n size : Nat} {e : TypeId} {v : Value} {ps : List α} {cs : List Value} (h : w.ownsRow base e size v n cs) (hR : Reps R size ps cs) (hn : ps.length = n) :
    ∃ A c, v = .slice A n c ∧ ReadsRow R size w A n ps := by
  rcases Nat.eq_zero_or_pos n with h0 | h0
  · rcases h.2 with ⟨rfl, rfl⟩ | ⟨g, cap, cur, rfl, _⟩
    · exact ⟨none, 0, rfl, hn, by omega, fun hp => absurd hp (by omega)⟩
    · exact ⟨_, cap, rfl, hn, by omega, fun hp => absurd hp (by omega)⟩
  · obtain ⟨g, cap, rfl, _, _⟩ := h.form h0
    have hm : n ≤ 9223372036854775807 := by
      rcases h.2 with ⟨_, h1⟩ | ⟨g', cap', cur, he, _, _, h1, h2, _⟩
      · omega
      · simp only [maxLen] at h2
        omega
    refine ⟨_, cap, rfl, hn, hm, fun _ => ⟨_, rfl, fun j p hj => ⟨(cs.drop (j * size)).take size, ?_, hR.2 j p hj, fun i u hu => ?_⟩⟩⟩
    · have hjl := (List.getElem?_eq_some_iff.1 hj).1
      have h1 : j * size + size ≤ cs.length := by rw [hR.1, ← Nat.succ_mul]; exact Nat.mul_le_mul_right _ hjl
      rw [List.length_take, List.length_drop]
      omega
    · refine h.cells (g := g) rfl _ u ?_
      rw [List.getElem?_take] at hu
      split at hu
      · rw [List.getElem?_drop] at hu
        exact hu
      · cases hu
section
variable {P : Program} {ops : Array Oper} {rest : List Oper} {o : Oper} {a : Act} {Q : Exit → Act → World → Prop}
/-- append(v, x), x of several cells; behind 'at_builtin'; the goal's world is 'W.alloc' of the variadic's box. -/
theorem print_append_cells {w0 W : World} (base : Nat) (hgd : o.guard = none) (s x : Operand) (t e : TypeId) (z : Value) (size bytes : Nat)
    (ho : o.op = .call { callee := .builtin .append, args := #[s, x], argTypes := #[t, t] })
    (ht : P.underlying t = some (.slice e)) (hinfo : (P.info? e).map (fun i => (i.zero, i.size, i.bytes)) = some (some z, size, bytes)) (hz : z.cells.size = size) (hs0 : 0 < size) (hb0 : 0 < bytes)
    (v : Value) (n : Nat) (xs ys : List Value) (hs : a.eval s = v) (hx : a.eval x = .slice (some ⟨W.heap.size, 0, none⟩) 1 1) (hys : ys.length = size) (h1 : ∀ u ∈ ys, u.oneCell' = true)
    (HO : W.ownsRow base e size v n xs) (HB : Below base w0 W) (hbase : base ≤ W.heap.size) (hl : (n + 1) * bytes ≤ 140737488355328)
    (h : ∀ v1 w1, w1.ownsRow base e size v1 (n + 1) (xs ++ ys) → Below base w0 w1 → W.grownBy w1 v.ownBlock → (v1.ownBlock = v.ownBlock ∨ ∃ b, v1.ownBlock = some b ∧ W.heap.size ≤ b) → wpList P ops Q rest (a.put o.dst v1) w1) :
    wpList P ops Q (o :: rest) a (W.alloc (.cells ys.toArray e)) := by
  obtain ⟨i0, hi, hzz⟩ := Option.map_eq_some_iff.1 hinfo
  simp only [Prod.mk.injEq] at hzz
  obtain ⟨hz0, hz1, hz2⟩ := hzz
  have hlen : n + 1 ≤ 140737488355328 := Nat.le_trans (Nat.le_mul_of_pos_right _ hb0) hl
  refine wpList_append_own_at (W.alloc (.cells ys.toArray e)) hgd s x t ho base e i0 z size bytes ht hi hz0 hz1 hz2 hz hs0 v n xs hs (HO.alloc _) ⟨W.heap.size, 0, none⟩ 1 1 ys hx (by rw [hys]; simp)
    (by simpa using World.news_of_block (cs := ys.toArray) (t := e) (fr := (0, 0)) (heap_alloc_new W (.cells ys.toArray e))) h1 (by simp only [maxLen]; omega) hl (by simp; omega) ?_
  intro v1 w1 hown hg _ hat
  refine h v1 w1 hown ((HB.alloc hbase _).grown hg (by simp; omega) (own_base HO)) (World.grownBy.trans (World.grownBy_alloc W _ _) hg) ?_
  rcases hat with hat | hat
  · exact .inl hat
  · exact .inr ⟨_, hat, by simp⟩
end

/-! ### 12. A block of one's own that is a state: its cells, what a store leaves -/
theorem own_ne {w : World} {base : Nat} {e t : TypeId} {size n g : Nat} {v : Value} {xs : List Value} {cs : Array Value} (h : w.ownsRow base e size v n xs) (hg : w.heap[g]? = some (.cells cs t (0, 0))) (hne : e ≠ t) : some g ≠ v.ownBlock := by
  rcases h.2 with ⟨rfl, _⟩ | ⟨g', cap, cur, rfl, _, hh, _⟩
  · simp [Value.ownBlock]
  · intro he
    have : g = g' := by simpa [Value.ownBlock] using he
    subst this
    rw [hg] at hh
    injection hh with hh
    injection hh with _ ht
    exact hne ht.symm
theorem blk_set {w : World} {g : Nat} {t : TypeId} {cs : Array Value} (h : w.heap[g]? = some (.cells cs t (0, 0))) (i : Nat) (u : Value) : (w.setCell ⟨g, i, none⟩ u).heap[g]? = some (.cells (cs.setIfInBounds i u) t (0, 0)) := by
  simp [World.setCell, Array.getElem?_modify, h]
theorem blk_lt {w : World} {g : Nat} {o : Obj} (h : w.heap[g]? = some o) : g < w.heap.size := (Array.getElem?_eq_some_iff.1 h).1
theorem blk_frozen {w : World} {g : Nat} {t : TypeId} {cs : Array Value} (h : w.heap[g]? = some (.cells cs t (0, 0))) (i : Nat) : w.frozen? ⟨g, i, none⟩ = false := by simp [World.frozen?, h]
/-! ### 13. Two states at once: what a call on the state at block g (its row before: 'row') has turned -/
def KeepBut (w w' : World) (g : Nat) (row : Option Nat) : Prop := w.heap.size ≤ w'.heap.size ∧ ∀ i, i < w.heap.size → i ≠ g → some i ≠ row → w'.heap[i]? = w.heap[i]?
theorem KeepBut.refl (w : World) (g : Nat) (row : Option Nat) : KeepBut w w g row := ⟨Nat.le_refl _, fun _ _ _ _ => rfl⟩
theorem KeepBut.of_below {w w1 : World} (h : Below w.heap.size w w1) (g : Nat) (row : Option Nat) : KeepBut w w1 g row := ⟨h.size, fun i hi _ _ => h.block i hi⟩
theorem KeepBut.trans {w w1 w2 : World} {g : Nat} {row row1 : Option Nat} (h : KeepBut w w1 g row) (k : KeepBut w1 w2 g row1) (hr : row1 = row ∨ ∃ b, row1 = some b ∧ w.heap.size ≤ b) : KeepBut w w2 g row :=
  ⟨Nat.le_trans h.1 k.1, fun i hi hg hn => by
    refine (k.2 i (Nat.lt_of_lt_of_le hi h.1) hg ?_).trans (h.2 i hi hg hn)
    rcases hr with rfl | ⟨b, rfl, hb⟩
    · exact hn
    · intro e
      injection e with e
      omega⟩
/-- Another block, another row: they live on. -/
theorem KeepBut.blk {w w1 : World} {g g' : Nat} {row : Option Nat} {o : Obj} (h : KeepBut w w1 g row) (hb : w.heap[g']? = some o) (hg : g' ≠ g) (hr : some g' ≠ row) : w1.heap[g']? = some o := (h.2 g' (blk_lt hb) hg hr).trans hb
theorem KeepBut.own {w w1 : World} {g : Nat} {row : Option Nat} {base : Nat} {e : TypeId} {size n : Nat} {v : Value} {xs : List Value} (h : KeepBut w w1 g row) (ho : w.ownsRow base e size v n xs) (hg : v.ownBlock ≠ some g) (hr : v.ownBlock = none ∨ v.ownBlock ≠ row) : w1.ownsRow base e size v n xs := by
  obtain ⟨h1, h2⟩ := ho
  refine ⟨h1, ?_⟩
  rcases h2 with h2 | ⟨b, cap, cur, rfl, hb, hh, r⟩
  · exact .inl h2
  · refine .inr ⟨b, cap, cur, rfl, hb, h.blk hh ?_ ?_, r⟩
    · intro e
      exact hg (by rw [← e]; rfl)
    · rcases hr with hr | hr
      · simp [Value.ownBlock] at hr
      · exact hr
/-! ### 10b. From some number of rounds on -/
def Ev {α : Type} (g : Nat → Option α) (r : α) : Prop := ∃ K, ∀ k, K ≤ k → g k = some r
theorem Ev.of {α : Type} {g : Nat → Option α} {r : α} (hg : ∀ k, LeO (g k) (g (k + 1))) {k : Nat} (h : g k = some r) : Ev g r := ⟨k, fun _ hk => at_rounds hg hk h⟩
theorem Ev.now {α : Type} (r : α) : Ev (fun _ => some r) r := ⟨0, fun _ _ => rfl⟩
theorem Ev.rounds {α : Type} {g : Nat → Option α} {r : α} (h : Ev g r) : ∃ k, g k = some r := by
  obtain ⟨K, h⟩ := h
  exact ⟨K, h K (Nat.le_refl _)⟩
theorem Ev.bind {α β : Type} {g : Nat → Option α} {f : Nat → α → Option β} {a : α} {r : β} (h : Ev g a) (k : Ev (fun n => f n a) r) : Ev (fun n => (g n).bind (f n)) r := by
  obtain ⟨K, h⟩ := h
  obtain ⟨K', k⟩ := k
  refine ⟨max K K', fun n hn => ?_⟩
  have h1 := h n (by omega)
  have h2 := k n (by omega)
  simp only [h1, Option.bind_some]
  exact h2
/-- One round of a loop. -/
theorem Ev.step {α : Type} {g f : Nat → Option α} {r : α} (h : ∀ k, g (k + 1) = f k) (k : Ev f r) : Ev g r := by
  obtain ⟨K, k⟩ := k
  refine ⟨K + 1, fun n hn => ?_⟩
  obtain ⟨m, rfl⟩ : ∃ m, n = m + 1 := ⟨n - 1, by omega⟩
  rw [h]
  exact k m (by omega)
theorem Ev.congr {α : Type} {g f : Nat → Option α} {r : α} (h : ∀ k, g k = f k) (k : Ev f r) : Ev g r := by
  obtain ⟨K, k⟩ := k
  exact ⟨K, fun n hn => (h n).trans (k n hn)⟩
/-! ### 14. append as_ one step of a region that draws its order: for 'go_region_law' (and a region walked by hand) -/
section
variable {P : Program} {ops : Array Oper} {o : Oper} {a : Act} {Q : Exit → Act → World → Prop} {K : Act → World → Prop}
end
/-! ### 15. A row's base may be lowered -/
theorem own_weaken {w : World} {base base' : Nat} {e : TypeId} {size n : Nat} {v : Value} {xs : List Value} (h : w.ownsRow base e size v n xs) (hb : base' ≤ base) : w.ownsRow base' e size v n xs := by
  obtain ⟨h1, h2⟩ := h
  refine ⟨h1, ?_⟩
  rcases h2 with h2 | ⟨g, cap, cur, rfl, hg, r⟩
  · exact .inl h2
  · exact .inr ⟨g, cap, cur, rfl, Nat.le_trans hb hg, r⟩
/-! ### 16. Parts 3 to 9 for ANY element of one cell: 'enc' (Value.int k, Value.string, Value.bool), a default 'd' -/
section
variable {α : Type} {enc : α → Value} {d : α}
def encs (enc : α → Value) (xs : List α) : List Value := xs.map enc
def rdOf (d : α) (xs : List α) (i : Int) : α := xs.getD i.toNat d
def ReadsOf (enc : α → Value) (d : α) (w : World) (A : Option Addr) (n : Nat) (xs : List α) : Prop :=
  xs.length = n ∧ n ≤ 9223372036854775807 ∧ (0 < n → ∃ ad, A = some ad ∧ ∀ j, j < n → w.cell? (ad.add j) = some (enc (xs.getD j d)))
theorem ReadsOf.at_ {w : World} {A : Option Addr} {n : Nat} {xs : List α} (h : ReadsOf enc d w A n xs) (i : Int) (h0 : 0 ≤ i) (h1 : i < n) : ∃ ad, A = some ad ∧ w.cell? (ad.add i.toNat) = some (enc (rdOf d xs i)) := by
  obtain ⟨ad, e, hc⟩ := h.2.2 (by omega)
  exact ⟨ad, e, hc _ (by omega)⟩
theorem ReadsOf.below {w w1 : World} {A : Option Addr} {n : Nat} {xs : List α} (h : ReadsOf enc d w A n xs) (hb : Below w.heap.size w w1) : ReadsOf enc d w1 A n xs :=
  ⟨h.1, h.2.1, fun hn => by
    obtain ⟨ad, e, hc⟩ := h.2.2 hn
    exact ⟨ad, e, fun j hj => pw_cell_below hb (hc j hj)⟩⟩
end
section
variable {α : Type} {P : Program} {ops : Array Oper} {rest : List Oper} {o : Oper} {a : Act} {Q : Exit → Act → World → Prop}
end

/-! ### 17. Rows of one element type held at once: no two share a block -/
/-! ### 18. A block behind a new one; behind a draw -/
/-! ### 19. Results that lie in memory beside others -/
section
variable {P : Program}
end
/-! ### 20. Rows of elements of any kind: R is what an element's cells say -/
theorem own_le {w : World} {base n m c size : Nat} {e : TypeId} {A : Option Addr} {xs : List Value} (h : w.ownsRow base e size (.slice A m c) n xs) : m ≤ c := by
  rcases h.2 with ⟨he, _⟩ | ⟨g, cap, cur, he, _, _, hnc, _⟩
  · injection he with _ h2 h3
    omega
  · injection he with _ h2 h3
    omega
def OwnRow {α : Type} (R : α → List Value → Prop) (e : TypeId) (size : Nat) (w : World) (base : Nat) (v : Value) (ps : List α) : Prop :=
  ∃ inner, w.ownsRow base e size v ps.length inner ∧ Reps R size ps inner
section
variable {α : Type} {R R' : α → List Value → Prop} {e : TypeId} {size : Nat} {w w1 : World} {base : Nat} {v : Value} {ps : List α}
theorem OwnRow.none_ (R : α → List Value → Prop) (e : TypeId) (size : Nat) (w : World) (base : Nat) : OwnRow R e size w base (.slice none 0 0) [] := ⟨[], own_nil _ _ _ _, Reps.none _ _⟩
theorem OwnRow.imp_ (h : OwnRow R e size w base v ps) (hR : ∀ p c, R p c → R' p c) : OwnRow R' e size w base v ps := by
  obtain ⟨inner, ho, hr⟩ := h
  exact ⟨inner, ho, hr.imp_ hR⟩
theorem OwnRow.below (h : OwnRow R e size w base v ps) (hb : Below w.heap.size w w1) : OwnRow R e size w1 base v ps := by
  obtain ⟨inner, ho, hr⟩ := h
  exact ⟨inner, pw_own_below ho hb, hr⟩
theorem OwnRow.other (h : OwnRow R e size w base v ps) {row : Option Nat} (hg : w.grownBy w1 row) (hne : v.ownBlock = none ∨ v.ownBlock ≠ row) : OwnRow R e size w1 base v ps := by
  obtain ⟨inner, ho, hr⟩ := h
  exact ⟨inner, own_other ho hg hne, hr⟩
theorem OwnRow.keep (h : OwnRow R e size w base v ps) {g : Nat} {t : TypeId} {cells : Array Value} (hb : w.heap[g]? = some (.cells cells t (0, 0))) (ht : e ≠ t) (hk : KeepBut w w1 g none) : OwnRow R e size w1 base v ps := by
  obtain ⟨inner, ho, hr⟩ := h
  exact ⟨inner, hk.own ho (Ne.symm (own_ne ho hb ht)) (by cases v.ownBlock <;> simp), hr⟩
theorem OwnRow.reads (h : OwnRow R e size w base v ps) : ∃ A c, v = .slice A ps.length c ∧ ps.length ≤ c ∧ ReadsRow R size w A ps.length ps := by
  obtain ⟨inner, ho, hr⟩ := h
  obtain ⟨A, c, rfl, hrow⟩ := own_reads_row ho hr rfl
  exact ⟨A, c, rfl, own_le ho, hrow⟩
/-- A literal: the elements' cells one behind the other. -/
theorem OwnRow.lit (W : World) (base : Nat) {inner : List Value} (hr : Reps R size ps inner) (hb : base ≤ W.heap.size) (hm : ps.length ≤ 9223372036854775807) :
    OwnRow R e size (W.alloc (.cells inner.toArray e)) base (.slice (some ⟨W.heap.size, 0, none⟩) ps.length ps.length) ps := by
  have h := World.ownsRow_lit (base := base) (e := e) (size := size) W inner.toArray ps.length hb (by simpa [maxLen] using hm) (by simpa using hr.1)
  exact ⟨inner, by simpa using h, hr⟩
end
section
variable {P : Program} {ops : Array Oper} {rest : List Oper} {o : Oper} {a : Act} {Q : Exit → Act → World → Prop} {α : Type} {R : α → List Value → Prop}
/-- append(v, x): x's cells are cs. R is that of the world AHEAD; move it over hg ('OwnRow.imp_'). -/
theorem OwnRow.append {w0 W : World} (base : Nat) (hgd : o.guard = none) (s x : Operand) (t e : TypeId) (z : Value) (size bytes : Nat)
    (ho : o.op = .call { callee := .builtin .append, args := #[s, x], argTypes := #[t, t] })
    (ht : P.underlying t = some (.slice e)) (hinfo : (P.info? e).map (fun i => (i.zero, i.size, i.bytes)) = some (some z, size, bytes)) (hz : z.cells.size = size) (hs0 : 0 < size) (hb0 : 0 < bytes)
    (v : Value) (ps : List α) (p : α) (cs : List Value) (hs : a.eval s = v) (hx : a.eval x = .slice (some ⟨W.heap.size, 0, none⟩) 1 1) (hp : R p cs) (hcs : cs.length = size) (h1 : ∀ u ∈ cs, u.oneCell' = true)
    (HO : OwnRow R e size W base v ps) (HB : Below base w0 W) (hbase : base ≤ W.heap.size) (hl : (ps.length + 1) * bytes ≤ 140737488355328)
    (h : ∀ v1 w1, OwnRow R e size w1 base v1 (ps ++ [p]) → Below base w0 w1 → W.grownBy w1 v.ownBlock → (v1.ownBlock = v.ownBlock ∨ ∃ b, v1.ownBlock = some b ∧ W.heap.size ≤ b) → wpList P ops Q rest (a.put o.dst v1) w1) :
    wpList P ops Q (o :: rest) a (W.alloc (.cells cs.toArray e)) := by
  obtain ⟨inner, hown, hr⟩ := HO
  refine print_append_cells base hgd s x t e z size bytes ho ht hinfo hz hs0 hb0 v ps.length inner cs hs hx hcs h1 hown HB hbase hl ?_
  intro v1 w1 hown1 hb1 hg1 hat1
  exact h v1 w1 ⟨inner ++ cs, by rw [List.length_append, List.length_singleton]; exact hown1, hr.snoc hp hcs⟩ hb1 hg1 hat1
end
section
variable {P : Program} {ops : Array Oper} {o : Oper} {a : Act} {Q : Exit → Act → World → Prop} {K : Act → World → Prop} {α : Type} {R : α → List Value → Prop}
end
/-! ### 21. Cuts of a slice that came in, lengths spelled as_ the lists' -/
section
variable {α : Type} {P : Program}
theorem ReadsOf.len_ {enc : α → Value} {d : α} {w : World} {A : Option Addr} {n : Nat} {xs : List α} (h : ReadsOf enc d w A n xs) : ReadsOf enc d w A xs.length xs := by rw [h.1]; exact h
end

/-! ### 22. append([]byte, s...), s a string; behind 'at_builtin'. (No word on where the new row lies: two rows of bytes at once don't go by it.) -/
section
variable {P : Program} {ops : Array Oper} {rest : List Oper} {o : Oper} {a : Act} {Q : Exit → Act → World → Prop}
end
/-! ### 23. KINDS: what a value's cells say, read (K) and made (M), kind by kind; every mover proved once -/
/-- ok: which blocks the rows inside may be ('not the row that is being written'). -/
structure Kd (α : Type) where
  sz : Nat
  E : List Nat
  K : World → α → List Value → Prop
  M : World → Nat → (Nat → Prop) → α → List Value → Prop
  K_len : ∀ {w x cs}, K w x cs → cs.length = sz
  K_one : ∀ {w x cs}, K w x cs → ∀ u ∈ cs, u.oneCell' = true
  K_below : ∀ {w w1 : World} {x cs}, Below w.heap.size w w1 → K w x cs → K w1 x cs
  K_of_M : ∀ {w base ok x cs}, M w base ok x cs → K w x cs
  M_mono : ∀ {w base ok ok' x cs}, (∀ k, ok k → ok' k) → M w base ok x cs → M w base ok' x cs
  M_bound : ∀ {w : World} {base ok x cs}, M w base ok x cs → M w base (fun k => ok k ∧ base ≤ k ∧ k < w.heap.size ∧ ∃ q, q ∈ E ∧ ∃ cells, w.heap[k]? = some (.cells cells q (0, 0))) x cs
  M_move : ∀ {w w1 : World} {base ok x cs}, (∀ k, ok k → w1.heap[k]? = w.heap[k]?) → M w base ok x cs → M w1 base ok x cs
  M_lower : ∀ {w base base' ok x cs}, base' ≤ base → M w base ok x cs → M w base' ok x cs

theorem own_move {w w1 : World} {base : Nat} {e : TypeId} {size n : Nat} {v : Value} {xs : List Value} (h : w.ownsRow base e size v n xs) (hm : ∀ k, v.ownBlock = some k → w1.heap[k]? = w.heap[k]?) : w1.ownsRow base e size v n xs := by
  obtain ⟨h1, h2⟩ := h
  refine ⟨h1, ?_⟩
  rcases h2 with h2 | ⟨g, cap, cur, rfl, hg, hh, r⟩
  · exact .inl h2
  · exact .inr ⟨g, cap, cur, rfl, hg, (hm g (by simp [Value.ownBlock])).trans hh, r⟩
theorem own_typed {w : World} {base : Nat} {e : TypeId} {size n : Nat} {v : Value} {xs : List Value} (h : w.ownsRow base e size v n xs) (k : Nat) (hk : v.ownBlock = some k) : ∃ cells, w.heap[k]? = some (.cells cells e (0, 0)) := by
  rcases h.2 with ⟨rfl, _⟩ | ⟨g, cap, cur, rfl, hg, hh, r⟩
  · simp [Value.ownBlock] at hk
  · have : g = k := by simpa [Value.ownBlock] using hk
    subst this
    exact ⟨cur, hh⟩

namespace Kd
/-- A row of elements that is read. -/
def C {α : Type} (d : Kd α) (w : World) (A : Option Addr) (n : Nat) (xs : List α) : Prop := ReadsRow (d.K w) d.sz w A n xs
/-- A row of elements (type e) of the call's own; the elements' rows are not this one. -/
def R {α : Type} (d : Kd α) (e : Nat) (w : World) (base : Nat) (ok : Nat → Prop) (v : Value) (xs : List α) : Prop :=
  (∀ k, v.ownBlock = some k → ok k) ∧ OwnRow (d.M w base (fun k => ok k ∧ some k ≠ v.ownBlock)) e d.sz w base v xs
section
variable {α : Type} {d : Kd α} {e : Nat} {w w1 : World} {base : Nat} {ok ok' : Nat → Prop} {v : Value} {xs : List α}
theorem C_below {A : Option Addr} {n : Nat} (h : d.C w A n xs) (hb : Below w.heap.size w w1) : d.C w1 A n xs := ReadsRow.imp_ h hb (fun _ _ hp => d.K_below hb hp)
theorem R_mono (h : d.R e w base ok v xs) (hok : ∀ k, ok k → ok' k) : d.R e w base ok' v xs := ⟨fun k hk => hok k (h.1 k hk), h.2.imp_ (fun _ _ hp => d.M_mono (fun k hk => ⟨hok k hk.1, hk.2⟩) hp)⟩
theorem R_bound (h : d.R e w base ok v xs) : d.R e w base (fun k => ok k ∧ base ≤ k ∧ k < w.heap.size ∧ ∃ q, q ∈ e :: d.E ∧ ∃ cells, w.heap[k]? = some (.cells cells q (0, 0))) v xs := by
  obtain ⟨h0, inner, ho, hr⟩ := h
  refine ⟨fun k hk => ?_, inner, ho, hr.imp_ (fun _ _ hp => d.M_mono (fun k hk => ?_) (d.M_bound hp))⟩
  · obtain ⟨cells, hc⟩ := own_typed ho k hk
    exact ⟨h0 k hk, own_base ho k hk, own_lt ho k hk, e, List.mem_cons_self, cells, hc⟩
  · obtain ⟨⟨h1, h2⟩, h3, h4, q, hq, hc⟩ := hk
    exact ⟨⟨h1, h3, h4, q, List.mem_cons_of_mem _ hq, hc⟩, h2⟩
theorem R_move (h : d.R e w base ok v xs) (hm : ∀ k, ok k → w1.heap[k]? = w.heap[k]?) : d.R e w1 base ok v xs := by
  obtain ⟨h0, inner, ho, hr⟩ := h
  exact ⟨h0, inner, own_move ho (fun k hk => hm k (h0 k hk)), hr.imp_ (fun _ _ hp => d.M_move (fun k hk => hm k hk.1) hp)⟩
theorem R_lower {base' : Nat} (h : d.R e w base ok v xs) (hb : base' ≤ base) : d.R e w base' ok v xs := by
  obtain ⟨h0, inner, ho, hr⟩ := h
  exact ⟨h0, inner, own_weaken ho hb, hr.imp_ (fun _ _ hp => d.M_lower hb hp)⟩
theorem R_reads (h : d.R e w base ok v xs) : ∃ A c, v = .slice A xs.length c ∧ xs.length ≤ c ∧ d.C w A xs.length xs := by
  obtain ⟨A, c, he, hl, hr⟩ := OwnRow.reads h.2
  exact ⟨A, c, he, hl, hr.imp_ (Below.refl _ _) (fun _ _ hp => d.K_of_M hp)⟩
end

/-! #### the kinds -/
def scalar {α : Type} (enc : α → Value) (h1 : ∀ x, (enc x).oneCell' = true) : Kd α where
  sz := 1
  E := []
  K := fun _ x cs => cs = [enc x]
  M := fun _ _ _ x cs => cs = [enc x]
  K_len := fun h => by rw [h]; rfl
  K_one := fun h u hu => by
    rw [h] at hu
    rw [List.mem_singleton.1 hu]
    exact h1 _
  K_below := fun _ h => h
  K_of_M := fun h => h
  M_mono := fun _ h => h
  M_bound := fun h => h
  M_move := fun _ h => h
  M_lower := fun _ h => h
def int (k : IntKind) : Kd Int := scalar (Value.int k) (fun _ => rfl)
def bool : Kd Bool := scalar Value.bool (fun _ => rfl)
def string : Kd ByteArray := scalar Value.string (fun _ => rfl)
def slice {α : Type} (e : Nat) (d : Kd α) : Kd (List α) where
  sz := 1
  E := e :: d.E
  K := fun w xs cs => ∃ A c, cs = [.slice A xs.length c] ∧ xs.length ≤ c ∧ d.C w A xs.length xs
  M := fun w base ok xs cs => ∃ v, cs = [v] ∧ d.R e w base ok v xs
  K_len := by
    rintro w x cs ⟨A, c, rfl, _⟩
    rfl
  K_one := by
    rintro w x cs ⟨A, c, rfl, _⟩ u hu
    rw [List.mem_singleton.1 hu]
    rfl
  K_below := by
    rintro w w1 x cs hb ⟨A, c, rfl, hl, hr⟩
    exact ⟨A, c, rfl, hl, C_below hr hb⟩
  K_of_M := by
    rintro w base ok x cs ⟨v, rfl, h⟩
    obtain ⟨A, c, rfl, hl, hr⟩ := R_reads h
    exact ⟨A, c, rfl, hl, hr⟩
  M_mono := by
    rintro w base ok ok' x cs hok ⟨v, rfl, h⟩
    exact ⟨v, rfl, R_mono h hok⟩
  M_bound := by
    rintro w base ok x cs ⟨v, rfl, h⟩
    exact ⟨v, rfl, R_bound h⟩
  M_move := by
    rintro w w1 base ok x cs hm ⟨v, rfl, h⟩
    exact ⟨v, rfl, R_move h hm⟩
  M_lower := by
    rintro w base base' ok x cs hb ⟨v, rfl, h⟩
    exact ⟨v, rfl, R_lower h hb⟩
/-- Two in line. -/
def pair {α β : Type} (a : Kd α) (b : Kd β) : Kd (α × β) where
  sz := a.sz + b.sz
  E := a.E ++ b.E
  K := fun w x cs => ∃ c0 c1, cs = c0 ++ c1 ∧ a.K w x.1 c0 ∧ b.K w x.2 c1
  M := fun w base ok x cs => ∃ c0 c1, cs = c0 ++ c1 ∧ a.M w base ok x.1 c0 ∧ b.M w base ok x.2 c1
  K_len := by
    rintro w x cs ⟨c0, c1, rfl, h0, h1⟩
    rw [List.length_append, a.K_len h0, b.K_len h1]
  K_one := by
    rintro w x cs ⟨c0, c1, rfl, h0, h1⟩ u hu
    rcases List.mem_append.1 hu with hu | hu
    · exact a.K_one h0 u hu
    · exact b.K_one h1 u hu
  K_below := by
    rintro w w1 x cs hb ⟨c0, c1, rfl, h0, h1⟩
    exact ⟨c0, c1, rfl, a.K_below hb h0, b.K_below hb h1⟩
  K_of_M := by
    rintro w base ok x cs ⟨c0, c1, rfl, h0, h1⟩
    exact ⟨c0, c1, rfl, a.K_of_M h0, b.K_of_M h1⟩
  M_mono := by
    rintro w base ok ok' x cs hok ⟨c0, c1, rfl, h0, h1⟩
    exact ⟨c0, c1, rfl, a.M_mono hok h0, b.M_mono hok h1⟩
  M_bound := by
    rintro w base ok x cs ⟨c0, c1, rfl, h0, h1⟩
    refine ⟨c0, c1, rfl, a.M_mono ?_ (a.M_bound h0), b.M_mono ?_ (b.M_bound h1)⟩
    · rintro k ⟨h2, h3, h4, q, hq, hc⟩
      exact ⟨h2, h3, h4, q, List.mem_append_left _ hq, hc⟩
    · rintro k ⟨h2, h3, h4, q, hq, hc⟩
      exact ⟨h2, h3, h4, q, List.mem_append_right _ hq, hc⟩
  M_move := by
    rintro w w1 base ok x cs hm ⟨c0, c1, rfl, h0, h1⟩
    exact ⟨c0, c1, rfl, a.M_move hm h0, b.M_move hm h1⟩
  M_lower := by
    rintro w base base' ok x cs hb ⟨c0, c1, rfl, h0, h1⟩
    exact ⟨c0, c1, rfl, a.M_lower hb h0, b.M_lower hb h1⟩
/-- A Lean structure by its fields. -/
def iso {α β : Type} (d : Kd α) (f : β → α) : Kd β where
  sz := d.sz
  E := d.E
  K := fun w x cs => d.K w (f x) cs
  M := fun w base ok x cs => d.M w base ok (f x) cs
  K_len := d.K_len
  K_one := d.K_one
  K_below := d.K_below
  K_of_M := d.K_of_M
  M_mono := d.M_mono
  M_bound := d.M_bound
  M_move := d.M_move
  M_lower := d.M_lower
/-- Nothing is of this kind: where the nesting's depth is used up. -/
def bot {α : Type} (sz : Nat) (E : List Nat) : Kd α where
  sz := sz
  E := E
  K := fun _ _ _ => False
  M := fun _ _ _ _ _ => False
  K_len := fun h => h.elim
  K_one := fun h => h.elim
  K_below := fun _ h => h
  K_of_M := fun h => h
  M_mono := fun _ h => h
  M_bound := fun h => h
  M_move := fun _ h => h
  M_lower := fun _ h => h
/-- A type nested in itself: nested at most n deep .. -/
def upto {α : Type} (F : Kd α → Kd α) (sz : Nat) (E : List Nat) : Nat → Kd α
  | 0 => bot sz E
  | n + 1 => F (upto F sz E n)
/-! #### an element of a row that is read; an element appended -/
section
variable {P : Program} {ops : Array Oper} {rest : List Oper} {o : Oper} {a : Act} {Q : Exit → Act → World → Prop} {α : Type}
end
section
variable {P : Program} {ops : Array Oper} {o : Oper} {a : Act} {Q : Exit → Act → World → Prop} {Kc : Act → World → Prop} {α : Type}
end
end Kd
/-! ### 24. Kinds nested in themselves -/
namespace Kd
/-- F says the more, the more its argument says. -/
structure Mono {α β : Type} (F : Kd α → Kd β) : Prop where
  sz : ∀ d d' : Kd α, d.sz = d'.sz → (F d).sz = (F d').sz
  K : ∀ d d' : Kd α, d.sz = d'.sz → (∀ w x cs, d.K w x cs → d'.K w x cs) → ∀ w x cs, (F d).K w x cs → (F d').K w x cs
  M : ∀ d d' : Kd α, d.sz = d'.sz → (∀ w base ok x cs, d.M w base ok x cs → d'.M w base ok x cs) → ∀ w base ok x cs, (F d).M w base ok x cs → (F d').M w base ok x cs
section
variable {α : Type} {F : Kd α → Kd α} {sz : Nat} {E : List Nat} {hs : ∀ n, (upto F sz E n).sz = sz} {hE : ∀ n q, q ∈ (upto F sz E n).E → q ∈ E}
end
end Kd
/-! ### 25. What is held while another row is written: 'ok' says that its rows are none of that row's block -/
namespace Kd
end Kd
/-! ### 26. Words for a printer that takes every slice by its kind -/
namespace Kd
section
variable {α β : Type} {d : Kd α} {d' : Kd β} {e e' : Nat} {w w1 W : World} {base b b' : Nat} {ok ok' okv oku : Nat → Prop} {v u : Value} {xs : List α} {ys : List β}
end
/-! #### scalars -/
section
variable {w W : World} {A : Option Addr} {n : Nat}
variable {α : Type} {enc : α → Value} {h1 : ∀ x, (enc x).oneCell' = true} {e base g cap : Nat} {ok : Nat → Prop} {xs : List α}
end

/-! #### events: a letter for what make and a literal leave -/
section
variable {P : Program} {ops : Array Oper} {rest : List Oper} {o : Oper} {a : Act} {Q : Exit → Act → World → Prop}
variable {α : Type}
end
end Kd
/-! ### 27. Cuts of a row of one's own: 'xs = xs[:n]' stays a row (R_take); 'xs = xs[k:]' is a row that begins inside its block (Kd.Q), append goes on it too -/
theorem own_take {w : World} {base n m c size : Nat} {e : TypeId} {A : Option Addr} {xs : List Value} (h : w.ownsRow base e size (.slice A n c) n xs) (hm : m ≤ n) : w.ownsRow base e size (.slice A m c) m (xs.take (m * size)) := by
  obtain ⟨h1, h2⟩ := h
  refine ⟨by rw [List.length_take, h1]; exact Nat.min_eq_left (Nat.mul_le_mul_right _ hm), ?_⟩
  rcases h2 with ⟨he, h0⟩ | ⟨g, cap, cur, he, hb, hh, hnc, hcm, hcs, ht⟩
  · injection he with ha _ hc
    subst ha; subst hc
    exact .inl ⟨by rw [show m = 0 by omega], by omega⟩
  · injection he with ha _ hc
    subst ha; subst hc
    refine .inr ⟨g, c, cur, rfl, hb, hh, by omega, hcm, hcs, ?_⟩
    rw [← ht, List.take_take, Nat.min_eq_left (Nat.mul_le_mul_right _ hm)]
section
variable {P : Program}
end
/-- A row of one's own that may begin inside its block. -/
def QRow (w : World) (base : Nat) (e : TypeId) (size : Nat) (v : Value) (n : Nat) (xs : List Value) : Prop :=
  xs.length = n * size ∧
  ((n = 0 ∧ ∃ A, v = .slice A 0 0 ∧ ∀ a, A = some a → base ≤ a.block ∧ ∃ cur, w.heap[a.block]? = some (.cells cur e (0, 0))) ∨
   ∃ g off cap cur, v = .slice (some ⟨g, off * size, none⟩) n cap ∧ base ≤ g ∧ w.heap[g]? = some (.cells cur e (0, 0)) ∧ n ≤ cap ∧ off + cap ≤ maxLen ∧ cur.size = (off + cap) * size ∧ (cur.toList.drop (off * size)).take (n * size) = xs)
section
variable {w w1 : World} {base n size : Nat} {e : TypeId} {v : Value} {xs : List Value}
theorem q_move (h : QRow w base e size v n xs) (hm : ∀ k, v.ownBlock = some k → w1.heap[k]? = w.heap[k]?) : QRow w1 base e size v n xs := by
  obtain ⟨h1, h2⟩ := h
  refine ⟨h1, ?_⟩
  rcases h2 with ⟨h0, A, rfl, hA⟩ | ⟨g, off, cap, cur, rfl, hg, hh, r⟩
  · refine .inl ⟨h0, A, rfl, fun a ha => ?_⟩
    obtain ⟨hb, cur, hc⟩ := hA a ha
    subst ha
    exact ⟨hb, cur, (hm a.block (by simp [Value.ownBlock])).trans hc⟩
  · exact .inr ⟨g, off, cap, cur, rfl, hg, (hm g (by simp [Value.ownBlock])).trans hh, r⟩
theorem q_typed (h : QRow w base e size v n xs) (k : Nat) (hk : v.ownBlock = some k) : base ≤ k ∧ ∃ cells, w.heap[k]? = some (.cells cells e (0, 0)) := by
  rcases h.2 with ⟨_, A, rfl, hA⟩ | ⟨g, off, cap, cur, rfl, hg, hh, r⟩
  · cases A with
    | none => simp [Value.ownBlock] at hk
    | some a =>
      have : a.block = k := by simpa [Value.ownBlock] using hk
      subst this
      exact hA a rfl
  · have : g = k := by simpa [Value.ownBlock] using hk
    subst this
    exact ⟨hg, cur, hh⟩
theorem q_slice (h : QRow w base e size v n xs) : ∃ A c, v = .slice A n c ∧ n ≤ c := by
  rcases h.2 with ⟨h0, A, rfl, _⟩ | ⟨g, off, cap, cur, rfl, hg, hh, hnc, r⟩
  · exact ⟨A, 0, by rw [h0], by omega⟩
  · exact ⟨_, cap, rfl, hnc⟩
theorem q_max (h : QRow w base e size v n xs) : n ≤ 9223372036854775807 := by
  rcases h.2 with ⟨h0, _⟩ | ⟨g, off, cap, cur, rfl, hg, hh, hnc, hm, r⟩
  · omega
  · simp only [maxLen] at hm
    omega
theorem add_at (g o j : Nat) : (⟨g, o, none⟩ : Addr).add j = ⟨g, o + j, none⟩ := by unfold Addr.add; split <;> simp_all
theorem q_cells {A : Option Addr} {c : Nat} (h : QRow w base e size (.slice A n c) n xs) (hn : 0 < n) : ∃ ad, A = some ad ∧ ∀ j u, xs[j]? = some u → w.cell? (ad.add j) = some u := by
  rcases h.2 with ⟨h0, _⟩ | ⟨g, off, cap, cur, he, hg, hh, hnc, hm, hcs, ht⟩
  · omega
  · injection he with ha _ hc
    subst ha
    refine ⟨_, rfl, fun j u hu => ?_⟩
    rw [add_at, cell_of_row w g _ cur e (0, 0) hh]
    rw [← ht, List.getElem?_take] at hu
    split at hu
    · rw [List.getElem?_drop] at hu
      rw [← Array.getElem?_toList]
      exact hu
    · cases hu
/-- What a run of cells written leaves. -/
theorem setCells_far {g : Nat} : ∀ (vs : List Value) (o : Nat) {w : World} (k : Nat), k ≠ g → (w.setCells g o vs).heap[k]? = w.heap[k]?
  | [], _, _, _, _ => rfl
  | v :: r, o, w, k, hk => by
    rw [World.setCells, setCells_far r (o + 1) k hk]
    exact Below.heap_setCell w ⟨g, o, none⟩ v k hk
theorem setCells_same (g : Nat) : ∀ (vs : List Value) (o : Nat) (w : World), (w.setCells g o vs).os = w.os ∧ (w.setCells g o vs).tape = w.tape ∧ (w.setCells g o vs).output = w.output ∧ (w.setCells g o vs).heap.size = w.heap.size
  | [], _, _ => ⟨rfl, rfl, rfl, rfl⟩
  | v :: r, o, w => by
    obtain ⟨h1, h2, h3, h4⟩ := setCells_same g r (o + 1) (w.setCell ⟨g, o, none⟩ v)
    rw [World.setCells]
    exact ⟨h1, h2, h3, by rw [h4]; simp [World.setCell]⟩
theorem setCells_row {g : Nat} {e : TypeId} : ∀ (vs : List Value) (o : Nat) (w : World) (cur : Array Value), w.heap[g]? = some (.cells cur e (0, 0)) → o + vs.length ≤ cur.size →
    ∃ cur', (w.setCells g o vs).heap[g]? = some (.cells cur' e (0, 0)) ∧ cur'.size = cur.size ∧ cur'.toList = cur.toList.take o ++ vs ++ cur.toList.drop (o + vs.length)
  | [], o, w, cur, h, _ => ⟨cur, h, rfl, by simp⟩
  | v :: r, o, w, cur, h, hl => by
    have h2 := blk_set h o v
    simp only [List.length_cons] at hl
    obtain ⟨cur', h3, h4, h5⟩ := setCells_row r (o + 1) (w.setCell ⟨g, o, none⟩ v) _ h2 (by simp; omega)
    refine ⟨cur', h3, by rw [h4]; simp, ?_⟩
    rw [h5, Array.toList_setIfInBounds]
    have ho : o < cur.toList.length := by rw [Array.length_toList]; omega
    rw [List.take_set, List.drop_set_of_lt (by omega)]
    simp only [List.length_cons]
    rw [show o + 1 + r.length = o + (r.length + 1) by omega]
    congr 1
    rw [List.take_succ_eq_append_getElem ho, List.set_append_right _ _ (by rw [List.length_take]; omega)]
    have ho' : o < cur.size := by omega
    simp [Nat.min_eq_left (Nat.le_of_lt ho')]
end
section
variable {P : Program}
end
/-! ### 28. The kinds' words for cuts: R_take; Q (a row that may begin inside its block) with all of R's movers -/
namespace Kd
theorem reps_take {α : Type} {R : α → List Value → Prop} {size m : Nat} {ps : List α} {cs : List Value} (h : Reps R size ps cs) (hm : m ≤ ps.length) : Reps R size (ps.take m) (cs.take (m * size)) := by
  refine ⟨by rw [List.length_take, List.length_take, h.1, Nat.min_eq_left hm, Nat.min_eq_left (Nat.mul_le_mul_right _ hm)], fun j p hj => ?_⟩
  rw [List.getElem?_take] at hj
  split at hj
  · rename_i hjm
    have := h.2 j p hj
    have hle : j * size + size ≤ m * size := by rw [← Nat.succ_mul]; exact Nat.mul_le_mul_right _ hjm
    rw [List.drop_take, List.take_take, Nat.min_eq_left (by omega)]
    exact this
  · cases hj
theorem R_take {α : Type} {d : Kd α} {e m n c : Nat} {w : World} {base : Nat} {ok : Nat → Prop} {A : Option Addr} {xs : List α} (h : d.R e w base ok (.slice A n c) xs) (hm : m ≤ xs.length) : d.R e w base ok (.slice A m c) (xs.take m) := by
  obtain ⟨h0, inner, ho, hr⟩ := h
  have hn : n = xs.length := by
    obtain ⟨A', c', he⟩ := own_slice ho
    injection he
  subst hn
  have hb : ∀ x y : Nat, (Value.slice A x c).ownBlock = (Value.slice A y c).ownBlock := by
    intro x y
    cases A <;> rfl
  refine ⟨fun k hk => h0 k (by rw [hb _ m]; exact hk), inner.take (m * d.sz), ?_, ?_⟩
  · rw [List.length_take, Nat.min_eq_left hm]
    exact own_take ho hm
  · rw [hb m xs.length]
    exact reps_take hr hm
def Q {α : Type} (d : Kd α) (e : Nat) (w : World) (base : Nat) (ok : Nat → Prop) (v : Value) (xs : List α) : Prop :=
  (∀ k, v.ownBlock = some k → ok k) ∧ ∃ inner, QRow w base e d.sz v xs.length inner ∧ Reps (d.M w base (fun k => ok k ∧ some k ≠ v.ownBlock)) d.sz xs inner
section
variable {α : Type} {d : Kd α} {e : Nat} {w w1 W : World} {base : Nat} {ok ok' : Nat → Prop} {v : Value} {xs : List α}
theorem Q_reads' {A : Option Addr} {n c : Nat} (h : d.Q e w base ok (.slice A n c) xs) : n = xs.length ∧ n ≤ c ∧ d.C w A xs.length xs := by
  obtain ⟨_, inner, ho, hr⟩ := h
  obtain ⟨A', c', he, hl⟩ := q_slice ho
  injection he with h1 h2 h3
  subst h1; subst h2; subst h3
  refine ⟨rfl, hl, rfl, q_max ho, fun hp => ?_⟩
  obtain ⟨ad, ha, hc⟩ := q_cells ho hp
  refine ⟨ad, ha, fun j p hj => ⟨(inner.drop (j * d.sz)).take d.sz, ?_, d.K_of_M (hr.2 j p hj), fun i u hu => ?_⟩⟩
  · have hjl := (List.getElem?_eq_some_iff.1 hj).1
    have h1 : j * d.sz + d.sz ≤ inner.length := by rw [hr.1, ← Nat.succ_mul]; exact Nat.mul_le_mul_right _ hjl
    rw [List.length_take, List.length_drop]
    omega
  · refine hc _ u ?_
    rw [List.getElem?_take] at hu
    split at hu
    · rw [List.getElem?_drop] at hu
      exact hu
    · cases hu
end
section
variable {P : Program} {ops : Array Oper} {rest : List Oper} {o : Oper} {a : Act} {Q' : Exit → Act → World → Prop} {Kc : Act → World → Prop} {α : Type}
end
end Kd
/-! ### 29. Movers that ask of another row no more than they need: for R and for Q -/
namespace Kd
section
variable {α : Type} {d : Kd α} {e e' : Nat} {w w1 W : World} {base : Nat} {ok : Nat → Prop} {u v : Value} {xs : List α}
end
end Kd
/-! ### 30. Elements written: x[i] = T{..}, x[i].f = v, swaps, in a row of elements of any kind -/
theorem seg_get {α : Type} (a seg : List α) (o : Nat) (h : o + seg.length ≤ a.length) (q : Nat) :
    (a.take o ++ seg ++ a.drop (o + seg.length))[q]? = if q < o then a[q]? else if q < o + seg.length then seg[q - o]? else a[q]? := by
  have hl : (a.take o).length = o := by rw [List.length_take]; omega
  rw [List.append_assoc]
  by_cases h1 : q < o
  · rw [if_pos h1, List.getElem?_append_left (by omega), List.getElem?_take, if_pos h1]
  · rw [if_neg h1, List.getElem?_append_right (by omega), hl]
    by_cases h2 : q < o + seg.length
    · rw [if_pos h2, List.getElem?_append_left (by omega)]
    · rw [if_neg h2, List.getElem?_append_right (by omega), List.getElem?_drop]
      congr 1
      omega
namespace Kd
section
variable {α : Type} {d : Kd α} {e base g n cap : Nat} {ok okp : Nat → Prop} {W : World} {xs : List α}
end
end Kd
/-! ### 31. What came in, put into what is made: 'fixed d w0' (read in w0, whatever happens since), 'or_ a b', 'mix' (a slice that came in, or one that is made) -/
namespace Kd
section
variable {α : Type} {F : Kd α → Kd α} {sz : Nat} {E : List Nat} {hs : ∀ n, (upto F sz E n).sz = sz} {hE : ∀ n q, q ∈ (upto F sz E n).E → q ∈ E}
end
end Kd
/-! ### 32. A whole row appended, of elements of any kind; copy onto a row of scalars of one's own -/
namespace Kd
section
variable {P : Program} {ops : Array Oper} {rest : List Oper} {o : Oper} {a : Act} {Q : Exit → Act → World → Prop} {α : Type}
end
end Kd
/-! ### 33. A store into a row of one's own, as_ an event: no go_simp -/
namespace Kd
section
variable {P : Program} {ops : Array Oper} {rest : List Oper} {o : Oper} {a : Act} {Q : Exit → Act → World → Prop} {α : Type}
end
end Kd
/-! ### 34. Cuts that are only read, of any row -/
namespace Kd
section
variable {α : Type} {k : Kd α} {w : World} {A : Option Addr} {xs : List α} {m c : Nat}
end
end Kd
section
variable {P : Program}
end
/-! ### 35. string(b), b read (a cut too) -/
/-! ### 6. What the printer adds -/
theorem ReadsInt.nil (W : World) (k : IntKind) : ReadsInt W k none ([] : List Int).length [] := ⟨rfl, by simp, fun h => absurd h (Nat.lt_irrefl 0)⟩
theorem ReadsInt.drewN {W : World} {k : IntKind} {A : Option Addr} {n : Nat} {xs : List Int} (h : ReadsInt W k A n xs) (m : Nat) : ReadsInt (W.drewN m) k A n xs := h
theorem keep_cell {w W : World} {g : Nat} (h : KeepBut w W g none) {a : Addr} {v : Value} (hc : w.cell? a = some v) (hne : a.block ≠ g) : W.cell? a = some v := by
  have := h.2 a.block (World.block_lt_of_cell? w a hc) hne (by simp)
  simpa [World.cell?, this] using hc
theorem add_block (a : Addr) (i : Nat) : (a.add i).block = a.block := by unfold Addr.add; split <;> rfl
theorem ReadsOf.nil {α : Type} (enc : α → Value) (d : α) (W : World) : ReadsOf enc d W none ([] : List α).length [] := ⟨rfl, by simp, fun h => absurd h (Nat.lt_irrefl 0)⟩
theorem ReadsOf.drewN {α : Type} {enc : α → Value} {d : α} {W : World} {A : Option Addr} {n : Nat} {xs : List α} (h : ReadsOf enc d W A n xs) (m : Nat) : ReadsOf enc d (W.drewN m) A n xs := h
theorem ReadsInt.keep {w W : World} {k : IntKind} {A : Option Addr} {n g : Nat} {xs : List Int} (h : ReadsInt w k A n xs) (hk : KeepBut w W g none) (hf : ∀ ad, A = some ad → 0 < n → ad.block ≠ g) : ReadsInt W k A n xs :=
  ⟨h.1, h.2.1, fun hn => by
    obtain ⟨ad, e, hc⟩ := h.2.2 hn
    exact ⟨ad, e, fun j hj => keep_cell hk (hc j hj) (by rw [add_block]; exact hf ad e hn)⟩⟩
theorem ReadsOf.keep {α : Type} {enc : α → Value} {d : α} {w W : World} {A : Option Addr} {n g : Nat} {xs : List α} (h : ReadsOf enc d w A n xs) (hk : KeepBut w W g none) (hf : ∀ ad, A = some ad → 0 < n → ad.block ≠ g) : ReadsOf enc d W A n xs :=
  ⟨h.1, h.2.1, fun hn => by
    obtain ⟨ad, e, hc⟩ := h.2.2 hn
    exact ⟨ad, e, fun j hj => keep_cell hk (hc j hj) (by rw [add_block]; exact hf ad e hn)⟩⟩
namespace Kd
section
variable {α β : Type} {d : Kd α} {d' : Kd β} {e e' base base' n : Nat} {ok ok' : Nat → Prop} {w W w1 W1 : World} {v u : Value} {xs : List α} {ys : List β} {A : Option Addr} {c : Nat}
end
section
variable {α : Type} {enc : α → Value} {h1 : ∀ x, (enc x).oneCell' = true} {w W : World} {A : Option Addr} {n g : Nat} {xs : List α}
end
end Kd
namespace Kd
section
variable {α : Type} {d : Kd α} {e base g : Nat} {ok : Nat → Prop} {w w1 : World} {v : Value} {xs : List α} {o : Obj}
end
end Kd
section
variable {P : Program} {ops : Array Oper} {rest : List Oper} {o : Oper} {a : Act} {Q : Exit → Act → World → Prop}
end
namespace Kd
section
variable {α : Type} {enc : α → Value} {h1 : ∀ x, (enc x).oneCell' = true} {e base g n cap : Nat} {ok : Nat → Prop} {W : World} {xs : List α}
end
end Kd
section
variable {P : Program} {ops : Array Oper} {rest : List Oper} {o : Oper} {a : Act} {Q : Exit → Act → World → Prop}
end
namespace Kd
section
variable {α : Type} {enc : α → Value} {h1 : ∀ x, (enc x).oneCell' = true} {e base g n cap : Nat} {ok : Nat → Prop} {W : World} {xs : List α}
end
end Kd
section
variable {P : Program} {ops : Array Oper} {rest : List Oper} {o : Oper} {a : Act} {Q : Exit → Act → World → Prop} {W : World}
end
/-! ### 36. Events as_ one step of a region that draws (for one_, two_, three_) -/
section
variable {P : Program} {ops : Array Oper} {o : Oper} {a : Act} {Q : Exit → Act → World → Prop} {Kc : Act → World → Prop}
namespace Kd
variable {α : Type}
end Kd
end
/-! ### 37. Results of any shape -/
inductive Vals (P : Program) (tmps : Array Value) (w : World) : List ResultVar → List Value → Prop where
  | nil : Vals P tmps w [] []
  | tmp {u : Tmp} {rs : List ResultVar} {vs : List Value} (h : Vals P tmps w rs vs) : Vals P tmps w (.tmp u :: rs) (tmps.getD u undef :: vs)
  | cell {p : Tmp} {ty : TypeId} {rs : List ResultVar} {vs : List Value} (g : Nat) (t : TypeId) (cs : Array Value) (fr : Nat × Nat) (d : TypeDesc)
      (hp : tmps.getD p undef = .pointer (some ⟨g, 0, none⟩)) (hg : w.heap[g]? = some (.cells cs t fr))
      (hu : P.underlying ty = some d) (hd : (match d with | .struct _ | .array _ _ => true | _ => false) = true) (hi : (P.info? ty).map (·.size) = some cs.size)
      (h : Vals P tmps w rs vs) : Vals P tmps w (.cell p ty :: rs) (.agg cs :: vs)
section
variable {P : Program} {tmps : Array Value} {w : World}
end
/-! ### 38. 'out = append(out[:k], out[k+1:]...)': an element taken out of a row of one's own, in place -/
namespace Kd
section
variable {P : Program} {α : Type}
end
section
variable {P : Program} {ops : Array Oper} {rest : List Oper} {o : Oper} {a : Act} {Q : Exit → Act → World → Prop} {Kc : Act → World → Prop} {α : Type}
end
end Kd

end Go.Proofs.YtofdnnjkfpomcaaW.PrintWords

/- Arguments as they are read, by the print's words, are what the evaluator calls ground. -/
namespace Go.Proofs.Ytofdnnjkfpomcaa.E
open Go Go.Proofs.YtofdnnjkfpomcaaW.PrintWords
set_option linter.unusedVariables false

theorem cell_none {w : World} {x : Addr} {u : Value} (h : w.cell? x = some u) : x = at_ x.block x.off ∧ x.block < w.heap.size := by
 obtain ⟨b, o, v⟩ := x
 cases v with
 | some v =>
  exfalso
  simp [World.cell?] at h
  split at h <;> cases h
 | none =>
  refine ⟨rfl, ?_⟩
  rcases Nat.lt_or_ge b w.heap.size with h1 | h1
  ·exact h1
  ·simp [World.cell?, Array.getElem?_eq_none h1] at h
theorem rows_rep {α : Type} {d : Kd α} {g : α → List G} {w : World} (h0 : 0 < d.sz) (hK : ∀ x cs, d.K w x cs → (g x).length = cs.length ∧ ∀ (i : Nat) (y : G), (g x)[i]? = some y → ∃ u, cs[i]? = some u ∧ GRep (fun k => k < w.heap.size) w y u)
  {Ad : Option Addr} {xs : List α} {c : Nat} (h : d.C w Ad xs.length xs) (hc : xs.length ≤ c) : GRep (fun k => k < w.heap.size) w (.rows d.sz (xs.map g)) (.slice Ad xs.length c) := by
 obtain ⟨-, -, h⟩ := h
 have key : ∀ (i : Nat) (r : List G), (xs.map g)[i]? = some r → ∃ x cs, xs[i]? = some x ∧ g x = r ∧ cs.length = d.sz ∧ d.K w x cs ∧ ∃ a off, Ad = some (at_ a off) ∧ a < w.heap.size ∧ ∀ (j : Nat) (u : Value), cs[j]? = some u → w.cell? (at_ a (off + (i * d.sz + j))) = some u := by
  intro i r hi
  rw [List.getElem?_map] at hi
  obtain ⟨x, hx, rfl⟩ := Option.map_eq_some_iff.1 hi
  have hpos : 0 < xs.length := Nat.lt_of_le_of_lt (Nat.zero_le _) (List.getElem?_eq_some_iff.1 hx).1
  obtain ⟨ad, e, hcell⟩ := h hpos
  obtain ⟨cs, hl, hk, hcs⟩ := hcell i x hx
  obtain ⟨y, hy⟩ : ∃ y, xs[0]? = some y := ⟨xs[0]'hpos, List.getElem?_eq_getElem _⟩
  obtain ⟨cs0, hl0, -, hcs0⟩ := hcell 0 y hy
  obtain ⟨u, hu⟩ : ∃ u, cs0[0]? = some u := ⟨cs0[0]'(by omega), List.getElem?_eq_getElem _⟩
  have h2 := hcs0 0 u hu
  rw [Nat.zero_mul, Nat.add_zero] at h2
  have h3 : ad.add 0 = ad := by simp [Addr.add]
  rw [h3] at h2
  obtain ⟨q1, q2⟩ := cell_none h2
  refine ⟨x, cs, hx, rfl, hl, hk, ad.block, ad.off, by rw [e]; exact congrArg some q1, q2, fun j u hj => ?_⟩
  have := hcs j u hj
  rw [q1, at_add] at this
  exact this
 have := GRep.rows (F := fun k => k < w.heap.size) (w := w) (es := d.sz) (l := xs.map g) (A := Ad) (c := c)
  (fun i j => match Ad with | some ad => (w.cell? (at_ ad.block (ad.off + (i * d.sz + j)))).getD undef | none => undef) (by simpa using hc) ⟨fun i r hi => ?_, fun i r j x hi hj => ?_, fun hne => ?_⟩ (fun i r j x hi hj => ?_)
 ·simpa using this
 ·obtain ⟨x, cs, hx, rfl, hl, hk, _⟩ := key i r hi
  rw [(hK x cs hk).1, hl]
 ·obtain ⟨y, cs, hx, rfl, hl, hk, a, off, e, ha, hcs⟩ := key i r hi
  obtain ⟨u, hu, hr⟩ := (hK y cs hk).2 j x hj
  have := hcs j u hu
  subst e
  refine ⟨a, off, rfl, ha, ?_⟩
  simp [at_] at this ⊢
  rw [this]
  rfl
 ·cases xs with
  | nil => simp at hne
  | cons x xs =>
   obtain ⟨_, _, _, _, _, _, a, off, e, ha, _⟩ := key 0 (g x) rfl
   exact ⟨a, off, e, ha⟩
 ·obtain ⟨y, cs, hx, rfl, hl, hk, a, off, e, ha, hcs⟩ := key i r hi
  obtain ⟨u, hu, hr⟩ := (hK y cs hk).2 j x hj
  have := hcs j u hu
  subst e
  simp [at_] at this ⊢
  rw [this]
  exact hr
theorem nums_rep {k : IntKind} {w : World} {Ad : Option Addr} {xs : List Int} {c : Nat} (h : (Kd.int k).C w Ad xs.length xs) (hc : xs.length ≤ c) : GRep (fun k => k < w.heap.size) w (.rows 1 (nrow k xs)) (.slice Ad xs.length c) :=
 rows_rep (d := Kd.int k) (g := fun x => [.int k (.sym x)]) (Nat.zero_lt_one) (fun x cs hk => by
  have hk : cs = [.int k x] := hk
  subst hk
  refine ⟨rfl, fun i y hi => ?_⟩
  cases i with
  | zero => simp at hi; subst hi; exact ⟨_, rfl, .int k (.sym x)⟩
  | succ i => simp at hi) h hc
end Go.Proofs.Ytofdnnjkfpomcaa.E

/- More rules for contracts: nil as frozen rows, letters told, nil fields as rows of their own. -/
namespace Go.Proofs.Ytofdnnjkfpomcaa.E
open Go
set_option linter.unusedVariables false
set_option linter.unusedSectionVars false

theorem C_sy_free (x : C) : x.sy.free = x.free := by
 cases x with
 | g x => cases x <;> rfl
 | _ => rfl
theorem V1_sy_free (x : V1) : x.sy.free = x.free := by
 cases x with
 | c x => exact C_sy_free x
 | agg l => simp [V1.sy, V1.free, List.all_map, Function.comp_def, C_sy_free]
theorem A_sy_free (x : A) : x.sy.free = x.free := by
 cases x with
 | one v => exact V1_sy_free v
 | tup l => simp [A.sy, A.free, List.all_map, Function.comp_def, V1_sy_free]
section
variable {P : Program} {I : Ints} {p : Nat}
theorem A_sy {E : Env} {m : Mem} {w : World} {x : A} {u : Value} (h : ARep E m w x u) : ARep E m w x.sy u := by
 cases x with
 | one v => exact V1_sy h
 | tup l =>
  obtain ⟨cs, h1, h2, h3⟩ := h
  refine ⟨cs, h1, by simp [h2], fun i x hi => ?_⟩
  rw [List.getElem?_map] at hi
  obtain ⟨y, hy, rfl⟩ := Option.map_eq_some_iff.1 hi
  obtain ⟨u, h4, h5⟩ := h3 i y hy
  exact ⟨u, h4, V1_sy h5⟩
theorem C_unsy {E : Env} {m : Mem} {w : World} {x : C} {u : Value} (h : CRep E m w x.sy u) : CRep E m w x u := by
 cases x with
 | g x =>
  cases x with
  | bool b => generalize u = v at h; cases h; exact .bool b
  | int k z => generalize u = v at h; cases h; exact .int k z
  | _ => exact h
 | _ => exact h
theorem C_sy_any {x : C} (h : x.sy = .any) : x = .any := by
 cases x with
 | g x => cases x <;> cases h
 | _ => first | rfl | cases h
theorem V1_unsy {E : Env} {m : Mem} {w : World} {x : V1} {u : Value} (h : V1Rep E m w x.sy u) : V1Rep E m w x u := by
 cases x with
 | c x => exact h.imp C_sy_any C_unsy
 | agg l =>
  obtain ⟨cs, h1, h2, h3⟩ := h
  refine ⟨cs, h1, by simpa using h2, fun i x hi => ?_⟩
  obtain ⟨u, q1, q2⟩ := h3 i x.sy (by rw [List.getElem?_map, hi]; rfl)
  exact ⟨u, q1, C_unsy q2⟩
theorem A_unsy {E : Env} {m : Mem} {w : World} {x : A} {u : Value} (h : ARep E m w x.sy u) : ARep E m w x u := by
 cases x with
 | one v => exact V1_unsy h
 | tup l =>
  obtain ⟨cs, h1, h2, h3⟩ := h
  refine ⟨cs, h1, by simpa using h2, fun i x hi => ?_⟩
  obtain ⟨u, q1, q2⟩ := h3 i x.sy (by rw [List.getElem?_map, hi]; rfl)
  exact ⟨u, q1, V1_unsy q2⟩
/-- Letters told may be taken for what they are. -/
theorem LValid.known {f : FuncId} {args : List V1} {m : Mem} {R R' : A → Mem → Prop} (h : LValid P f args m R) (hR : ∀ v m1, R v m1 → ∃ v', v'.sy = v.sy ∧ R' v' m1) : LValid P f args m R' := fun E w vs hs hsz hr =>
 (h E w vs hs hsz hr).mono fun e w' ⟨u, v, m', E', a1, a2, a3, a4, a5⟩ => by
  obtain ⟨v', e, g⟩ := hR _ _ a2
  refine ⟨u, v', m', E', a1, g, A_unsy (by rw [e]; exact A_sy a3), by rw [← A_sy_free, e, A_sy_free]; exact a4, a5⟩
/-- What is told may be taken for letters. -/
theorem LValid.syv {f : FuncId} {args : List V1} {m : Mem} {R R' : A → Mem → Prop} (h : LValid P f args m R) (hR : ∀ v m1, R v m1 → R' v.sy m1) : LValid P f args m R' := fun E w vs hs hsz hr =>
 (h E w vs hs hsz hr).mono fun e w' ⟨u, v, m', E', a1, a2, a3, a4, a5⟩ => ⟨u, v.sy, m', E', a1, hR _ _ a2, A_sy a3, by rw [A_sy_free]; exact a4, a5⟩
/-- What is told, and the memory behind it, may be taken for letters. -/
theorem LValid.syvm {f : FuncId} {args : List V1} {m : Mem} {R R' : A → Mem → Prop} (h : LValid P f args m R) (hR : ∀ v m1, R v m1 → R' v.sy (m1.map Blk.sy)) : LValid P f args m R' := fun E w vs hs hsz hr =>
 (h E w vs hs hsz hr).mono fun e w' ⟨u, v, m', E', a1, a2, a3, a4, a5, a6, a7⟩ => by
  have hN : Now 0 E m w E' m' w' [] { tmps := #[], defers := [] } := ⟨⟨a6, ⟨rfl, fun t x h => by simp at h⟩, .nil rfl⟩, a7, Nat.zero_le _, fun _ _ => Nat.zero_le _⟩
  have hN' := hN.sy
  refine ⟨u, v.sy, _, E', a1, hR _ _ a2, a3.sy, by rw [A_sy_free]; exact a4, fun id blk hb => ?_, hN'.sat, hN'.grow⟩
  obtain ⟨b0, h1, rfl⟩ := sy_get hb
  have := a5 id b0 h1
  cases b0 with
  | lit es rows => simpa [Blk.sy, Blk.free, List.all_map, Function.comp_def, C_sy_free] using this
  | _ => rfl
/-- A contract whose memory has a nil field: that field is a row of its own. -/
theorem LValid.ownField {f : FuncId} {args : List V1} {m : Mem} {R R' : A → Mem → Prop} (es' b i j : Nat) (h : LValid P f args m R)
  (hR : ∀ v m1, R v m1 → ∃ es rows row, m1[b]? = some (.lit es rows) ∧ rows[i]? = some row ∧ row[j]? = some (.g .nil) ∧ R' v ((m1.set b (.lit es (rows.set i (row.set j (.row m1.length es' none))))) ++ [.sym es' []])) : LValid P f args m R' := fun E w vs hs hsz hr =>
 (h E w vs hs hsz hr).mono fun e w' ⟨u, v, m', E', a1, a2, a3, a4, a5, a6, a7⟩ => by
  obtain ⟨es, rows, row, h1, h2, h3, h4⟩ := hR v m' a2
  obtain ⟨E2, g, s⟩ := nil_field (Wt := fun _ => True) a6 h1 trivial h2 h3 es'
  refine ⟨u, v, _, E2, a1, h4, a3.step g.toStep, a4, fun id blk hb => ?_, s, a7.trans g (fun _ _ h => h)⟩
  rcases get_append hb with ⟨_, hb⟩ | ⟨_, rfl⟩
  ·rcases get_set hb with ⟨_, rfl, _⟩ | ⟨_, hb⟩
   ·have hf := a5 b _ h1
    simp only [Blk.free, List.all_eq_true] at hf ⊢
    intro r hr x hx
    rcases List.mem_or_eq_of_mem_set hr with hr | rfl
    ·exact hf r hr x hx
    ·rcases List.mem_or_eq_of_mem_set hx with hx | rfl
     ·exact hf row (List.mem_of_getElem? h2) x hx
     ·rfl
   ·exact a5 id blk hb
  ·rfl
/-- What is told may be named anew: frozen, forgotten, turned. -/
theorem LValid.post {f : FuncId} {args : List V1} {m : Mem} {R R' : A → Mem → Prop} (hI : I = ints) (h : LValid P f args m R)
  (hR : ∀ v m1, R v m1 → ∃ σ fz : List Nat, σ.Nodup ∧ σ.take m.length = List.range m.length ∧ (v.inv I σ (.frz fz) m1).free = true ∧ (∀ (id : Nat) (blk : Blk), (invMem I σ (.frz fz) m1)[id]? = some blk → blk.free = true) ∧ R' (v.inv I σ (.frz fz) m1) (invMem I σ (.frz fz) m1)) : LValid P f args m R' := fun E w vs hs hsz hr =>
 (h E w vs hs hsz hr).mono fun e w' ⟨u, v, m', E', a1, a2, a3, a4, a5, a6, a7⟩ => by
  obtain ⟨σ, fz, h1, h2, h3, h4, h5⟩ := hR v m' a2
  have hN : Now 0 E m w E' m' w' [] { tmps := #[], defers := [] } := ⟨⟨a6, ⟨rfl, fun t x h => by simp at h⟩, .nil rfl⟩, a7, Nat.zero_le _, fun _ _ => Nat.zero_le _⟩
  obtain ⟨E2, hN2, hv⟩ := hN.tidy (keep := []) (fz := fz) hI h1 h2
  exact ⟨u, _, _, E2, a1, h5, hv _ _ a3, h3, h4, hN2.sat, hN2.grow⟩
end
end Go.Proofs.Ytofdnnjkfpomcaa.E
