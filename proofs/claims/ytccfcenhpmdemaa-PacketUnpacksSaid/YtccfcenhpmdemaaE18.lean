/- Rounds of a range over a function: what the evaluator shows of a body holds in a round; what worlds with the same cells keep. -/
import Derived.Test.YtccfcenhpmdemaaE14
import Derived.RangeFuncCalls
import Derived.RangeFuncWrites
import Derived.OrdersIn
namespace Go.Proofs.Ytccfcenhpmdemaa.E
open Go
set_option linter.unusedVariables false
set_option linter.unusedSectionVars false

section
variable {P : Program} {I : Ints} {p : Nat} {E E0 : Env} {m m0 : Mem} {w w0 w' : World} {ts : List A} {a : Act}
def bodyOps : Code → Array Oper
  | .block _ (.region _ ops _) => ops
  | _ => #[]
def noDefer (ops : Array Oper) : Bool := ops.all fun o => match o.op with
  | .defer _ => false
  | _ => true
theorem rowsIn_round {l n : Nat} {row : String} {args : Array Value} {R : Value → World → Prop} (h : Rows P row args w R) : RowsIn (Fence.wide.inRound l) n P row args w R := fun c cs _ =>
  let ⟨v, w', r, s⟩ := h c cs
  ⟨v, w', r, stepsIn_wide.2 s⟩
theorem uponIn_round {l n : Nat} {o : Oper} {next : Act → World → Prop} {Q : Exit → Act → World → Prop} {r : Result Next} (h : o.upon P a next Q r) : o.uponIn (Fence.wide.inRound l) n P a next Q r := by
  cases r with
  | ok v w =>
    cases v with
    | enter f args => exact ⟨fun h => (by cases h), (callsIn_wide.2 h).inRound l⟩
    | row row args => exact ⟨fun h => (by cases h), rowsIn_round h⟩
    | round l f tmps assign body => exact h.elim
    | value v => exact h
    | skip => exact h
    | defer d => exact h
    | _ => exact h.elim
  | halt x w =>
    cases x with
    | panic v => exact h
    | _ => exact h.elim
theorem wpAnyIn_round {l n : Nat} {md : Region.Mode} {ops : Array Oper} {Q : Exit → Act → World → Prop} (hd : noDefer ops = true) (hQ : ¬ LetsOut Q) : ∀ (k : Nat) (listed : Array Bool) (a : Act) (w : World), wpAny P md ops Q k listed a w → wpAnyIn (Fence.wide.inRound l) n P md ops Q k listed a w
  | 0, _, _, _, h => h
  | k + 1, listed, a, w, h => by
    refine ⟨h.1, fun i hi => ?_⟩
    have h1 := h.2 i hi
    unfold wpOp at h1
    unfold wpOpIn
    cases hq : ops[i]? with
    | none =>
      rw [hq] at h1
      exact wpAnyIn_round hd hQ k _ _ _ h1
    | some o =>
      rw [hq] at h1
      simp only at h1 ⊢
      have hmono : ∀ {K K' : Act → World → Prop} {r : Result Next}, (∀ a w, K a w → K' a w) → o.upon P a K Q r → o.upon P a K' Q r := fun {K K' r} hK h => by
        cases r with
        | ok v w =>
          cases v with
          | enter f args => exact Calls.mono h fun e w' h => by cases e <;> first | exact hK _ _ h | exact h
          | row row args => exact fun c cs => let ⟨v, w', r, s⟩ := h c cs; ⟨v, w', hK _ _ r, s⟩
          | round l f tmps assign body => exact h.elim
          | value v => exact hK _ _ h
          | skip => exact hK _ _ h
          | defer d => exact hK _ _ h
          | _ => exact h.elim
        | halt x w =>
          cases x with
          | panic v => exact h
          | _ => exact h.elim
      split at h1
      · rename_i hw
        rw [if_pos hw]
        rcases h1 with h1 | ⟨_, h1⟩
        · have hnd : ∀ c, o.op ≠ .defer c := fun c hc => by
            have := (Array.all_eq_true_iff_forall_mem.1 hd) o (Array.mem_of_getElem? hq)
            rw [hc] at this
            cases this
          refine ⟨fun _ _ => trivial, ?_⟩
          show o.uponIn _ n P a _ Q ((o.semAt (some l) a.eval).run P w)
          rw [Oper.semAt_some l _ o hnd]
          exact uponIn_round (hmono (fun a w h => wpAnyIn_round hd hQ k _ a w h) h1)
        · exact (hQ h1).elim
      · rename_i hw
        rw [if_neg hw]
        exact ⟨fun _ _ => trivial, wpAnyIn_round hd hQ k _ _ _ h1⟩
/-- A body that is one region, which draws its order: in a round it does what the evaluator says. -/
theorem round_sim {lo l n fuel id id2 : Nat} {ops : Array Oper} {x : X} (hI : I = ints) (hmo : P.follows .mixedOrders = true) (hc : comp P [] (fuel + 2) (.block id (.region id2 ops true)) = some x) (hd : noDefer ops = true) {Q : Exit → Act → World → Prop} (hQ : ¬ LetsOut Q) (hQ' : ∀ c a w, ¬ Q (.panic c) a w)
    (hN : Now lo E0 m0 w0 E m w ts a) {k : List A → Mem → Tree} (h : Holds P I p (ev I x ts m fun e ts m => match e with | .normal => k ts m | .exit _ => .fail | .ret => .fail))
    (hK : ∀ ts' m' E' w' a', Holds P I p (k ts' m') → Now lo E0 m0 w0 E' m' w' ts' a' → Q .normal a' w') : (Code.block id (.region id2 ops true)).wpIn (Fence.wide.inRound l) n P Q a w := by
  obtain ⟨x1, h1, rfl⟩ := Option.map_eq_some_iff.1 hc
  simp only [comp] at h1
  split at h1
  · rename_i s hns hs
    obtain ⟨d, hd1, rfl⟩ := Option.map_eq_some_iff.1 h1
    refine wpIn_block ?_
    cases h with
    | drawn W h =>
    refine wpIn_region_any hmo (wpAnyIn_round (Q := Exit.inBlock id Q) hd (fun ⟨a, w, h⟩ => hQ ⟨a, w, h⟩) _ _ _ _ (wpAny_of_held _ _ _ _ (drawn_sim (Q := Exit.inBlock id Q) hI hns (fun c d v a w h => (hQ' c _ _ h).elim) (W, m.length) ops.size _ s d hs hd1 hN.drew h (fun ts' m' E' w' a' hk hN' => hK ts' m' E' w' a' hk hN'))))
  · cases h1

/-! ### What cells keep -/
def C.calm : C → Bool
  | .stamp _ _ => false
  | _ => true
def Blk.calm : Blk → Bool
  | .lit _ rows => rows.all fun r => r.all C.calm
  | .mp _ _ => false
  | _ => true
theorem RowAt.keeps (hc : ∀ x v, w.cell? x = some v → w'.cell? x = some v) {T T' : Nat → Prop} (hT : ∀ k, T k → T' k) {es : Nat} {l : List (List G)} {A : Option Addr} {u : Nat → Nat → Value} (h : RowAt w T es l A u) : RowAt w' T' es l A u :=
  ⟨h.wid, fun i r j x hi hj => let ⟨a, off, h1, h2, h3⟩ := h.cell i r j x hi hj; ⟨a, off, h1, hT _ h2, hc _ _ h3⟩, fun h1 => let ⟨a, off, h2, h3⟩ := h.some_ h1; ⟨a, off, h2, hT _ h3⟩⟩
theorem GRep.keeps (hc : ∀ x v, w.cell? x = some v → w'.cell? x = some v) {F F' : Nat → Prop} (hF : ∀ k, F k → F' k) {x : G} {v : Value} (h : GRep F w x v) : GRep F' w' x v := by
  induction h with
  | bool b => exact .bool b
  | int k z => exact .int k z
  | str s => exact .str s
  | nilp => exact .nilp
  | nil => exact .nil
  | rows u hn hr hg ih => exact .rows u hn (hr.keeps hc hF) ih
theorem there_keeps (hc : ∀ x v, w.cell? x = some v → w'.cell? x = some v ∧ w'.frozen? x = w.frozen? x) {a o n : Nat} (ht : w.there a o n) : w'.there a o n := fun j hj => by
  obtain ⟨h1, h2⟩ := ht j hj
  obtain ⟨v, hv⟩ := Option.isSome_iff_exists.1 h1
  obtain ⟨h3, h4⟩ := hc _ _ hv
  exact ⟨by rw [h3]; rfl, h4.trans h2⟩
theorem CRep.keeps (hc : ∀ x v, w.cell? x = some v → w'.cell? x = some v ∧ w'.frozen? x = w.frozen? x) {x : C} {v : Value} (hcalm : x.calm = true) (hx : CRep E m w x v) : CRep E m w' x v := by
  have hc1 : ∀ x v, w.cell? x = some v → w'.cell? x = some v := fun x v h => (hc x v h).1
  cases x with
  | any => exact hx
  | g x => exact GRep.keeps hc1 (fun _ h => h) hx
  | bor es l =>
    obtain ⟨A, c, u, h1, h2, h3, h4⟩ := hx
    exact ⟨A, c, u, h1, h2, h3.keeps hc1 (fun _ h => h), fun i r j x hi hj => (h4 i r j x hi hj).keeps hc1 (fun _ h => h)⟩
  | gp row j =>
    obtain ⟨a, off, h1, h2, h3⟩ := hx
    exact ⟨a, off, h1, h2, fun j x hj => let ⟨u, h4, h5⟩ := h3 j x hj; ⟨u, hc1 _ _ h4, h5.keeps hc1 (fun _ h => h)⟩⟩
  | ptr b i es j => exact hx
  | row b es cap =>
    obtain ⟨h0, ho, hx⟩ := hx
    refine ⟨h0, ho, fun blk hb hl => ?_⟩
    obtain ⟨k1, k2, k3⟩ := hx blk hb hl
    refine ⟨k1, k2, k3.imp (fun h => h) ?_⟩
    rintro ⟨a, base, c, e1, e2, e3, e4, e5⟩
    exact ⟨a, base, c, e1, e2, e3, e4, there_keeps hc e5⟩
  | sl b i es n cap =>
    obtain ⟨h0, ho, hx⟩ := hx
    refine ⟨h0, ho, fun blk hb hl => ?_⟩
    obtain ⟨k1, k2, k3, k4⟩ := hx blk hb hl
    refine ⟨k1, k2, k3, k4.imp (fun h => h) ?_⟩
    rintro ⟨a, base, c, off, e1, e2, e3, e4, e5, e6⟩
    exact ⟨a, base, c, off, e1, e2, e3, e4, e5, there_keeps hc e6⟩
  | fn f l => exact hx
  | map b => exact hx
  | stamp b z => cases hcalm
theorem Sat.keeps (hc : ∀ x v, w.cell? x = some v → w'.cell? x = some v ∧ w'.frozen? x = w.frozen? x) (hz : w.heap.size ≤ w'.heap.size) (hcalm : m.all Blk.calm = true) (h : Sat E m w) : Sat E m w' where
  rep := fun id blk hb hl => by
    have hcb := List.all_eq_true.1 hcalm blk (List.mem_of_getElem? hb)
    refine (h.rep id blk hb hl).imp (fun h => h) fun ⟨a, base, e, h1, h2, h3⟩ => ⟨a, base, e, there_keeps hc h1, Nat.lt_of_lt_of_le h2 hz, fun i row hi => ⟨(h3 i row hi).1, fun j x hj => ?_⟩⟩
    obtain ⟨u, h4, h5⟩ := (h3 i row hi).2 j x hj
    refine ⟨u, (hc _ _ h4).1, h5.keeps hc ?_⟩
    cases blk with
    | dead => exact hl.elim
    | lit es rows =>
      have h6 := List.all_eq_true.1 hcb row (List.mem_of_getElem? hi)
      exact List.all_eq_true.1 h6 x (List.mem_of_getElem? hj)
    | sym es l =>
      simp only [Blk.rows, List.getElem?_map] at hi
      obtain ⟨r, _, rfl⟩ := Option.map_eq_some_iff.1 hi
      rw [List.getElem?_map] at hj
      obtain ⟨g, _, rfl⟩ := Option.map_eq_some_iff.1 hj
      rfl
    | mp ag l => cases hcb
  inj := h.inj
  dis := h.dis
  old := fun k hk => Nat.lt_of_lt_of_le (h.old k hk) hz
  maps := fun id ag l hb => by
    have := List.all_eq_true.1 hcalm _ (List.mem_of_getElem? hb)
    cases this
theorem grown_cells {row : Option Nat} (hg : w.grownBy w' row) (hr : ∀ r, row = some r → ∃ o : Obj, w.heap[r]? = some o ∧ o.isCells = false) : ∀ x v, w.cell? x = some v → w'.cell? x = some v ∧ w'.frozen? x = w.frozen? x := fun x v h =>
  ⟨cell_kept h hg hr, frozen_kept h hg hr⟩
end
end Go.Proofs.Ytccfcenhpmdemaa.E
