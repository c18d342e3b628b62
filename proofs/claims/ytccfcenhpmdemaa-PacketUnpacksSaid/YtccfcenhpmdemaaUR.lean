/- The loop of Unpack: all its rounds. -/
import Derived.Test.YtccfcenhpmdemaaUL
namespace Go.Proofs.Ytccfcenhpmdemaa.E
open Go Go.RowKit
set_option linter.unusedVariables false
set_option maxRecDepth 100000

/-- The number of the k-th eight bytes. -/
def wordAt (K : Nat) (bs : List (BitVec 8)) (k : Nat) : Int := numB ((bs.take (8 * min k (K - 1) + 8)).drop (8 * min k (K - 1)))
def wordsAt (K : Nat) (bs : List (BitVec 8)) : List Int := (List.range K).map (wordAt K bs)
def C.flat : C → Bool
  | .g (.int _ _) => true
  | .g (.bool _) => true
  | _ => false
theorem CRep.flat {E E' : Env} {m m' : Mem} {w w' : World} {x : C} {u : Value} (hf : x.flat = true) (h : CRep E m w x u) : CRep E' m' w' x u := by
  cases x with
  | g x =>
    cases x with
    | int k z => generalize hu : u = v at h; cases h; exact GRep.int k z
    | bool b => generalize hu : u = v at h; cases h; exact GRep.bool b
    | _ => cases hf
  | _ => cases hf
theorem pkC_get {k f t i l p s : Int} {b : Bool} {c : C} (c' : C) {j : Nat} {x : C} (h : (pkC k f t i l p s b c)[j]? = some x) : (j = 8 ∧ x = c) ∨ (j ≠ 8 ∧ x.flat = true ∧ (pkC k f t i l p s b c')[j]? = some x) := by
  unfold pkC at h ⊢
  match j, h with
  | 0, h => cases h; exact .inr ⟨by decide, rfl, rfl⟩
  | 1, h => cases h; exact .inr ⟨by decide, rfl, rfl⟩
  | 2, h => cases h; exact .inr ⟨by decide, rfl, rfl⟩
  | 3, h => cases h; exact .inr ⟨by decide, rfl, rfl⟩
  | 4, h => cases h; exact .inr ⟨by decide, rfl, rfl⟩
  | 5, h => cases h; exact .inr ⟨by decide, rfl, rfl⟩
  | 6, h => cases h; exact .inr ⟨by decide, rfl, rfl⟩
  | 7, h => cases h; exact .inr ⟨by decide, rfl, rfl⟩
  | 8, h => cases h; exact .inl ⟨rfl, rfl⟩
  | n + 9, h => simp at h
/-- The memory of a round: the packet, its data. -/
abbrev mr (k f t i l p s : Int) (b : Bool) (D : List (List G)) : Mem := [.lit 9 [pkC k f t i l p s b (.row 1 1 none)], .sym 1 D]
/-- What stands between two rounds. -/
structure URel (w : World) (F : Nat → Prop) (ap op : Nat) (k f t i l p s : Int) (b : Bool) (d : List Int) (W : World) : Prop where
  ex : ∃ (Er : Env) (D : List (List G)), isL .i64 D d ∧ Sat Er (mr k f t i l p s b D) W ∧ Er.ρ 0 = some (ap, op) ∧ (∀ a x, Er.ρ 1 = some (a, x) → w.heap.size ≤ a) ∧ (d = [] → Er.ρ 1 = none) ∧ ∀ j, F j → Er.F j
  os : W.os = w.os
  tape : W.tape = w.tape
  output : W.output = w.output
  size : w.heap.size ≤ W.heap.size
  old : ∀ j, j < w.heap.size → j ≠ ap → W.heap[j]? = w.heap[j]?
  stays : Stays w W
theorem URel.own {w : World} {F : Nat → Prop} {ap op : Nat} {k f t i l p s : Int} {b : Bool} (g : List Nat → List Int) : OwnFrom w.heap.size (fun pre W => URel w F ap op k f t i l p s b (g pre) W) := by
  intro pre A B row hs hg hr
  have hc := grown_cells hg (fun r e => (hr r e).2)
  obtain ⟨Er, D, h1, h2, h3⟩ := hs.ex
  have hblk : ∀ j, j < w.heap.size → B.heap[j]? = A.heap[j]? := fun j hj => hg.block j (Nat.lt_of_lt_of_le hj hs.size) (fun e => by
    have := (hr j e.symm).1
    omega)
  refine ⟨⟨Er, D, h1, h2.keeps hc hg.size rfl, h3⟩, hg.os.trans hs.os, hg.tape.trans hs.tape, hg.output.trans hs.output, Nat.le_trans hs.size hg.size, fun j hj hne => (hblk j hj).trans (hs.old j hj hne), ?_⟩
  refine ⟨fun x hx => ?_, fun a es c hm => ?_⟩
  · obtain ⟨q1, q2⟩ := hs.stays.cell x hx
    obtain ⟨v, hv⟩ := Option.isSome_iff_exists.1 q1
    obtain ⟨q3, q4⟩ := hc x v hv
    exact ⟨by rw [q3]; rfl, q4.trans q2⟩
  · obtain ⟨es', c', q1, q2⟩ := hs.stays.maps a es c hm
    exact ⟨es', c', (hblk a (Array.getElem?_eq_some_iff.1 hm).1).trans q1, q2⟩
/-- Where the loop begins. -/
theorem URel.start {E : Env} {m : Mem} {w : World} {bp ap op : Nat} {k f t i l p s : Int} {b : Bool} (hs : Sat E m w) (hm : m[bp]? = some (.lit 9 [pkC k f t i l p s b (.g .nil)])) (hρ : E.ρ bp = some (ap, op)) : URel w E.F ap op k f t i l p s b [] w := by
  have hrep := hs.rep bp _ hm trivial
  rw [hρ] at hrep
  refine ⟨⟨⟨E.F, fun _ => False, fun j => if j = 0 then some (ap, op) else none⟩, [], rfl, ?_, rfl, fun a x h => (by cases h), fun _ => rfl, fun _ h => h⟩, rfl, rfl, rfl, Nat.le_refl _, fun _ _ _ => rfl, Stays.refl w⟩
  rcases hrep with ⟨h1, _⟩ | ⟨a_, base, e, h1, h2, h3⟩
  · cases h1
  cases e
  refine ⟨fun id blk hb hl => ?_, fun i j bi bj a x y hi hj li lj ei ej => ?_, fun i bi a x hi li ei => ?_, fun j hj => hs.old j (.inl (hj.resolve_right (fun h => h))), fun id ag l hb => ?_⟩
  · match id, hb with
    | 0, hb =>
      cases hb
      refine .inr ⟨ap, op, rfl, h1, h2, fun i row hi => ?_⟩
      obtain ⟨q1, q2⟩ := h3 0 _ rfl
      match i, hi with
      | 0, hi =>
        cases hi
        refine ⟨rfl, fun j x hj => ?_⟩
        rcases pkC_get (.g .nil) hj with ⟨rfl, rfl⟩ | ⟨_, hf, hj'⟩
        · obtain ⟨u, g1, g2⟩ := q2 8 (.g .nil) rfl
          refine ⟨u, g1, ?_⟩
          have : u = .slice none 0 0 := GRep_nil g2
          subst this
          refine ⟨Nat.lt_succ_self 1, rfl, fun blk hb _ => ?_⟩
          cases hb
          exact ⟨rfl, fun c h => (by cases h), .inl ⟨rfl, rfl⟩⟩
        · obtain ⟨u, g1, g2⟩ := q2 j x hj'
          exact ⟨u, g1, g2.flat hf⟩
      | n + 1, hi => simp [Blk.rows] at hi
    | 1, hb => cases hb; exact .inl ⟨rfl, rfl⟩
    | n + 2, hb => simp at hb
  · have h0 : ∀ {j a x}, (if j = 0 then some (ap, op) else none) = some (a, x) → j = 0 := fun {j a x} h => by
      by_cases hj : j = 0
      · exact hj
      · simp [hj] at h
    exact (h0 ei).trans (h0 ej).symm
  · by_cases hj : i = 0
    · simp [hj] at ei
      have := hs.dis bp _ ap op hm trivial hρ
      exact ⟨by rw [← ei.1]; exact this.1, fun h => h⟩
    · simp [hj] at ei
  · match id, hb with
    | 0, hb => cases hb
    | 1, hb => cases hb
    | n + 2, hb => simp at hb
/-- A round more. -/
theorem URel.step {w W W' : World} {F : Nat → Prop} {ap op : Nat} {k f t i l p s : Int} {b : Bool} {d d' : List Int} {D D' : List (List G)} {Er E' : Env} {m' : Mem} {id : Nat} (hap : ap < w.heap.size)
    (h : URel w F ap op k f t i l p s b d W) (hs : Sat Er (mr k f t i l p s b D) W) (h0 : Er.ρ 0 = some (ap, op)) (h1 : ∀ a x, Er.ρ 1 = some (a, x) → w.heap.size ≤ a) (hF : ∀ j, F j → Er.F j) (hd' : d' ≠ []) (hD' : isL .i64 D' d')
    (hi : invMem ints [0, id] (.frz []) m' = mr k f t i l p s b D') (hid : 2 ≤ id) (hs' : Sat E' m' W') (hg : Grow (fun _ => True) Er (mr k f t i l p s b D) W E' m' W') : URel w F ap op k f t i l p s b d' W' := by
  have foot : ∀ j, Foot (fun _ => True) Er (mr k f t i l p s b D) j → j = ap ∨ w.heap.size ≤ j := by
    rintro j ⟨id, blk, x, q1, _, _, q4⟩
    match id, q1 with
    | 0, _ => rw [h0] at q4; cases q4; exact .inl rfl
    | 1, _ => exact .inr (h1 _ _ q4)
    | n + 2, q1 => simp at q1
  have hold : ∀ j, j < w.heap.size → j ≠ ap → W'.heap[j]? = W.heap[j]? := fun j hj hne => hg.block j (Nat.lt_of_lt_of_le hj h.size) (fun hf => (foot j hf).elim hne (by omega))
  have hm0 : ∃ blk, m'[0]? = some blk ∧ blk.live := by
    have : (invMem ints [0, id] (.frz []) m')[0]? = some (.lit 9 [pkC k f t i l p s b (.row 1 1 none)]) := by rw [hi]; rfl
    simp only [invMem, List.map_cons, List.getElem?_cons_zero, Option.some.injEq] at this
    rw [List.getD_eq_getElem?_getD] at this
    cases hq : m'[0]? with
    | none => rw [hq] at this; cases this
    | some blk => rw [hq] at this; exact ⟨blk, rfl, by cases blk <;> first | trivial | cases this⟩
  have hm1 : ∃ blk, m'[id]? = some blk ∧ blk.live := by
    have : (invMem ints [0, id] (.frz []) m')[1]? = some (.sym 1 D') := by rw [hi]; rfl
    simp only [invMem, List.map_cons, List.getElem?_cons_succ, List.getElem?_cons_zero, Option.some.injEq] at this
    rw [List.getD_eq_getElem?_getD] at this
    cases hq : m'[id]? with
    | none => rw [hq] at this; cases this
    | some blk => rw [hq] at this; exact ⟨blk, rfl, by cases blk <;> first | trivial | cases this⟩
  obtain ⟨b0, q0, l0⟩ := hm0
  obtain ⟨b1, q1, l1⟩ := hm1
  have hρ0 : E'.ρ 0 = some (ap, op) := (hg.ρ 0 (Nat.zero_lt_succ 1)).trans h0
  have hsat : Sat (E'.ren m' [0, id] [] (fun _ => False)) (invMem ints [0, id] (.frz []) m') W' := Sat.inv rfl hs' (by simp; omega) (fun l e b hb _ => by cases e; cases hb) (fun es e => by cases e) (fun b hb => hb.elim) (fun b hb => by cases hb)
  rw [hi] at hsat
  refine ⟨⟨_, D', hD', hsat, ?_, fun a x e => ?_, fun e => (hd' e).elim, fun j hj => .inl (hg.F j (hF j hj))⟩, hg.os.trans h.os, hg.tape.trans h.tape, hg.output.trans h.output, Nat.le_trans h.size hg.size, fun j hj hne => (hold j hj hne).trans (h.old j hj hne), h.stays.trans hg.stays⟩
  · simp [Env.ren, hρ0]
  · have e' : E'.ρ id = some (a, x) := by simpa [Env.ren] using e
    rcases hg.newρ id a x b1 hid q1 l1 e' with h2 | h2
    · exact Nat.le_trans h.size h2
    · rcases foot a h2 with rfl | h3
      · have := hs'.inj 0 id b0 b1 a op x q0 q1 l0 l1 hρ0 e'
        omega
      · exact h3
/-- Where the loop ends. -/
theorem URel.fin {E : Env} {m : Mem} {w W : World} {ts : List A} {a : Act} {bp ap op : Nat} {k f t i l p s : Int} {b : Bool} {d : List Int} (hA : At E m w ts a) (hm : m[bp]? = some (.lit 9 [pkC k f t i l p s b (.g .nil)])) (hρ : E.ρ bp = some (ap, op))
    (h : URel w E.F ap op k f t i l p s b d W) {D : Nat} (hD : w.heap.size ≤ D) (hDd : W.heap[D]? = some (.deferred (some []))) :
    ∃ E2, At E2 (m.set bp (.lit 9 [pkC k f t i l p s b (.g (.rows 1 (nrow .i64 d)))])) W ts { a with defers := { target := .collected D, args := #[] } :: a.defers } ∧ Grow (fun _ => True) E m w E2 (m.set bp (.lit 9 [pkC k f t i l p s b (.g (.rows 1 (nrow .i64 d)))])) W := by
  have hs := hA.sat
  have hbl : bp < m.length := (List.getElem?_eq_some_iff.1 hm).1
  have hdis := hs.dis bp _ ap op hm trivial hρ
  obtain ⟨Er, D0, h1, h2, h3, h4, h5, h6⟩ := h.ex
  obtain rfl : D0 = nrow .i64 d := h1
  have get : ∀ {id : Nat} {blk : Blk}, (m.set bp (.lit 9 [pkC k f t i l p s b (.g (.rows 1 (nrow .i64 d)))]))[id]? = some blk → (id = bp ∧ blk = .lit 9 [pkC k f t i l p s b (.g (.rows 1 (nrow .i64 d)))]) ∨ (id ≠ bp ∧ m[id]? = some blk) := fun {id blk} hb => by
    rw [List.getElem?_set] at hb
    by_cases he : bp = id
    · subst he
      simp [hbl] at hb
      exact .inl ⟨rfl, hb.symm⟩
    · simp [he] at hb
      exact .inr ⟨fun e => he e.symm, hb⟩
  have live : ∀ {id : Nat} {blk : Blk}, (m.set bp (.lit 9 [pkC k f t i l p s b (.g (.rows 1 (nrow .i64 d)))]))[id]? = some blk → blk.live → ∃ blk0, m[id]? = some blk0 ∧ blk0.live ∧ blk.rows.length = blk0.rows.length ∧ blk.es = blk0.es := fun {id blk} hb hl => by
    rcases get hb with ⟨rfl, rfl⟩ | ⟨_, hb⟩
    · exact ⟨_, hm, trivial, rfl, rfl⟩
    · exact ⟨blk, hb, hl, rfl, rfl⟩
  have hF : ∀ j, E.F j ∨ E.B j → W.heap[j]? = w.heap[j]? := fun j hj => h.old j (hs.old j hj) (fun e => by subst e; exact hj.elim hdis.1 hdis.2)
  let E2 : Env := ⟨fun j => E.F j ∨ (w.heap.size ≤ j ∧ j < W.heap.size), E.B, E.ρ⟩
  have step : Step E m w E2 (m.set bp (.lit 9 [pkC k f t i l p s b (.g (.rows 1 (nrow .i64 d)))])) W := ⟨fun _ h => .inl h, fun _ h => h, fun _ _ => rfl, by simp, fun id blk' _ hb hl => live hb hl, hF, h.stays⟩
  have hrow : GRep E2.F W (.rows 1 (nrow .i64 d)) ((W.cell? (at_ ap (op + (0 * 9 + 8)))).getD undef) ∧ (W.cell? (at_ ap (op + (0 * 9 + 8)))).isSome = true := by
    have hr := h2.rep 0 _ rfl trivial
    rw [h3] at hr
    rcases hr with ⟨q, _⟩ | ⟨a_, base, e, g1, g2, g3⟩
    · cases q
    cases e
    obtain ⟨u, g4, g5⟩ := (g3 0 _ rfl).2 8 (.row 1 1 none) rfl
    have hR := rowsOf_readsT (I := ints) rfl h2 (es := 1) (c := .row 1 1 none) (l := nrow .i64 d) (v := u) rfl (.inr g5)
    have hR2 := hR.mono (T' := E2.F) (fun j ⟨blk, x, q1, q2, q3⟩ => by
      have hlt : j < W.heap.size := by
        rcases h2.rep 1 _ rfl trivial with ⟨r1, _⟩ | ⟨a2, base2, r1, _, r3, _⟩
        · rw [q3] at r1; cases r1
        · rw [q3] at r1; cases r1; exact r3
      exact .inr ⟨h4 j x q3, hlt⟩)
    obtain ⟨A_, c', hR1, hR3, hR4, hR5⟩ := hR2
    have he : (W.cell? (at_ ap (op + (0 * 9 + 8)))) = some u := g4
    rw [he]
    refine ⟨?_, rfl⟩
    show GRep E2.F W _ u
    rw [hR1]
    refine .rows (fun i j => match A_ with | some x => (W.cell? (at_ x.block (x.off + (i * 1 + j)))).getD undef | none => undef) hR3 ⟨hR4, fun i r j x hi hj => ?_, fun hne => ?_⟩ (fun i r j x hi hj => ?_)
    · rcases hR5 with q | ⟨a_, off, q1, q2, q3⟩
      · rw [q] at hi; cases hi
      · obtain ⟨u, q4, q5⟩ := q3 i r j x hi hj
        subst q1
        exact ⟨a_, off, rfl, q2, by show W.cell? _ = some ((W.cell? (at_ a_ (off + (i * 1 + j)))).getD undef); rw [q4]; rfl⟩
    · rcases hR5 with q | ⟨a_, off, q1, q2, q3⟩
      · exact absurd q hne
      · exact ⟨a_, off, q1, q2⟩
    · rcases hR5 with q | ⟨a_, off, q1, q2, q3⟩
      · rw [q] at hi; cases hi
      · obtain ⟨u, q4, q5⟩ := q3 i r j x hi hj
        subst q1
        show GRep E2.F W x ((W.cell? (at_ a_ (off + (i * 1 + j)))).getD undef)
        rw [q4]
        obtain ⟨y, rfl⟩ := nrow_get .i64 d i r hi
        match j, hj with
        | 0, hj => cases hj; exact CRep.flat (E := Er) (m := []) (w := W) (E' := E2) (m' := []) (w' := W) (x := .g (.int .i64 (.sym y))) rfl q5
        | n + 1, hj => simp at hj
  have sat : Sat E2 (m.set bp (.lit 9 [pkC k f t i l p s b (.g (.rows 1 (nrow .i64 d)))])) W := by
    refine ⟨fun id blk hb hl => ?_, fun i j bi bj a x y hi hj li lj ei ej => ?_, fun i bi a x hi li ei => ?_, fun j hj => ?_, fun id ag l hb => ?_⟩
    · rcases get hb with ⟨rfl, rfl⟩ | ⟨hne, hb⟩
      · have hr := h2.rep 0 _ rfl trivial
        rw [h3] at hr
        rcases hr with ⟨q, _⟩ | ⟨a_, base, e, g1, g2, g3⟩
        · cases q
        cases e
        refine .inr ⟨ap, op, hρ, g1, g2, fun i row hi => ?_⟩
        match i, hi with
        | 0, hi =>
          cases hi
          refine ⟨rfl, fun j x hj => ?_⟩
          rcases pkC_get (.row 1 1 none) hj with ⟨rfl, rfl⟩ | ⟨_, hf, hj'⟩
          · obtain ⟨u, hu⟩ := Option.isSome_iff_exists.1 hrow.2
            refine ⟨u, hu, ?_⟩
            have := hrow.1
            rw [hu] at this
            exact this
          · obtain ⟨u, q1, q2⟩ := (g3 0 _ rfl).2 j x hj'
            exact ⟨u, q1, q2.flat hf⟩
        | n + 1, hi => simp [Blk.rows] at hi
      · have hr := hs.rep id blk hb
        rcases hr hl with h1 | ⟨a_, base, e, g1, g2, g3⟩
        · exact .inl h1
        · have hne' : a_ ≠ ap := fun e2 => by
            subst e2
            exact hne (hs.inj id bp blk _ a_ base op hb hm hl trivial e hρ)
          have h7 := BRep.step_rep step (h.old a_ g2 hne') h.size (fun _ => .inr ⟨a_, base, rfl, g1, g2, g3⟩) hl
          rw [← e] at h7
          exact h7
    · obtain ⟨b1, q1, l1, _⟩ := live hi li
      obtain ⟨b2, q2, l2, _⟩ := live hj lj
      exact hs.inj i j b1 b2 a x y q1 q2 l1 l2 ei ej
    · obtain ⟨b1, q1, l1, _⟩ := live hi li
      obtain ⟨d1, d2⟩ := hs.dis i b1 a x q1 l1 ei
      have hlt : a < w.heap.size := by
        rcases hs.rep i b1 q1 l1 with ⟨r1, _⟩ | ⟨a2, base2, r1, _, r3, _⟩
        · rw [show E.ρ i = some (a, x) from ei] at r1; cases r1
        · rw [show E.ρ i = some (a, x) from ei] at r1; cases r1; exact r3
      exact ⟨fun h => h.elim d1 (fun h => by omega), d2⟩
    · rcases hj with (hj | hj) | hj
      · exact Nat.lt_of_lt_of_le (hs.old j (.inl hj)) h.size
      · exact hj.2
      · exact Nat.lt_of_lt_of_le (hs.old j (.inr hj)) h.size
    · rcases get hb with ⟨rfl, e⟩ | ⟨hne, hb⟩
      · cases e
      · obtain ⟨a1, e1, l1, m1⟩ := hs.maps id ag l hb
        have hne' : a1 ≠ ap := fun e2 => by
          subst e2
          exact hne (hs.inj id bp _ _ a1 0 op hb hm trivial trivial e1 hρ)
        exact ⟨a1, e1, Nat.lt_of_lt_of_le l1 h.size, MapAt.step (fun _ h => .inl h) (fun j hj => hF j (.inl hj)) (h.old a1 l1 hne') m1⟩
  obtain ⟨Ds, n1, d1, e1⟩ := hA.defers
  refine ⟨E2, ⟨sat, hA.ts.step step, D :: Ds, List.nodup_cons.2 ⟨fun hm => ?_, n1⟩, ?_, fun D' hD' => ?_⟩, ?_⟩
  · have := hs.old D (.inl (e1 D hm).1)
    omega
  · show _ :: a.defers = _
    rw [d1]
    rfl
  · rcases List.mem_cons.1 hD' with rfl | hD'
    · exact ⟨.inr ⟨hD, (Array.getElem?_eq_some_iff.1 hDd).1⟩, hDd⟩
    · exact ⟨.inl (e1 D' hD').1, (hF D' (.inl (e1 D' hD').1)).trans (e1 D' hD').2⟩
  · exact { step with
      B' := fun _ h => h, os := h.os, tape := h.tape, output := h.output, size := h.size
      block := fun j hj hn => h.old j hj (fun e => by subst e; exact hn ⟨bp, _, op, hm, trivial, trivial, hρ⟩)
      newF := fun j hj => hj.imp (fun h => h) (fun h => .inl h.1)
      newρ := fun id a x blk h1 h2 => by
        rw [List.getElem?_eq_none (by simpa using h1)] at h2
        cases h2 }
end Go.Proofs.Ytccfcenhpmdemaa.E
