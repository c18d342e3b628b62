/- Stores. -/
import Derived.Test.YtccfcenhpmdemaaE6
namespace Go.Proofs.Ytccfcenhpmdemaa.E
open Go
set_option linter.unusedVariables false

section
variable {P : Program} {I : Ints} {p : Nat} {E : Env} {m : Mem} {w w' : World} {ts : List A} {a : Act}
variable {Wt : Nat → Prop}
theorem get_set {m : Mem} {b id : Nat} {blk blk' : Blk} (h : (m.set b blk')[id]? = some blk) : (id = b ∧ blk = blk' ∧ b < m.length) ∨ (id ≠ b ∧ m[id]? = some blk) := by
  rw [List.getElem?_set] at h
  by_cases hb : b = id
  · subst hb
    by_cases hl : b < m.length
    · simp only [hl, if_true, Option.some.injEq] at h
      exact .inl ⟨rfl, h.symm, hl⟩
    · simp [hl] at h
  · simp only [hb, if_false] at h
    exact .inr ⟨fun e => hb e.symm, h⟩
/-- One block is written. -/
theorem write_grow (hs : Sat E m w) {b a_ base : Nat} {blk blk' : Blk} (hb : m[b]? = some blk) (hl : blk.live) (hl' : blk'.live) (hρ : E.ρ b = some (a_, base)) (hW : Wt b) (hos : w'.os = w.os) (htp : w'.tape = w.tape) (hou : w'.output = w.output) (hsz : w'.heap.size = w.heap.size)
    (hbl : ∀ k, k ≠ a_ → w'.heap[k]? = w.heap[k]?) (hst : Stays w w') (hlen : blk'.rows.length = blk.rows.length) (hes : blk'.es = blk.es)
    (hrep : ∀ (i : Nat) (row : List C), blk'.rows[i]? = some row → row.length = blk'.es ∧ ∀ (j : Nat) (x : C), row[j]? = some x → ∃ u, w'.cell? (at_ a_ (base + (i * blk'.es + j))) = some u ∧ CRep E m w x u)
    (hmp : ∀ ag l, blk' = .mp ag l → base = 0 ∧ MapAt w' E.F ag l a_ := by intro _ _ h; cases h) :
    Grow Wt E m w E (m.set b blk') w' ∧ Sat E (m.set b blk') w' := by
  have hdis := hs.dis b blk a_ base hb hl hρ
  have step : Step E m w E (m.set b blk') w' :=
    { F := fun _ h => h, B := fun _ h => h, ρ := fun _ _ => rfl, len := by simp
      shape := fun id blk1 hid h1 h2 => by
        rcases get_set h1 with ⟨rfl, rfl, _⟩ | ⟨_, h3⟩
        · exact ⟨blk, hb, hl, hlen, hes⟩
        · exact ⟨blk1, h3, h2, rfl, rfl⟩
      frz := fun k hk => hbl k (fun e => by subst e; exact hk.elim hdis.1 hdis.2)
      stays := hst }
  refine ⟨{ toStep := step, B' := fun _ h => h, os := hos, tape := htp, output := hou, size := Nat.le_of_eq hsz.symm, block := fun k hk hn => hbl k (fun e => hn ⟨b, blk, base, hb, hl, hW, e ▸ hρ⟩), newF := fun k hk => .inl hk, newρ := fun id a_ x blk1 hid h1 _ _ => ?_ }, ?_⟩
  · rw [List.getElem?_eq_none (by simpa using hid)] at h1; cases h1
  · refine ⟨fun id blk1 h1 l1 => ?_, fun i j bi bj c x y hi hj li lj ei ej => ?_, fun i bi c x hi li ei => ?_, fun k hk => by rw [hsz]; exact hs.old k hk, fun id ag l h1 => ?_⟩
    · rcases get_set h1 with ⟨rfl, rfl, _⟩ | ⟨hne, h3⟩
      · rcases hs.rep _ blk hb hl with ⟨e, _⟩ | ⟨a', base', e, g1, g2, g3⟩
        · rw [e] at hρ; cases hρ
        · rw [e] at hρ
          cases hρ
          refine .inr ⟨a_, base, e, by rw [hlen, hes]; exact there_stays hst g1, by omega, fun i row hi => ⟨(hrep i row hi).1, fun j x hj => ?_⟩⟩
          obtain ⟨u, q1, q2⟩ := (hrep i row hi).2 j x hj
          exact ⟨u, q1, q2.step step⟩
      · rcases hs.rep id blk1 h3 l1 with h | ⟨a', base', e, g1, g2, g3⟩
        · exact .inl h
        · have hne' : a' ≠ a_ := fun e' => by
            subst e'
            exact hne (hs.inj id b blk1 blk a' base' base h3 hb l1 hl e hρ)
          rw [e]
          exact BRep.step_rep step (hbl a' hne') (Nat.le_of_eq hsz.symm) (fun _ => .inr ⟨a', base', rfl, g1, g2, g3⟩) l1
    · have old : ∀ (i : Nat) (bi : Blk), (m.set b blk')[i]? = some bi → bi.live → ∃ b0, m[i]? = some b0 ∧ b0.live := fun i bi hi li => by
        rcases get_set hi with ⟨rfl, rfl, _⟩ | ⟨_, h3⟩
        · exact ⟨blk, hb, hl⟩
        · exact ⟨bi, h3, li⟩
      obtain ⟨b1, q1, q2⟩ := old i bi hi li
      obtain ⟨b2, q3, q4⟩ := old j bj hj lj
      exact hs.inj i j b1 b2 c x y q1 q3 q2 q4 ei ej
    · rcases get_set hi with ⟨rfl, rfl, _⟩ | ⟨_, h3⟩
      · exact hs.dis _ blk c x hb hl ei
      · exact hs.dis i bi c x h3 li ei
    · rcases get_set h1 with ⟨rfl, e, _⟩ | ⟨hne, h3⟩
      · obtain ⟨rfl, hm⟩ := hmp ag l e.symm
        exact ⟨a_, hρ, hm.lt, hm⟩
      · obtain ⟨a', e, hlt, hm⟩ := hs.maps id ag l h3
        have hne' : a' ≠ a_ := fun e' => by
          subst e'
          exact hne (hs.inj id b _ blk a' 0 base h3 hb trivial hl e hρ)
        exact ⟨a', e, by omega, hm.step (fun _ h => h) (fun k hk => hbl k (fun e => by subst e; exact hdis.1 hk)) (hbl a' hne')⟩
theorem setCells_map (g : Nat) (es : Array MapEntry) (c a : Nat) : ∀ (vs : List Value) (o : Nat) (w : World), w.heap[a]? = some (.map es c) → (w.setCells g o vs).heap[a]? = some (.map es c)
  | [], _, _, h => h
  | v :: r, o, w, h => setCells_map g es c a r (o + 1) _ (by
    simp only [World.setCell, Array.getElem?_modify, h]
    split <;> rfl)
theorem stays_setCells (w : World) (g o : Nat) (vs : List Value) : Stays w (w.setCells g o vs) := ⟨fun x hx => ⟨World.isSome_setCells g vs o w x hx, World.frozen?_setCells g vs o w x⟩, fun a es c h => ⟨es, c, setCells_map g es c a vs o w h, fun i e h => ⟨e, h, rfl, rfl⟩⟩⟩
theorem setCells_keep (w : World) (g : Nat) : ∀ (vs : List Value) (o : Nat) (w : World), (w.setCells g o vs).os = w.os ∧ (w.setCells g o vs).tape = w.tape ∧ (w.setCells g o vs).output = w.output ∧ (w.setCells g o vs).heap.size = w.heap.size ∧ ∀ k, k ≠ g → (w.setCells g o vs).heap[k]? = w.heap[k]?
  | [], o, w => ⟨rfl, rfl, rfl, rfl, fun _ _ => rfl⟩
  | v :: r, o, w => by
    obtain ⟨h1, h2, h3, h4, h5⟩ := setCells_keep w g r (o + 1) (w.setCell ⟨g, o, none⟩ v)
    refine ⟨h1, h2, h3, by rw [World.setCells, h4]; simp [World.setCell], fun k hk => ?_⟩
    rw [World.setCells, h5 k hk]
    exact RowKit.Below.heap_setCell w ⟨g, o, none⟩ v k hk
theorem setSeg_get : ∀ (vs : List C) (row : List C) (j q : Nat) (x : C), (setSeg row j vs)[q]? = some x → (q < j ∨ j + vs.length ≤ q) ∧ row[q]? = some x ∨ ∃ r, q = j + r ∧ vs[r]? = some x
  | [], row, j, q, x, h => by
    refine .inl ⟨by simp; omega, h⟩
  | c :: vs, row, j, q, x, h => by
    simp only [setSeg] at h
    rcases setSeg_get vs (row.set j c) (j + 1) q x h with ⟨h1, h2⟩ | ⟨r, h1, h2⟩
    · rw [List.getElem?_set] at h2
      by_cases hj : j = q
      · subst hj
        by_cases hl : j < row.length
        · simp only [hl, if_true, Option.some.injEq] at h2
          exact .inr ⟨0, by omega, by simp [h2]⟩
        · simp [hl] at h2
      · simp only [hj, if_false] at h2
        exact .inl ⟨by simp; omega, h2⟩
    · exact .inr ⟨r + 1, by omega, by simpa using h2⟩
theorem setSeg_len : ∀ (vs : List C) (row : List C) (j : Nat), (setSeg row j vs).length = row.length
  | [], _, _ => rfl
  | c :: vs, row, j => by simp [setSeg, setSeg_len vs]
theorem setG_map : ∀ (gs : List G) (row : List G) (j : Nat), (setG row j gs).map C.g = setSeg (row.map C.g) j (gs.map C.g)
  | [], _, _ => rfl
  | c :: gs, row, j => by simp [setG, setSeg, setG_map gs, List.map_set]
variable {wr : Option (List Nat × Nat)} {er : Bool} {o : Oper} {k : A → Mem → Tree} {Q : Exit → Act → World → Prop}
/-- The cells of element i, from place j on, are others. -/
theorem store_core {t : TypeId} {X Y : Operand} {n b i j a_ base : Nat} {blk blk' : Blk} {row : List C} {v : V1} (hop : o.op = .store t X Y) (hsz : size? P t = some n) (hA : At E m w ts a) (hb : m[b]? = some blk) (hl : blk.live) (hl' : blk'.live) (hρ : E.ρ b = some (a_, base)) (hW : okW wr b = true)
    (hX : a.eval X = .pointer (some (at_ a_ (base + (i * blk.es + j))))) (hv : V1Rep E m w v (a.eval Y)) (hn : v ≠ .c .any) (hvn : v.cells.length = n) (hi : blk.rows[i]? = some row) (hj : j + n ≤ row.length)
    (hes : blk'.es = blk.es) (hrows : blk'.rows = blk.rows.set i (setSeg row j v.cells)) (h : Holds P I p (k (.one (.c .any)) (m.set b blk'))) : LRes P I p E m w wr a o k Q := by
  obtain ⟨c1, c2⟩ := cells_rep hv hn
  rcases hA.sat.rep b blk hb hl with ⟨e, _⟩ | ⟨a', base', e, g1, g2, g3⟩
  · rw [e] at hρ; cases hρ
  rw [e] at hρ
  cases hρ
  have hrow := g3 i row hi
  have hilt : i < blk.rows.length := (List.getElem?_eq_some_iff.1 hi).1
  have hsn : (a.eval Y).cells.size = n := by rw [c1.1, hvn]
  have hmul : (i + 1) * blk.es ≤ blk.rows.length * blk.es := Nat.mul_le_mul_right _ hilt
  rw [Nat.add_mul] at hmul
  have hth : ∀ q, q < n → (w.cell? ⟨a_, base + (i * blk.es + j) + q, none⟩).isSome = true ∧ w.frozen? ⟨a_, base + (i * blk.es + j) + q, none⟩ = false := fun q hq => by
    have := g1 (i * blk.es + j + q) (by have := hrow.1; omega)
    rw [Nat.add_assoc]
    exact this
  intro K hK
  have hrun : (execOp a.eval o).run P w = .ok .skip (w.setCells a_ (base + (i * blk.es + j)) (a.eval Y).cells.toList) := by
    have hst := run_storeCells_cells (P := P) a_ (base + (i * blk.es + j)) (a.eval Y).cells.toList 0 w (fun q hq => by simpa using (hth q (by simpa [hsn] using hq)).1) (fun q hq => by simpa using (hth q (by simpa [hsn] using hq)).2) c2
    simp only [Nat.add_zero] at hst
    simp only [execOp, hop, hX, Instr.storeAt, Instr.sureAddr, Sem.run_bind, Sem.run_pure, Result.andThen_ok, storeVar, size_run hsz, hsn, ne_eq, not_true_eq_false, if_false]
    unfold at_
    rw [hst]
    rfl
  obtain ⟨k1, k2, k3, k4, k5⟩ := setCells_keep w a_ (a.eval Y).cells.toList (base + (i * blk.es + j)) w
  have hg := write_grow (w' := w.setCells a_ (base + (i * blk.es + j)) (a.eval Y).cells.toList) (Wt := fun b => okW wr b = true) (hmp := fun _ _ e => by subst e; have h1 := congrArg List.length hrows; rw [List.length_set] at h1; have h2 : (0 : Nat) = blk.rows.length := h1; omega) hA.sat hb hl hl' e hW k1 k2 k3 k4 k5 (stays_setCells _ _ _ _) (by rw [hrows]; simp) hes (fun i' row' hi' => by
    rw [hrows, List.getElem?_set] at hi'
    by_cases hii : i = i'
    · subst hii
      simp only [hilt, if_true, Option.some.injEq] at hi'
      subst hi'
      refine ⟨by rw [setSeg_len, hes]; exact hrow.1, fun q x hq => ?_⟩
      rw [hes]
      rcases setSeg_get _ _ _ _ _ hq with ⟨h1, h2⟩ | ⟨r, rfl, h2⟩
      · obtain ⟨u, q1, q2⟩ := hrow.2 q x h2
        refine ⟨u, ?_, q2⟩
        rw [World.cell?_setCells_out a_ _ _ w _ (fun _ _ => ?_)]
        · exact q1
        · simp only [at_, Array.length_toList, hsn]
          rw [hvn] at h1
          omega
      · obtain ⟨u, q1, q2⟩ := c1.2 r x h2
        obtain ⟨hrl, hru⟩ := Array.getElem?_eq_some_iff.1 q1
        have := World.cell?_setCells_in a_ (a.eval Y).cells.toList (base + (i * blk.es + j)) w (fun q hq => (hth q (by simpa [hsn] using hq)).1) r (by simpa using hrl)
        refine ⟨u, ?_, q2⟩
        rw [show base + (i * blk.es + (j + r)) = base + (i * blk.es + j) + r by omega]
        unfold at_
        rw [this]
        simp [hru]
    · simp only [hii, if_false] at hi'
      obtain ⟨h1, h2⟩ := g3 i' row' hi'
      refine ⟨by rw [hes]; exact h1, fun q x hq => ?_⟩
      rw [hes]
      obtain ⟨u, q1, q2⟩ := h2 q x hq
      refine ⟨u, ?_, q2⟩
      rw [World.cell?_setCells_out a_ _ _ w _ (fun _ _ => ?_)]
      · exact q1
      · simp only [at_, Array.length_toList, hsn]
        have hql : q < blk.es := by rw [← h1]; exact (List.getElem?_eq_some_iff.1 hq).1
        have hjl := hrow.1
        rcases Nat.lt_or_gt_of_ne hii with hlt | hlt
        · have := Nat.mul_le_mul_right blk.es (show i + 1 ≤ i' from hlt)
          rw [Nat.add_mul] at this
          omega
        · have := Nat.mul_le_mul_right blk.es (show i' + 1 ≤ i from hlt)
          rw [Nat.add_mul] at this
          omega)
  unfold Oper.wp
  rw [hrun]
  exact hK _ _ _ _ _ h hg.1 hg.2 (.inl rfl)
theorem stq_sim {t : TypeId} {X Y : Operand} {n b es j : Nat} {i : NN} {v : V1} (hI : I = ints) (hop : o.op = .store t X Y) (hsz : size? P t = some n) (hA : At E m w ts a) (hc : C.ptr b i es j = .any ∨ CRep E m w (.ptr b i es j) (a.eval X)) (hv : V1Rep E m w v (a.eval Y)) (hn : v ≠ .c .any) (hW : okW wr b = true)
    (h : Holds P I p (stq I n (.ptr b i es j) v m fun m => k (.one (.c .any)) m)) : LRes P I p E m w wr a o k Q := by
  unfold stq at h
  split at h
  · rename_i b' i' es' j' hlen heq
    cases heq
    have hvn : v.cells.length = n := by simpa using hlen
    rcases hc with hc | ⟨hb, a_, base, h1, h2⟩
    · cases hc
    cases hm : m[b]? with
    | none => simp only [hm] at h; exact (holds_fail h).elim
    | some blk =>
      simp only [hm] at h
      cases blk with
      | dead => exact (holds_fail h).elim
      | mp _ _ => exact (holds_fail h).elim
      | lit es' rows =>
        cases i with
        | sym i => exact (holds_fail h).elim
        | lit i =>
          simp only at h
          split at h
          · rename_i i'' heq he
            cases heq
            obtain rfl : es = es' := by simpa using he
            cases hr : rows[i]? with
            | none => simp only [hr] at h; exact (holds_fail h).elim
            | some row =>
              simp only [hr] at h
              split at h
              · rename_i hj
                exact store_core hop hsz hA hm trivial (blk' := .lit es (rows.set i (setSeg row j v.cells))) trivial h1 hW h2 hv hn hvn hr (of_decide_eq_true hj) rfl rfl h
              · exact (holds_fail h).elim
          · exact (holds_fail h).elim
      | sym es' l =>
        simp only at h
        split at h
        · rename_i gs he hgs
          obtain rfl : es = es' := by simpa using he
          cases h with
          | nth r hr h =>
          dsimp only at h
          split at h
          · rename_i hj
            subst hI
            have hg := grounds_map hgs
            have hsy : v.sy.cells = (gs.map G.sy).map C.g := by
              have h3 : v.sy.cells = v.cells.map C.sy := by cases v <;> rfl
              rw [h3, ← hg, List.map_map, List.map_map]
              refine List.map_congr_left fun x _ => ?_
              cases x <;> rfl
            have hvn' : v.sy.cells.length = n := by rw [hsy, ← hvn, ← hg]; simp
            refine store_core hop hsz hA hm trivial (blk' := .sym es (l.set i.val (setG r j (gs.map G.sy)))) trivial h1 hW h2 (V1_sy hv) (fun e => hn (by cases v with | c x => (cases x with | g x => (cases x <;> cases e) | _ => (first | rfl | cases e)) | agg l => cases e)) hvn' (row := r.map C.g) (by simp [Blk.rows, hr]) (by simpa using of_decide_eq_true hj) rfl ?_ h
            simp only [Blk.rows, List.map_set, setG_map, hsy]
          · exact (holds_fail h).elim
        · exact (holds_fail h).elim
  · exact (holds_fail h).elim
end
end Go.Proofs.Ytccfcenhpmdemaa.E
