/- Operations that make or write memory. -/
import Derived.Test.YtccfcenhpmdemaaE5
import Derived.IntWalk
namespace Go.Proofs.Ytccfcenhpmdemaa.E
open Go
set_option linter.unusedVariables false

def Env.add (E : Env) (n : Nat) (r : Option (Nat × Nat)) : Env := { E with ρ := fun id => if id = n then r else E.ρ id }

section
variable {P : Program} {I : Ints} {p : Nat} {E : Env} {m : Mem} {w w' : World} {ts : List A} {a : Act}
variable {Wt : Nat → Prop}

/-- A live block's row is there. -/
theorem blk_lt (hs : Sat E m w) {b a_ base : Nat} {blk : Blk} (hb : m[b]? = some blk) (hl : blk.live) (hr : E.ρ b = some (a_, base)) : a_ < w.heap.size := by
  rcases hs.rep b blk hb hl with ⟨e, _⟩ | ⟨a', base', e, _, h, _⟩
  · rw [e] at hr; cases hr
  · rw [e] at hr; cases hr; exact h
theorem get_append {m : Mem} {blk blk' : Blk} {id : Nat} (h : (m ++ [blk])[id]? = some blk') : (id < m.length ∧ m[id]? = some blk') ∨ (id = m.length ∧ blk' = blk) := by
  rw [List.getElem?_append] at h
  split at h
  · exact .inl ⟨by assumption, h⟩
  · rename_i hlt
    cases hq : id - m.length with
    | zero => rw [hq] at h; simp at h; exact .inr ⟨by omega, h.symm⟩
    | succ n => rw [hq] at h; simp at h
/-- A name is added, for a row in a block that no live name has (r), or for no row at all. -/
theorem add_grow (hs : Sat E m w) {blk : Blk} {r : Option (Nat × Nat)} (hsz : w.heap.size ≤ w'.heap.size) (hos : w'.os = w.os) (htp : w'.tape = w.tape) (hou : w'.output = w.output) (hst : Stays w w')
    (hbl : ∀ k, k < w.heap.size → w'.heap[k]? = w.heap[k]?) (hr : ∀ a_ base, r = some (a_, base) → w.heap.size ≤ a_)
    (hrep : blk.live → (r = none ∧ blk.rows = []) ∨ ∃ a_ base, r = some (a_, base) ∧ w'.there a_ base (blk.rows.length * blk.es) ∧ a_ < w'.heap.size ∧ ∀ (i : Nat) (row : List C), blk.rows[i]? = some row → row.length = blk.es ∧ ∀ (j : Nat) (x : C), row[j]? = some x → ∃ u, w'.cell? (at_ a_ (base + (i * blk.es + j))) = some u ∧ CRep E m w x u)
    (hmp : ∀ ag l, blk = .mp ag l → ∃ a_, r = some (a_, 0) ∧ MapAt w' E.F ag l a_ := by intro _ _ h; cases h) :
    Grow Wt E m w (E.add m.length r) (m ++ [blk]) w' ∧ Sat (E.add m.length r) (m ++ [blk]) w' := by
  have hρ : ∀ id, id < m.length → (E.add m.length r).ρ id = E.ρ id := fun id h => if_neg (by omega)
  have hρn : (E.add m.length r).ρ m.length = r := if_pos rfl
  have step : Step E m w (E.add m.length r) (m ++ [blk]) w' :=
    { F := fun _ h => h, B := fun _ h => h, ρ := hρ, len := by simp
      shape := fun id blk' hid hb hl => by
        rw [List.getElem?_append_left hid] at hb
        exact ⟨blk', hb, hl, rfl, rfl⟩
      frz := fun k hk => hbl k (hs.old k hk)
      stays := hst }
  refine ⟨{ toStep := step, B' := fun _ h => h, os := hos, tape := htp, output := hou, size := hsz, block := fun k hk _ => hbl k hk, newF := fun k hk => .inl hk, newρ := fun id a_ x blk' hid hb hl he => ?_ }, ?_⟩
  · rcases get_append hb with ⟨h1, _⟩ | ⟨h1, _⟩
    · omega
    · subst h1
      rw [hρn] at he
      exact .inl (hr _ _ he)
  · refine ⟨fun id blk' hb hl => ?_, fun i j bi bj a_ x y hi hj li lj ei ej => ?_, fun i bi a_ x hi li ei => ?_, fun k hk => Nat.lt_of_lt_of_le (hs.old k hk) hsz, fun id ag l hb => ?_⟩
    · rcases get_append hb with ⟨h1, h2⟩ | ⟨rfl, rfl⟩
      · rw [hρ id h1]
        rcases hs.rep id blk' h2 hl with h | ⟨a_, base, e, g1, g2, g3⟩
        · exact .inl h
        · rw [e]
          exact BRep.step_rep step (hbl a_ g2) hsz (fun _ => .inr ⟨a_, base, rfl, g1, g2, g3⟩) hl
      · rw [hρn]
        rcases hrep hl with h | ⟨a_, base, e, g1, g2, g3⟩
        · exact .inl h
        · exact .inr ⟨a_, base, e, g1, g2, fun i row hi => ⟨(g3 i row hi).1, fun j x hj => let ⟨u, q1, q2⟩ := (g3 i row hi).2 j x hj; ⟨u, q1, q2.step step⟩⟩⟩
    · rcases get_append hi with ⟨h1, h2⟩ | ⟨h1, h2⟩ <;> rcases get_append hj with ⟨h3, h4⟩ | ⟨h3, h4⟩
      · rw [hρ i h1] at ei
        rw [hρ j h3] at ej
        exact hs.inj i j bi bj a_ x y h2 h4 li lj ei ej
      · subst h3
        rw [hρ i h1] at ei
        rw [hρn] at ej
        have := blk_lt hs h2 li ei
        have := hr _ _ ej
        omega
      · subst h1
        rw [hρ j h3] at ej
        rw [hρn] at ei
        have := blk_lt hs h4 lj ej
        have := hr _ _ ei
        omega
      · omega
    · rcases get_append hi with ⟨h1, h2⟩ | ⟨h1, h2⟩
      · rw [hρ i h1] at ei
        exact hs.dis i bi a_ x h2 li ei
      · subst h1
        rw [hρn] at ei
        have := hr _ _ ei
        exact ⟨fun h => by have := hs.old a_ (.inl h); omega, fun h => by have := hs.old a_ (.inr h); omega⟩
    · rcases get_append hb with ⟨h1, h2⟩ | ⟨h1, h2⟩
      · obtain ⟨a_, e, hlt, hm⟩ := hs.maps id ag l h2
        exact ⟨a_, by rw [hρ id h1]; exact e, by omega, hm.step (fun _ h => h) (fun k hk => hbl k (hs.old k (.inl hk))) (hbl a_ hlt)⟩
      · obtain ⟨a_, e, hm⟩ := hmp ag l h2.symm
        subst h1
        exact ⟨a_, hρn.trans e, hm.lt, hm⟩
theorem stays_below (hbl : ∀ k, k < w.heap.size → w'.heap[k]? = w.heap[k]?) : Stays w w' := by
  refine ⟨fun x hx => ?_, fun a es c h => ⟨es, c, (hbl a (Array.getElem?_eq_some_iff.1 h).1).trans h, fun i e h => ⟨e, h, rfl, rfl⟩⟩⟩
  have hlt : x.block < w.heap.size := by
    rcases Nat.lt_or_ge x.block w.heap.size with h | h
    · exact h
    · simp [World.cell?, Array.getElem?_eq_none h] at hx
  have h1 : w'.cell? x = w.cell? x := World.cell?_of_block (hbl _ hlt)
  have h2 : w'.frozen? x = w.frozen? x := World.frozen?_of_block (hbl _ hlt)
  exact ⟨by rw [h1]; exact hx, h2⟩
/-- A new block. -/
theorem new_grow (hs : Sat E m w) {blk : Blk} {g : Nat} {cs : Array Value} {ty : TypeId} (hl : blk.live) (hg : w.heap.size ≤ g) (hc : w'.heap[g]? = some (.cells cs ty (0, 0))) (hbl : ∀ k, k < w.heap.size → w'.heap[k]? = w.heap[k]?)
    (hsz : w.heap.size ≤ w'.heap.size) (hos : w'.os = w.os) (htp : w'.tape = w.tape) (hou : w'.output = w.output) (hn : blk.rows.length * blk.es ≤ cs.size)
    (hrows : ∀ (i : Nat) (row : List C), blk.rows[i]? = some row → row.length = blk.es ∧ ∀ (j : Nat) (x : C), row[j]? = some x → ∃ u, cs[i * blk.es + j]? = some u ∧ CRep E m w x u)
    (hnm : ∀ ag l, blk ≠ .mp ag l := by intro _ _ h; cases h) :
    Grow Wt E m w (E.add m.length (some (g, 0))) (m ++ [blk]) w' ∧ Sat (E.add m.length (some (g, 0))) (m ++ [blk]) w' := by
  have hcell : ∀ off, w'.cell? (at_ g off) = cs[off]? := fun off => by simp [World.cell?, at_, hc]
  have hglt : g < w'.heap.size := (Array.getElem?_eq_some_iff.1 hc).1
  refine add_grow hs hsz hos htp hou (stays_below hbl) hbl (fun a_ base e => by cases e; exact hg) (fun _ => .inr ⟨g, 0, rfl, fun j hj => ?_, hglt, fun i row hi => ⟨(hrows i row hi).1, fun j x hj => ?_⟩⟩) (fun ag l h => (hnm ag l h).elim)
  · have h1 : w'.cell? ⟨g, 0 + j, none⟩ = cs[0 + j]? := hcell (0 + j)
    rw [h1]
    refine ⟨by simp; omega, by simp [World.frozen?, hc]⟩
  · obtain ⟨u, h1, h2⟩ := (hrows i row hi).2 j x hj
    exact ⟨u, by rw [hcell, Nat.zero_add]; exact h1, h2⟩
/-- The same, for a block that is made by the operation. -/
theorem alloc_grow (hs : Sat E m w) {blk : Blk} {cs : Array Value} {ty : TypeId} (hl : blk.live) (hn : blk.rows.length * blk.es ≤ cs.size)
    (hrows : ∀ (i : Nat) (row : List C), blk.rows[i]? = some row → row.length = blk.es ∧ ∀ (j : Nat) (x : C), row[j]? = some x → ∃ u, cs[i * blk.es + j]? = some u ∧ CRep E m w x u)
    (hnm : ∀ ag l, blk ≠ .mp ag l := by intro _ _ h; cases h) :
    Grow Wt E m w (E.add m.length (some (w.heap.size, 0))) (m ++ [blk]) (w.alloc (.cells cs ty)) ∧ Sat (E.add m.length (some (w.heap.size, 0))) (m ++ [blk]) (w.alloc (.cells cs ty)) :=
  new_grow hs hl (Nat.le_refl _) (heap_alloc_new w _) (fun k hk => heap_alloc_old w _ hk) (by simp) rfl rfl rfl hn hrows hnm
variable {wr : Option (List Nat × Nat)} {er : Bool} {o : Oper} {k : A → Mem → Tree} {Q : Exit → Act → World → Prop}
/-- An operation that may change the memory. -/
def LRes (P : Program) (I : Ints) (p : Nat) (E : Env) (m : Mem) (w : World) (wr : Option (List Nat × Nat)) (a : Act) (o : Oper) (k : A → Mem → Tree) (Q : Exit → Act → World → Prop) : Prop :=
  ∀ K : Act → World → Prop, (∀ av v E' m' w', Holds P I p (k av m') → Grow (fun b => okW wr b = true) E m w E' m' w' → Sat E' m' w' → ARep E' m' w' av v → K (a.put o.dst v) w') → o.wp P a w K Q
theorem l_box {t : TypeId} {X : Operand} {x : Opd} (hop : o.op = .box t X) (ho : opd X = some x) (hA : At E m w ts a) (h : Holds P I p (evOp I er wr (.box x) ts m k)) : LRes P I p E m w wr a o k Q := by
  obtain ⟨c, hc, hn, h⟩ := evV_inv ho hA h
  obtain ⟨c1, c2⟩ := cells_rep hc hn
  intro K hK
  have hg := alloc_grow (Wt := fun b => okW wr b = true) (ty := t) (blk := .lit c.cells.length [c.cells]) (cs := (a.eval X).cells) hA.sat trivial (by simp [Blk.rows, Blk.es, c1.1]) (fun i row hi => by
    cases i with
    | zero =>
      simp [Blk.rows] at hi
      subst hi
      exact ⟨rfl, fun j x hj => by simpa [Blk.es] using c1.2 j x hj⟩
    | succ i => simp [Blk.rows] at hi)
  have hrun : (execOp a.eval o).run P w = .ok (.value (.pointer (some ⟨w.heap.size, 0, none⟩))) (w.alloc (.cells (a.eval X).cells t)) := by
    simp [execOp, hop, Instr.box, newVar, newRow]
  unfold Oper.wp
  rw [hrun]
  refine hK _ _ _ _ _ h hg.1 hg.2 (.inr ⟨by simp, w.heap.size, 0, if_pos rfl, ?_⟩)
  simp [at_]
theorem l_alloc {t : TypeId} {z : List C} (hop : o.op = .alloc t) (hz : zero P t = some z) (hA : At E m w ts a) (h : Holds P I p (evOp I er wr (.alloc z) ts m k)) : LRes P I p E m w wr a o k Q := by
  obtain ⟨i, v, h1, h2, h3, c1, c2⟩ := zero_rep hz E m w
  intro K hK
  have hg := alloc_grow (Wt := fun b => okW wr b = true) (ty := t) (blk := .lit z.length [z]) (cs := v.cells) hA.sat trivial (by simp [Blk.rows, Blk.es, c1.1]) (fun i row hi => by
    cases i with
    | zero =>
      simp [Blk.rows] at hi
      subst hi
      exact ⟨rfl, fun j x hj => by simpa [Blk.es] using c1.2 j x hj⟩
    | succ i => simp [Blk.rows] at hi)
  have hrun : (execOp a.eval o).run P w = .ok (.value (.pointer (some ⟨w.heap.size, 0, none⟩))) (w.alloc (.cells v.cells t)) := by
    simp [execOp, hop, Instr.alloc, zeroValue, typeInfo, h1, h2, newVar, newRow]
  unfold Oper.wp
  rw [hrun]
  refine hK _ _ _ _ _ h hg.1 hg.2 (.inr ⟨by simp, w.heap.size, 0, if_pos rfl, ?_⟩)
  simp [at_]
theorem there_alloc {cs : Array Value} {ty : TypeId} {n : Nat} (h : n ≤ cs.size) : (w.alloc (.cells cs ty)).there w.heap.size 0 n := fun j hj => by
  have hc : (w.alloc (.cells cs ty)).heap[w.heap.size]? = some (.cells cs ty (0, 0)) := heap_alloc_new w _
  have h1 : (w.alloc (.cells cs ty)).cell? ⟨w.heap.size, 0 + j, none⟩ = cs[0 + j]? := by simp only [World.cell?, hc, Option.isSome_none, Bool.false_eq_true, if_false]
  rw [h1]
  refine ⟨by simp; omega, by simp only [World.frozen?, hc]; simp⟩
/-- Elements one behind the other. -/
theorem rows_flat {cs : List C} {es n : Nat} (hl : cs.length = n * es) {i : Nat} {row : List C} (hi : ((List.range n).map fun i => (cs.drop (i * es)).take es)[i]? = some row) : row.length = es ∧ ∀ (j : Nat) (x : C), row[j]? = some x → cs[i * es + j]? = some x := by
  rw [List.getElem?_map] at hi
  cases hr : (List.range n)[i]? with
  | none => simp [hr] at hi
  | some q =>
    obtain ⟨hlt, hq⟩ := List.getElem?_eq_some_iff.1 hr
    simp at hlt hq
    subst hq
    simp [hr] at hi
    subst hi
    have : (i + 1) * es ≤ n * es := Nat.mul_le_mul_right es hlt
    rw [Nat.add_mul] at this
    refine ⟨by simp; omega, fun j x hj => ?_⟩
    rw [List.getElem?_take] at hj
    split at hj
    · rwa [List.getElem?_drop] at hj
    · cases hj
theorem compParts_build : ∀ {ps : List (Nat × Operand)} {l : List (Nat × Opd)} {es : Nat} {k : List (Nat × Nat × V1) → Tree}, compParts ps = some l → At E m w ts a → Holds P I p (evParts ts (l.map fun (i, x) => (i * es, es, x)) k) → ∃ vs, Parts E m w a (fun i => some (i * es, es)) ps vs ∧ Holds P I p (k vs)
  | [], l, es, k, hc, hA, h => by cases hc; exact ⟨[], .nil, h⟩
  | (i, X) :: ps, l, es, k, hc, hA, h => by
    simp only [compParts] at hc
    split at hc
    · rename_i x l' hx hl
      cases hc
      obtain ⟨v, h1, h2, h3⟩ := evV_inv hx hA h
      obtain ⟨vs, h4, h5⟩ := compParts_build hl hA h3
      exact ⟨_, .cons rfl h1 h2 h4, h5⟩
    · cases hc
theorem zeros_rep {z : List C} {zc : Array Value} (h : CellsRep E m w z zc) (hn : 0 < z.length) (n : Nat) : CellsRep E m w (List.replicate n z).flatten ((Array.range (n * z.length)).map (zc[· % zc.size]!)) := by
  have hlen : (List.replicate n z).flatten.length = n * z.length := by simp
  refine ⟨by simp, fun i x hi => ?_⟩
  have hilt : i < n * z.length := by rw [← hlen]; exact (List.getElem?_eq_some_iff.1 hi).1
  have hx : z[i % z.length]? = some x := by
    have key : ∀ n i, i < n * z.length → (List.replicate n z).flatten[i]? = z[i % z.length]? := by
      intro n
      induction n with
      | zero => intro i h; simp at h
      | succ n ih =>
        intro i h
        rw [List.replicate_succ, List.flatten_cons, List.getElem?_append]
        split
        · rename_i hlt
          rw [Nat.mod_eq_of_lt hlt]
        · rename_i hge
          rw [Nat.add_mul] at h
          rw [ih (i - z.length) (by omega), ← Nat.mod_eq_sub_mod (by omega)]
    rw [← key n i hilt]
    exact hi
  obtain ⟨u, h1, h2⟩ := h.2 _ x hx
  refine ⟨u, ?_, h2⟩
  have hs : zc.size = z.length := h.1
  have hlt : i % zc.size < zc.size := Nat.mod_lt _ (by omega)
  rw [hs] at hlt
  simp only [Array.getElem?_map, Array.getElem?_range]
  simp only [hilt, if_true, Option.map_some, hs]
  rw [Array.getElem!_eq_getD, Array.getD_eq_getD_getElem?, h1]
  rfl
theorem range0 (f : Nat → Value) : (Array.range 0).map f = #[] := Array.eq_empty_of_size_eq_zero (by simp)
theorem run_build0 (w : World) (t e : TypeId) (parts : Array (Nat × Value)) (cells : Array Value) (ie : TypeInfo)
    (hu : P.underlying t = some (.slice e)) (hie : P.info? e = some ie) (h : Instr.fill (fun i => some (i * ie.size, ie.size)) #[] parts.toList = some cells) :
    (Instr.buildSlice t 0 parts).run P w = .ok (.slice (some ⟨w.heap.size, 0, none⟩) 0 0) (w.alloc (.cells cells e)) := by
  have h' : ∀ f : Nat → Value, Instr.fill (fun i => some (i * ie.size, ie.size)) ((Array.range 0).map f) parts.toList = some cells := fun f => by
    rw [range0 f]
    exact h
  simp [Instr.buildSlice, run_underlying hu, sizeOf, typeInfo, hie, h', newRow]
theorem run_build (w : World) (t e : TypeId) (n : Nat) (parts : Array (Nat × Value)) (cells : Array Value) (ie : TypeInfo) (z : Value)
    (hu : P.underlying t = some (.slice e)) (hie : P.info? e = some ie) (hz : ie.zero = some z) (hsmall : ¬ n * ie.size > 2 ^ 24) (h0 : 0 < ie.size)
    (h : Instr.fill (fun i => some (i * ie.size, ie.size)) ((Array.range (n * ie.size)).map (z.cells[· % z.cells.size]!)) parts.toList = some cells) :
    (Instr.buildSlice t n parts).run P w = .ok (.slice (some ⟨w.heap.size, 0, none⟩) n n) (w.alloc (.cells cells e)) := by
  cases n with
  | zero =>
    rw [Nat.zero_mul, range0] at h
    exact run_build0 w t e parts cells ie hu hie h
  | succ n => exact run_buildSlice w t e (n + 1) parts cells ie z hu hie hz hsmall (Nat.ne_of_gt (Nat.mul_pos (Nat.succ_pos n) h0)) h
theorem buildSlice_core {t e : TypeId} {es n : Nat} {ps : Array (Nat × Operand)} {z : List C} {vs : List (Nat × Nat × V1)} (hop : o.op = .buildSlice t n ps) (ht : P.underlying t = some (.slice e)) (hs : size? P e = some es) (hz : zero P e = some z) (hP : Parts E m w a (fun i => some (i * es, es)) ps.toList vs)
    (h0 : 0 < es) (hsm : n * es ≤ 2 ^ 24) (hA : At E m w ts a) (h : Holds P I p (match places (List.replicate n z).flatten vs with
      | some cs => k (.one (.c (.row m.length es (some (.lit n))))) (m ++ [.lit es ((List.range n).map fun i => (cs.drop (i * es)).take es)])
      | none => .fail)) : LRes P I p E m w wr a o k Q := by
  obtain ⟨ie, zv, h1, h2, h3, c1, c2⟩ := zero_rep hz E m w
  have hes : ie.size = es := by unfold size? at hs; simpa [h1] using hs
  have hzl : z.length = es := by rw [← c1.1, h3, hes]
  split at h
  · rename_i cs hcs
    have hz0 := zeros_rep c1 (by omega) n
    rw [hzl] at hz0
    have h1c : ∀ q ∈ ((Array.range (n * es)).map (zv.cells[· % zv.cells.size]!)).toList, q.oneCell' = true := fun q hq => by
      obtain ⟨j, hj⟩ := List.mem_iff_getElem?.1 hq
      have hj' : ((Array.range (n * es)).map (zv.cells[· % zv.cells.size]!))[j]? = some q := by rw [← Array.getElem?_toList]; exact hj
      obtain ⟨hlt, -⟩ := Array.getElem?_eq_some_iff.1 hj'
      obtain ⟨x, hx⟩ : ∃ x, (List.replicate n z).flatten[j]? = some x := ⟨(List.replicate n z).flatten[j]'(by rw [← hz0.1]; exact hlt), List.getElem?_eq_getElem _⟩
      obtain ⟨u, h3, h4⟩ := hz0.2 j x hx
      rw [hj'] at h3
      cases h3
      exact h4.one
    obtain ⟨cells, g1, g2⟩ := fill_places hP hcs hz0 h1c
    have hclen : cs.length = n * es := by
      have key : ∀ (vs : List (Nat × Nat × V1)) (z cs : List C), places z vs = some cs → cs.length = z.length := by
        intro vs
        induction vs with
        | nil => intro z cs h; cases h; rfl
        | cons v vs ih =>
          obtain ⟨off, n, v⟩ := v
          intro z cs h
          simp only [places] at h
          split at h
          · rw [ih _ _ h]
            have : ∀ (l : List C) (r : List C) (j : Nat), (setSeg r j l).length = r.length := by
              intro l
              induction l with
              | nil => intro r j; rfl
              | cons c l ih => intro r j; simp [setSeg, ih]
            exact this _ _ _
          · cases h
      rw [key _ _ _ hcs]
      simp [hzl]
    intro K hK
    have hg := alloc_grow (Wt := fun b => okW wr b = true) (ty := e) (blk := .lit es ((List.range n).map fun i => (cs.drop (i * es)).take es)) (cs := cells) hA.sat trivial (by simp [Blk.rows, Blk.es, g2.1, hclen]) (fun i row hi => by
      obtain ⟨q1, q2⟩ := rows_flat hclen hi
      exact ⟨q1, fun j x hj => g2.2 _ x (q2 j x hj)⟩)
    have hrun : (execOp a.eval o).run P w = .ok (.value (.slice (some ⟨w.heap.size, 0, none⟩) n n)) (w.alloc (.cells cells e)) := by
      have := run_build (P := P) w t e n (ps.map fun (i, x) => (i, a.eval x)) cells ie zv ht h1 h2 (by rw [hes]; omega) (by omega) (by rw [hes, Array.toList_map]; exact g1)
      simp [execOp, hop, this]
    unfold Oper.wp
    rw [hrun]
    refine hK _ _ _ _ _ h hg.1 hg.2 (.inr ⟨by simp, rfl, fun blk hb hl => ?_⟩)
    simp at hb
    subst hb
    refine ⟨rfl, fun c' hc' => by cases hc'; simp [Blk.rows], .inr ⟨w.heap.size, 0, n, if_pos rfl, by simp [Blk.rows, at_], by simp [Blk.rows], fun c' hc' => by cases hc'; rfl, fun j hj => ?_⟩⟩
    exact there_alloc (by rw [g2.1, hclen]; omega) j hj
  · exact (holds_fail h).elim
theorem grounds_map : ∀ {l : List C} {g : List G}, grounds l = some g → g.map C.g = l
  | [], g, h => by cases h; rfl
  | .g x :: r, g, h => by
    simp only [grounds] at h
    split at h
    · rename_i l hl
      cases h
      simp [grounds_map hl]
    · cases h
  | .any :: r, g, h => by cases h
  | .bor _ _ :: r, g, h => by cases h
  | .gp _ _ :: r, g, h => by cases h
  | .ptr _ _ _ _ :: r, g, h => by cases h
  | .row _ _ _ :: r, g, h => by cases h
  | .sl _ _ _ _ _ :: r, g, h => by cases h
  | .fn _ _ :: r, g, h => by cases h
theorem zcell {z : List C} {zc : Array Value} {es n i j : Nat} {x : C} (h : CellsRep E m w z zc) (hz : z.length = es) (hi : i < n) (hj : z[j]? = some x) : ∃ u, ((Array.range (n * es)).map (zc[· % zc.size]!))[i * es + j]? = some u ∧ CRep E m w x u := by
  have hjl : j < es := by rw [← hz]; exact (List.getElem?_eq_some_iff.1 hj).1
  have : (i + 1) * es ≤ n * es := Nat.mul_le_mul_right es hi
  rw [Nat.add_mul] at this
  obtain ⟨u, h1, h2⟩ := h.2 j x hj
  refine ⟨u, ?_, h2⟩
  have hs : zc.size = es := by rw [h.1, hz]
  have hmod : (i * es + j) % es = j := by rw [Nat.mul_comm, Nat.mul_add_mod, Nat.mod_eq_of_lt hjl]
  simp only [Array.getElem?_map, Array.getElem?_range]
  rw [if_pos (by omega)]
  simp only [Option.map_some, hs, hmod]
  rw [Array.getElem!_eq_getD, Array.getD_eq_getD_getElem?, h1]
  rfl
theorem run_make_pos {t e : TypeId} {ie : TypeInfo} {zv : Value} (ht : P.underlying t = some (.slice e)) (hi : P.info? e = some ie) (hz : ie.zero = some zv) (h0 : 0 < ie.size) (hb : 0 < ie.bytes) (n c : Nat) (hn : n ≤ c) (hc : c * ie.bytes ≤ 140737488355328) (i j : IntKind) (hc0 : 0 < c) (w : World) :
    (Instr.makeSlice t (.int i (n : Int)) (.int j (c : Int))).run P w = .ok (.slice (some ⟨w.heap.size, 0, none⟩) n c) (w.alloc (.cells ((Array.range (c * ie.size)).map (zv.cells[· % zv.cells.size]!)) e)) := by
  have hcb : c ≤ c * ie.bytes := Nat.le_mul_of_pos_right c hb
  have w1 : IntKind.i64.wrap (n : Int) = (n : Int) := IntWalk.i64_in _ (by omega)
  have w2 : IntKind.i64.wrap (c : Int) = (c : Int) := IntWalk.i64_in _ (by omega)
  have h1 : ¬ ((ie.bytes : Int) * (c : Int) > 2 ^ 48) := by
    rw [Int.mul_comm]
    have this : ((c * ie.bytes : Nat) : Int) ≤ ((140737488355328 : Nat) : Int) := Int.ofNat_le.2 hc
    rw [Int.natCast_mul] at this
    omega
  have hpos : c * ie.size ≠ 0 := by have := Nat.mul_pos hc0 h0; omega
  have hroom : ∀ b w', (askRoom b).run P w' = .ok () w' := fun b w' => by unfold askRoom; split <;> rfl
  have h2 : ¬ ((c : Int) < 0) := by omega
  have h3 : ¬ ((n : Int) < 0) := by omega
  have h4 : ¬ ((n : Int) > (c : Int)) := by omega
  simp [Instr.makeSlice, run_underlying ht, asInt, run_asIntOf, typeInfo, hi, w1, w2, h2, h3, hroom, sizeOf, hpos, zeroValue, hz, newRow]
  intro hx
  exfalso
  rcases hx with hx | hx
  · exact h1 (by have : (2 : Int) ^ 48 = 281474976710656 := rfl; rw [this]; exact hx)
  · omega
theorem run_make {t e : TypeId} {ie : TypeInfo} {zv : Value} (ht : P.underlying t = some (.slice e)) (hi : P.info? e = some ie) (hz : ie.zero = some zv) (h0 : 0 < ie.size) (hb : 0 < ie.bytes) (n c : Nat) (hn : n ≤ c) (hc : c * ie.bytes ≤ 140737488355328) (i j : IntKind) (w : World) :
    (Instr.makeSlice t (.int i (n : Int)) (.int j (c : Int))).run P w = .ok (.slice (some ⟨w.heap.size, 0, none⟩) n c) (w.alloc (.cells ((Array.range (c * ie.size)).map (zv.cells[· % zv.cells.size]!)) e)) := by
  rcases Nat.eq_zero_or_pos c with rfl | hc0
  · obtain rfl : n = 0 := by omega
    have w1 : IntKind.i64.wrap 0 = 0 := IntWalk.i64_in _ (by omega)
    have hroom : ∀ b w', (askRoom b).run P w' = .ok () w' := fun b w' => by unfold askRoom; split <;> rfl
    simp [Instr.makeSlice, run_underlying ht, asInt, run_asIntOf, typeInfo, hi, w1, hroom, sizeOf, newRow]
    rw [show Array.range 0 = (#[] : Array Nat) from by decide, Array.map_empty, Array.map_empty]
  · exact run_make_pos ht hi hz h0 hb n c hn hc i j hc0 w
theorem l_make {t e : TypeId} {ie : TypeInfo} {L Cp : Operand} {z : List C} {n c : Nat} {i j : IntKind} (hop : o.op = .makeSlice t L Cp) (ht : P.underlying t = some (.slice e)) (hi : P.info? e = some ie) (hz : zero P e = some z) (h0 : 0 < ie.size) (hb : 0 < ie.bytes)
    (hL : a.eval L = .int i (n : Int)) (hC : a.eval Cp = .int j (c : Int)) (hn : n ≤ c) (hc : c * ie.bytes ≤ 140737488355328) (hA : At E m w ts a) {z' : List C} (hz' : z' = z ∨ z' = z.map C.sy) {blk : Blk} (hbr : blk.rows = List.replicate c z') (hbl : blk.live) (hbe : blk.es = ie.size) {x : C}
    (hx : ∀ (E' : Env) (w' : World), E'.ρ m.length = some (w.heap.size, 0) → (w'.there w.heap.size 0 (c * ie.size)) → CRep E' (m ++ [blk]) w' x (.slice (some ⟨w.heap.size, 0, none⟩) n c))
    (h : Holds P I p (k (.one (.c x)) (m ++ [blk]))) : LRes P I p E m w wr a o k Q := by
  obtain ⟨i', zv, h1, h2, h3, c1, c2⟩ := zero_rep hz E m w
  rw [hi] at h1
  cases h1
  replace c1 : CellsRep E m w z' zv.cells := by
    rcases hz' with rfl | rfl
    · exact c1
    · refine ⟨by simpa using c1.1, fun i x hi => ?_⟩
      rw [List.getElem?_map] at hi
      obtain ⟨y, hy, rfl⟩ := Option.map_eq_some_iff.1 hi
      obtain ⟨u, q1, q2⟩ := c1.2 i y hy
      exact ⟨u, q1, C_sy q2⟩
  have hzl : z'.length = ie.size := by rw [← c1.1, h3]
  intro K hK
  have hg := alloc_grow (Wt := fun b => okW wr b = true) (ty := e) (blk := blk) (cs := (Array.range (c * ie.size)).map (zv.cells[· % zv.cells.size]!)) (hnm := fun _ _ e => by subst e; simp [Blk.es] at hbe; omega) hA.sat hbl (by simp [hbr, hbe]) (fun q row hq => by
    rw [hbr, List.getElem?_replicate] at hq
    split at hq
    · rename_i hqc
      cases hq
      rw [hbe]
      exact ⟨hzl, fun j x hj => zcell c1 hzl hqc hj⟩
    · cases hq)
  have hrun : (execOp a.eval o).run P w = .ok (.value (.slice (some ⟨w.heap.size, 0, none⟩) n c)) (w.alloc (.cells ((Array.range (c * ie.size)).map (zv.cells[· % zv.cells.size]!)) e)) := by
    simp [execOp, hop, hL, hC, run_make ht hi h2 h0 hb n c hn hc i j]
  unfold Oper.wp
  rw [hrun]
  exact hK _ _ _ _ _ h hg.1 hg.2 (.inr (hx _ _ (if_pos rfl) (there_alloc (by simp))))
theorem row_new {blk : Blk} {E' : Env} {w' : World} {g es n : Nat} {cap : Option NN} (hρ : E'.ρ m.length = some (g, 0)) (hes : blk.es = es) (hn : blk.rows.length = n) (hcap : ∀ c' : NN, cap = some c' → c'.val = n) {c : Nat} (hc : n ≤ c) (hcc : capIs cap c) (ht : w'.there g 0 (c * es)) :
    CRep E' (m ++ [blk]) w' (.row m.length es cap) (.slice (some ⟨g, 0, none⟩) n c) := by
  refine ⟨by simp, rfl, fun blk' hb hl => ?_⟩
  simp at hb
  subst hb
  exact ⟨hes, by rw [hn]; exact hcap, .inr ⟨g, 0, c, hρ, by rw [hn]; rfl, by omega, hcc, ht⟩⟩
theorem map_sy {g : List G} {z : List C} (h : g.map C.g = z) : (g.map G.sy).map C.g = z.map C.sy := by
  rw [← h, List.map_map, List.map_map]
  refine List.map_congr_left fun x _ => ?_
  cases x <;> rfl
theorem l_makeSlice {t e : TypeId} {ie : TypeInfo} {L Cp : Operand} {z : List C} {l : Opd} (hI : I = ints) (hop : o.op = .makeSlice t L Cp) (ht : P.underlying t = some (.slice e)) (hi : P.info? e = some ie) (hz : zero P e = some z) (h0 : 0 < ie.size) (hb : 0 < ie.bytes) (hb2 : ie.bytes ≤ 4096)
    (hl : opd L = some l) (hsame : ∀ i n, a.eval L = .int i n → ∃ j, a.eval Cp = .int j n) (hA : At E m w ts a) (h : Holds P I p (evOp I er wr (.makeSlice ie.size ie.bytes z l none) ts m k)) : LRes P I p E m w wr a o k Q := by
  obtain ⟨i, n, hn, h⟩ := evZ_inv hl hA h
  obtain ⟨j, hC⟩ := hsame i _ hn
  cases n with
  | lit n =>
    simp only at h
    split at h
    · rename_i g g0 hg
      cases h with
      | size c e1 e2 h =>
      subst hI
      rw [show (Z.lit n).val = n from rfl, e1] at hn hC
      have hzg := grounds_map hg
      refine l_make (blk := .sym ie.size (List.replicate c (g.map G.sy))) hop ht hi hz h0 hb hn hC (Nat.le_refl _) e2 hA (.inr rfl) (by rw [← map_sy hzg]; simp [Blk.rows]) trivial rfl (fun E' w' hρ hth => ?_) h
      exact row_new hρ rfl (by simp [Blk.rows]) (fun c' hc' => by cases hc'; rfl) (Nat.le_refl _) (fun c' hc' => by cases hc'; rfl) hth
    split at h
    · rename_i g1 g2
      have g1 := of_decide_eq_true g1
      have g2 := of_decide_eq_true g2
      obtain ⟨n, rfl⟩ := Int.eq_ofNat_of_zero_le g1
      refine l_make (blk := .lit ie.size (List.replicate n z)) hop ht hi hz h0 hb hn hC (Nat.le_refl _) (by have := Nat.mul_le_mul (show n ≤ 4096 by omega) hb2; omega) hA (.inl rfl) rfl trivial rfl (fun E' w' hρ hth => ?_) h
      exact row_new hρ rfl (by simp [Blk.rows]) (fun c' hc' => by cases hc'; rfl) (Nat.le_refl _) (fun c' hc' => by cases hc'; rfl) hth
    · exact (holds_fail h).elim
  | sym n =>
    cases hg : grounds z with
    | none => simp only [hg] at h; exact (holds_fail h).elim
    | some g =>
      simp only [hg] at h
      cases h with
      | size c e1 e2 h =>
      subst hI
      rw [Z.val_sym, e1] at hn hC
      have hzg := grounds_map hg
      refine l_make (blk := .sym ie.size (List.replicate c (g.map G.sy))) hop ht hi hz h0 hb hn hC (Nat.le_refl _) e2 hA (.inr rfl) (by rw [← map_sy hzg]; simp [Blk.rows]) trivial rfl (fun E' w' hρ hth => ?_) h
      exact row_new hρ rfl (by simp [Blk.rows]) (fun c' hc' => by cases hc'; rfl) (Nat.le_refl _) (fun c' hc' => by cases hc'; rfl) hth
theorem l_makeSlice2 {t e : TypeId} {ie : TypeInfo} {L Cp : Operand} {z : List C} {l c : Opd} (hI : I = ints) (hop : o.op = .makeSlice t L Cp) (ht : P.underlying t = some (.slice e)) (hi : P.info? e = some ie) (hz : zero P e = some z) (h0 : 0 < ie.size) (hb : 0 < ie.bytes)
    (hl : opd L = some l) (hc : opd Cp = some c) (hA : At E m w ts a) (h : Holds P I p (evOp I er wr (.makeSlice ie.size ie.bytes z l (some c)) ts m k)) : LRes P I p E m w wr a o k Q := by
  obtain ⟨i, n, hn, h⟩ := evZ_inv hl hA h
  obtain ⟨j, cz, hC, h⟩ := evZ_inv hc hA h
  split at h
  · rename_i g hg
    cases h with
    | size c e1 e2 h =>
    cases h with
    | idx n' e3 e4 h =>
    subst hI
    rw [e3] at hn
    rw [e1] at hC
    have e4 : n' < c + 1 := e4
    have hzg := grounds_map hg
    refine l_make (blk := .sym ie.size (List.replicate c (g.map G.sy))) hop ht hi hz h0 hb hn hC (by omega) e2 hA (.inr rfl) (by rw [← map_sy hzg]; simp [Blk.rows]) trivial rfl (fun E' w' hρ hth => ?_) h
    refine ⟨by simp, rfl, fun blk' hb hl => ?_⟩
    simp at hb
    subst hb
    exact ⟨rfl, by simp [Blk.rows]; omega, fun c' hc' => by cases hc'; simp [Blk.rows], .inr ⟨w.heap.size, 0, c, 0, hρ, rfl, fun _ => by simp, by simp; omega, fun c' hc' => by cases hc'; rfl, by simpa using hth⟩⟩
  · exact (holds_fail h).elim
end
end Go.Proofs.Ytccfcenhpmdemaa.E
