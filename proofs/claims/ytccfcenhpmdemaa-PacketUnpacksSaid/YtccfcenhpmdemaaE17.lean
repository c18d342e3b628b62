/- More rules for contracts: nil as frozen rows, letters told, nil fields as rows of their own. -/
import Derived.Test.YtccfcenhpmdemaaE15
namespace Go.Proofs.Ytccfcenhpmdemaa.E
open Go
set_option linter.unusedVariables false
set_option linter.unusedSectionVars false

theorem C_sy_free (x : C) : x.sy.free = x.free := by
  cases x with
  | g x => cases x <;> rfl
  | _ => rfl
theorem V1_sy_free (x : V1) : x.sy.free = x.free := by
  cases x with
  | c x => exact C_sy_free x
  | agg l => simp [V1.sy, V1.free, List.all_map, Function.comp_def, C_sy_free]
theorem A_sy_free (x : A) : x.sy.free = x.free := by
  cases x with
  | one v => exact V1_sy_free v
  | tup l => simp [A.sy, A.free, List.all_map, Function.comp_def, V1_sy_free]
section
variable {P : Program} {I : Ints} {p : Nat}
theorem A_sy {E : Env} {m : Mem} {w : World} {x : A} {u : Value} (h : ARep E m w x u) : ARep E m w x.sy u := by
  cases x with
  | one v => exact V1_sy h
  | tup l =>
    obtain ⟨cs, h1, h2, h3⟩ := h
    refine ⟨cs, h1, by simp [h2], fun i x hi => ?_⟩
    rw [List.getElem?_map] at hi
    obtain ⟨y, hy, rfl⟩ := Option.map_eq_some_iff.1 hi
    obtain ⟨u, h4, h5⟩ := h3 i y hy
    exact ⟨u, h4, V1_sy h5⟩
theorem C_unsy {E : Env} {m : Mem} {w : World} {x : C} {u : Value} (h : CRep E m w x.sy u) : CRep E m w x u := by
  cases x with
  | g x =>
    cases x with
    | bool b => generalize u = v at h; cases h; exact .bool b
    | int k z => generalize u = v at h; cases h; exact .int k z
    | _ => exact h
  | _ => exact h
theorem C_sy_any {x : C} (h : x.sy = .any) : x = .any := by
  cases x with
  | g x => cases x <;> cases h
  | _ => first | rfl | cases h
theorem V1_unsy {E : Env} {m : Mem} {w : World} {x : V1} {u : Value} (h : V1Rep E m w x.sy u) : V1Rep E m w x u := by
  cases x with
  | c x => exact h.imp C_sy_any C_unsy
  | agg l =>
    obtain ⟨cs, h1, h2, h3⟩ := h
    refine ⟨cs, h1, by simpa using h2, fun i x hi => ?_⟩
    obtain ⟨u, q1, q2⟩ := h3 i x.sy (by rw [List.getElem?_map, hi]; rfl)
    exact ⟨u, q1, C_unsy q2⟩
theorem A_unsy {E : Env} {m : Mem} {w : World} {x : A} {u : Value} (h : ARep E m w x.sy u) : ARep E m w x u := by
  cases x with
  | one v => exact V1_unsy h
  | tup l =>
    obtain ⟨cs, h1, h2, h3⟩ := h
    refine ⟨cs, h1, by simpa using h2, fun i x hi => ?_⟩
    obtain ⟨u, q1, q2⟩ := h3 i x.sy (by rw [List.getElem?_map, hi]; rfl)
    exact ⟨u, q1, V1_unsy q2⟩
/-- Letters told may be taken for what they are. -/
theorem LValid.known {f : FuncId} {args : List V1} {m : Mem} {R R' : A → Mem → Prop} (h : LValid P f args m R) (hR : ∀ v m1, R v m1 → ∃ v', v'.sy = v.sy ∧ R' v' m1) : LValid P f args m R' := fun E w vs hs hsz hr =>
  (h E w vs hs hsz hr).mono fun e w' ⟨u, v, m', E', a1, a2, a3, a4, a5⟩ => by
    obtain ⟨v', e, g⟩ := hR _ _ a2
    refine ⟨u, v', m', E', a1, g, A_unsy (by rw [e]; exact A_sy a3), by rw [← A_sy_free, e, A_sy_free]; exact a4, a5⟩
/-- What is told may be taken for letters. -/
theorem LValid.syv {f : FuncId} {args : List V1} {m : Mem} {R R' : A → Mem → Prop} (h : LValid P f args m R) (hR : ∀ v m1, R v m1 → R' v.sy m1) : LValid P f args m R' := fun E w vs hs hsz hr =>
  (h E w vs hs hsz hr).mono fun e w' ⟨u, v, m', E', a1, a2, a3, a4, a5⟩ => ⟨u, v.sy, m', E', a1, hR _ _ a2, A_sy a3, by rw [A_sy_free]; exact a4, a5⟩
/-- What is told, and the memory behind it, may be taken for letters. -/
theorem LValid.syvm {f : FuncId} {args : List V1} {m : Mem} {R R' : A → Mem → Prop} (h : LValid P f args m R) (hR : ∀ v m1, R v m1 → R' v.sy (m1.map Blk.sy)) : LValid P f args m R' := fun E w vs hs hsz hr =>
  (h E w vs hs hsz hr).mono fun e w' ⟨u, v, m', E', a1, a2, a3, a4, a5, a6, a7⟩ => by
    have hN : Now 0 E m w E' m' w' [] { tmps := #[], defers := [] } := ⟨⟨a6, ⟨rfl, fun t x h => by simp at h⟩, .nil rfl⟩, a7, Nat.zero_le _, fun _ _ => Nat.zero_le _⟩
    have hN' := hN.sy
    refine ⟨u, v.sy, _, E', a1, hR _ _ a2, a3.sy, by rw [A_sy_free]; exact a4, fun id blk hb => ?_, hN'.sat, hN'.grow⟩
    obtain ⟨b0, h1, rfl⟩ := sy_get hb
    have := a5 id b0 h1
    cases b0 with
    | lit es rows => simpa [Blk.sy, Blk.free, List.all_map, Function.comp_def, C_sy_free] using this
    | _ => rfl
/-- A nil slice is frozen rows, none. -/
theorem LValid.nilr {f : FuncId} {args : List V1} {m : Mem} {R R' : A → Mem → Prop} (es : Nat) (h : LValid P f args m R)
    (hR : ∀ v m1, R v m1 → R' v m1 ∨ (v = .one (.c (.g .nil)) ∧ R' (.one (.c (.g (.rows es [])))) m1)) : LValid P f args m R' := fun E w vs hs hsz hr =>
  (h E w vs hs hsz hr).mono fun e w' ⟨u, v, m', E', a1, a2, a3, a4, a5, a6, a7⟩ => by
    rcases hR v m' a2 with h1 | ⟨rfl, h1⟩
    · exact ⟨u, v, m', E', a1, h1, a3, a4, a5, a6, a7⟩
    · have hu : u = .slice none 0 0 := by
        rcases a3 with a3 | a3
        · cases a3
        · generalize u = u' at a3
          cases a3
          rfl
      refine ⟨u, _, m', E', a1, h1, .inr ?_, rfl, a5, a6, a7⟩
      rw [hu]
      exact GRep.rows (l := []) (fun _ _ => undef) (Nat.le_refl _) ⟨fun i r h => by simp at h, fun i r j x h => by simp at h, fun h => absurd rfl h⟩ (fun i r j x h => by simp at h)
/-- A contract whose memory has a nil field: that field is a row of its own. -/
theorem LValid.ownField {f : FuncId} {args : List V1} {m : Mem} {R R' : A → Mem → Prop} (es' b i j : Nat) (h : LValid P f args m R)
    (hR : ∀ v m1, R v m1 → ∃ es rows row, m1[b]? = some (.lit es rows) ∧ rows[i]? = some row ∧ row[j]? = some (.g .nil) ∧ R' v ((m1.set b (.lit es (rows.set i (row.set j (.row m1.length es' none))))) ++ [.sym es' []])) : LValid P f args m R' := fun E w vs hs hsz hr =>
  (h E w vs hs hsz hr).mono fun e w' ⟨u, v, m', E', a1, a2, a3, a4, a5, a6, a7⟩ => by
    obtain ⟨es, rows, row, h1, h2, h3, h4⟩ := hR v m' a2
    obtain ⟨E2, g, s⟩ := nil_field (Wt := fun _ => True) a6 h1 trivial h2 h3 es'
    refine ⟨u, v, _, E2, a1, h4, a3.step g.toStep, a4, fun id blk hb => ?_, s, a7.trans g (fun _ _ h => h)⟩
    rcases get_append hb with ⟨_, hb⟩ | ⟨_, rfl⟩
    · rcases get_set hb with ⟨_, rfl, _⟩ | ⟨_, hb⟩
      · have hf := a5 b _ h1
        simp only [Blk.free, List.all_eq_true] at hf ⊢
        intro r hr x hx
        rcases List.mem_or_eq_of_mem_set hr with hr | rfl
        · exact hf r hr x hx
        · rcases List.mem_or_eq_of_mem_set hx with hx | rfl
          · exact hf row (List.mem_of_getElem? h2) x hx
          · rfl
      · exact a5 id blk hb
    · rfl
/-- What is told may be named anew: frozen, forgotten, turned. -/
theorem LValid.post {f : FuncId} {args : List V1} {m : Mem} {R R' : A → Mem → Prop} (hI : I = ints) (h : LValid P f args m R)
    (hR : ∀ v m1, R v m1 → ∃ σ fz : List Nat, σ.Nodup ∧ σ.take m.length = List.range m.length ∧ (v.inv I σ (.frz fz) m1).free = true ∧ (∀ (id : Nat) (blk : Blk), (invMem I σ (.frz fz) m1)[id]? = some blk → blk.free = true) ∧ R' (v.inv I σ (.frz fz) m1) (invMem I σ (.frz fz) m1)) : LValid P f args m R' := fun E w vs hs hsz hr =>
  (h E w vs hs hsz hr).mono fun e w' ⟨u, v, m', E', a1, a2, a3, a4, a5, a6, a7⟩ => by
    obtain ⟨σ, fz, h1, h2, h3, h4, h5⟩ := hR v m' a2
    have hN : Now 0 E m w E' m' w' [] { tmps := #[], defers := [] } := ⟨⟨a6, ⟨rfl, fun t x h => by simp at h⟩, .nil rfl⟩, a7, Nat.zero_le _, fun _ _ => Nat.zero_le _⟩
    obtain ⟨E2, hN2, hv⟩ := hN.tidy (keep := []) (fz := fz) hI h1 h2
    exact ⟨u, _, _, E2, a1, h5, hv _ _ a3, h3, h4, hN2.sat, hN2.grow⟩
end
end Go.Proofs.Ytccfcenhpmdemaa.E
