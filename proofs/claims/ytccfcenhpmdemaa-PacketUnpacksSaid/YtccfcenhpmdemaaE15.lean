/- Arguments as they are read, by the print's words, are what the evaluator calls ground. -/
import Derived.Test.YtccfcenhpmdemaaE14
import Derived.Test.YtccfcenhpmdemaaWWords
namespace Go.Proofs.Ytccfcenhpmdemaa.E
open Go Go.Proofs.YtccfcenhpmdemaaW.PrintWords
set_option linter.unusedVariables false

theorem cell_none {w : World} {x : Addr} {u : Value} (h : w.cell? x = some u) : x = at_ x.block x.off ∧ x.block < w.heap.size := by
  obtain ⟨b, o, v⟩ := x
  cases v with
  | some v =>
    exfalso
    simp [World.cell?] at h
    split at h <;> cases h
  | none =>
    refine ⟨rfl, ?_⟩
    rcases Nat.lt_or_ge b w.heap.size with h1 | h1
    · exact h1
    · simp [World.cell?, Array.getElem?_eq_none h1] at h
theorem rows_rep {α : Type} {d : Kd α} {g : α → List G} {w : World} (h0 : 0 < d.sz) (hK : ∀ x cs, d.K w x cs → (g x).length = cs.length ∧ ∀ (i : Nat) (y : G), (g x)[i]? = some y → ∃ u, cs[i]? = some u ∧ GRep (fun k => k < w.heap.size) w y u)
    {Ad : Option Addr} {xs : List α} {c : Nat} (h : d.C w Ad xs.length xs) (hc : xs.length ≤ c) : GRep (fun k => k < w.heap.size) w (.rows d.sz (xs.map g)) (.slice Ad xs.length c) := by
  obtain ⟨-, -, h⟩ := h
  have key : ∀ (i : Nat) (r : List G), (xs.map g)[i]? = some r → ∃ x cs, xs[i]? = some x ∧ g x = r ∧ cs.length = d.sz ∧ d.K w x cs ∧ ∃ a off, Ad = some (at_ a off) ∧ a < w.heap.size ∧ ∀ (j : Nat) (u : Value), cs[j]? = some u → w.cell? (at_ a (off + (i * d.sz + j))) = some u := by
    intro i r hi
    rw [List.getElem?_map] at hi
    obtain ⟨x, hx, rfl⟩ := Option.map_eq_some_iff.1 hi
    have hpos : 0 < xs.length := Nat.lt_of_le_of_lt (Nat.zero_le _) (List.getElem?_eq_some_iff.1 hx).1
    obtain ⟨ad, e, hcell⟩ := h hpos
    obtain ⟨cs, hl, hk, hcs⟩ := hcell i x hx
    obtain ⟨y, hy⟩ : ∃ y, xs[0]? = some y := ⟨xs[0]'hpos, List.getElem?_eq_getElem _⟩
    obtain ⟨cs0, hl0, -, hcs0⟩ := hcell 0 y hy
    obtain ⟨u, hu⟩ : ∃ u, cs0[0]? = some u := ⟨cs0[0]'(by omega), List.getElem?_eq_getElem _⟩
    have h2 := hcs0 0 u hu
    rw [Nat.zero_mul, Nat.add_zero] at h2
    have h3 : ad.add 0 = ad := by simp [Addr.add]
    rw [h3] at h2
    obtain ⟨q1, q2⟩ := cell_none h2
    refine ⟨x, cs, hx, rfl, hl, hk, ad.block, ad.off, by rw [e]; exact congrArg some q1, q2, fun j u hj => ?_⟩
    have := hcs j u hj
    rw [q1, at_add] at this
    exact this
  have := GRep.rows (F := fun k => k < w.heap.size) (w := w) (es := d.sz) (l := xs.map g) (A := Ad) (c := c)
    (fun i j => match Ad with | some ad => (w.cell? (at_ ad.block (ad.off + (i * d.sz + j)))).getD undef | none => undef) (by simpa using hc) ⟨fun i r hi => ?_, fun i r j x hi hj => ?_, fun hne => ?_⟩ (fun i r j x hi hj => ?_)
  · simpa using this
  · obtain ⟨x, cs, hx, rfl, hl, hk, _⟩ := key i r hi
    rw [(hK x cs hk).1, hl]
  · obtain ⟨y, cs, hx, rfl, hl, hk, a, off, e, ha, hcs⟩ := key i r hi
    obtain ⟨u, hu, hr⟩ := (hK y cs hk).2 j x hj
    have := hcs j u hu
    subst e
    refine ⟨a, off, rfl, ha, ?_⟩
    simp [at_] at this ⊢
    rw [this]
    rfl
  · cases xs with
    | nil => simp at hne
    | cons x xs =>
      obtain ⟨_, _, _, _, _, _, a, off, e, ha, _⟩ := key 0 (g x) rfl
      exact ⟨a, off, e, ha⟩
  · obtain ⟨y, cs, hx, rfl, hl, hk, a, off, e, ha, hcs⟩ := key i r hi
    obtain ⟨u, hu, hr⟩ := (hK y cs hk).2 j x hj
    have := hcs j u hu
    subst e
    simp [at_] at this ⊢
    rw [this]
    exact hr
theorem nums_rep {k : IntKind} {w : World} {Ad : Option Addr} {xs : List Int} {c : Nat} (h : (Kd.int k).C w Ad xs.length xs) (hc : xs.length ≤ c) : GRep (fun k => k < w.heap.size) w (.rows 1 (nrow k xs)) (.slice Ad xs.length c) :=
  rows_rep (d := Kd.int k) (g := fun x => [.int k (.sym x)]) (Nat.zero_lt_one) (fun x cs hk => by
    have hk : cs = [.int k x] := hk
    subst hk
    refine ⟨rfl, fun i y hi => ?_⟩
    cases i with
    | zero => simp at hi; subst hi; exact ⟨_, rfl, .int k (.sym x)⟩
    | succ i => simp at hi) h hc
end Go.Proofs.Ytccfcenhpmdemaa.E
