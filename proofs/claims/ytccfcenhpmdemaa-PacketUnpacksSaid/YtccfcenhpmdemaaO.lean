/- What comes in, opened by its kind: a reading as data is a value of the kind. -/
import Derived.Test.YtccfcenhpmdemaaWMore
import Derived.ProofKit
import Derived.OpenShut
import Derived.ChangeOld
import Derived.SizedLaws
import Derived.Deep.Slices
namespace Go.Proofs.Ytccfcenhpmdemaa.B
open Go.RowKit Go.Deep Go.Proofs.YtccfcenhpmdemaaW.PrintWords Go.Proofs.YtccfcenhpmdemaaW.PrintLast Go.Proofs.YtccfcenhpmdemaaW.PrintMore

/-- Whatever reads as data of type t is of kind d, and wf. -/
structure Rdb {α : Type} (P : Program) (t : TypeId) (d : Kd α) (wf : α → Prop) : Prop where
  run : ∀ {H : Type} (enc : TypeId × Value → H) (w : World) (fuel : Nat) (cs : List Value) (x : DataW H × List MemPlace),
    DataW.trod enc P w 0 (fun _ => true) true fuel t cs = some x → ∃ y, d.K w y cs ∧ wf y

section
variable {P : Program} {t e : TypeId}
theorem Rdb.int {k : IntKind} (h : P.underlying t = some (.int k)) : Rdb P t (Kd.int k) (fun n => (Lit.int k n).wf = true) := by
  refine ⟨?_⟩
  intro H enc w fuel cs x hx
  obtain ⟨n, rfl, _, hw⟩ := DataW.trod_int h hx
  exact ⟨n, rfl, hw⟩
theorem Rdb.bool (h : P.underlying t = some .bool) : Rdb P t Kd.bool (fun _ => True) := by
  refine ⟨?_⟩
  intro H enc w fuel cs x hx
  obtain ⟨n, rfl, _⟩ := DataW.trod_bool h hx
  exact ⟨n, rfl, trivial⟩
theorem Rdb.slice {α : Type} {d : Kd α} {wf : α → Prop} (h : P.underlying t = some (.slice e)) (hc : P.cellsOf e = d.sz) (hd : Rdb P e d wf) : Rdb P t (Kd.slice e d) (fun l => ∀ y ∈ l, wf y) := by
  refine ⟨?_⟩
  intro H enc w fuel cs x hx
  rcases open_slice h hx with ⟨rfl, _⟩ | ⟨a, len, cap, m, n, D, Pl, rfl, _, hl, hm, hmm, _, hi⟩
  · exact ⟨[], ⟨none, 0, rfl, Nat.le_refl _, ⟨rfl, by simp, fun h => absurd h (by simp)⟩⟩, fun y hy => by cases hy⟩
  · have hle : len ≤ m := by rw [hmm]; simp [hl]
    obtain ⟨f, hf⟩ := choose_lt (n := len) (α := Option α) (p := fun i (o : Option α) => ∃ y c, o = some y ∧ d.K w y c ∧ wf y ∧ w.cells? 0 (a.add (i * d.sz)) d.sz = some c) (fun i hil => by
      obtain ⟨c, h1, h2⟩ := hi i (by omega)
      rw [hc] at h1
      obtain ⟨y, hK, hw⟩ := hd.run enc w _ _ _ h2
      exact ⟨some y, y, c, rfl, hK, hw, h1⟩)
    have hall : ∀ i, i < len → (f i).isSome = true := fun i hil => by obtain ⟨y, _, he, _⟩ := hf i hil; rw [he]; rfl
    have hlen : ((List.range len).attach.map (fun i => (f i.1).get (hall i.1 (List.mem_range.1 i.2)))).length = len := by simp
    refine ⟨(List.range len).attach.map (fun i => (f i.1).get (hall i.1 (List.mem_range.1 i.2))), ⟨some a, cap, by rw [hlen], by rw [hlen]; exact hl, ⟨rfl, by rw [hlen]; unfold maxLen at hm; omega, fun _ => ⟨a, rfl, ?_⟩⟩⟩, ?_⟩
    · intro j p hj
      have hjl : j < len := by
        have := (List.getElem?_eq_some_iff.1 hj).1
        rwa [hlen] at this
      obtain ⟨y, c, he, hK, _, hcells⟩ := hf j hjl
      have hp : p = y := by
        have h1 := (List.getElem?_eq_some_iff.1 hj).2
        simp only [List.getElem_map, List.getElem_attach, List.getElem_range] at h1
        rw [← h1]
        simp [he]
      subst hp
      obtain ⟨_, hcl, hcc⟩ := World.cells?_some hcells
      refine ⟨c, d.K_len hK, hK, fun i u hu => ?_⟩
      have hil : i < d.sz := by
        have := (List.getElem?_eq_some_iff.1 hu).1
        omega
      have := hcc i hil
      rw [hu] at this
      rw [← this]
      congr 1
      unfold Addr.add
      by_cases h1 : j * d.sz = 0 <;> by_cases h2 : i = 0 <;> simp [h1, h2, Nat.add_assoc]
    · intro y hy
      obtain ⟨i, hi1, hi2⟩ := List.mem_map.1 hy
      obtain ⟨y', c, he, _, hw, _⟩ := hf i.1 (List.mem_range.1 i.2)
      rw [← hi2]
      simpa [he] using hw
/-- A struct's fields from the place off on. -/
structure OpF {α : Type} (P : Program) (fs : List Field) (off : Nat) (d : Kd α) (wf : α → Prop) : Prop where
  run : ∀ {H : Type} (enc : TypeId × Value → H) (w : World) (fuel : Nat) (cs : List Value),
    cs.length = off + d.sz → (∀ f ∈ fs, ∃ x, DataW.trod enc P w 0 (fun _ => true) true fuel f.type ((cs.drop f.offset).take (P.cellsOf f.type)) = some x) → ∃ y, d.K w y (cs.drop off) ∧ wf y
theorem OpF.one {α : Type} {d : Kd α} {wf : α → Prop} {f : Field} {off : Nat} (ho : f.offset = off) (hc : P.cellsOf f.type = d.sz) (h : Rdb P f.type d wf) : OpF P [f] off d wf := by
  refine ⟨?_⟩
  intro H enc w fuel cs hl hx
  obtain ⟨x, hx⟩ := hx f (by simp)
  obtain ⟨y, hK, hw⟩ := h.run enc w _ _ _ hx
  rw [ho, hc, List.take_of_length_le (by rw [List.length_drop]; omega)] at hK
  exact ⟨y, hK, hw⟩
def WfP {α β : Type} (wf : α → Prop) (wf' : β → Prop) (x : α × β) : Prop := wf x.1 ∧ wf' x.2
theorem Rdb.mono {α : Type} {d : Kd α} {wf wf' : α → Prop} (h : Rdb P t d wf) (hw : ∀ x, wf x → wf' x) : Rdb P t d wf' := ⟨fun enc w fuel cs x hx => let ⟨y, h1, h2⟩ := h.run enc w fuel cs x hx; ⟨y, h1, hw y h2⟩⟩
theorem OpF.cons {α β : Type} {d : Kd α} {d' : Kd β} {wf : α → Prop} {wf' : β → Prop} {f : Field} {fs : List Field} {off : Nat} (ho : f.offset = off) (hc : P.cellsOf f.type = d.sz) (h : Rdb P f.type d wf) (h' : OpF P fs (off + d.sz) d' wf') : OpF P (f :: fs) off (Kd.pair d d') (WfP wf wf') := by
  refine ⟨?_⟩
  intro H enc w fuel cs hl hx
  have hl' : cs.length = off + (d.sz + d'.sz) := hl
  obtain ⟨x, hx0⟩ := hx f (by simp)
  obtain ⟨y, hK, hw⟩ := h.run enc w _ _ _ hx0
  obtain ⟨y', hK', hw'⟩ := h'.run enc w fuel cs (by omega) (fun f hf => hx f (by simp [hf]))
  rw [ho, hc] at hK
  refine ⟨(y, y'), ⟨_, _, ?_, hK, hK'⟩, hw, hw'⟩
  rw [← List.drop_drop, List.take_append_drop]
theorem Rdb.struct {α β : Type} {d : Kd α} {f : β → α} {g : α → β} {wf : α → Prop} {fs : Array Field} (hg : ∀ x, f (g x) = x) (h : P.underlying t = some (.struct fs)) (hc : P.cellsOf t = d.sz) (hf : OpF P fs.toList 0 d wf) : Rdb P t (Kd.iso d f) (fun x => wf (f x)) := by
  refine ⟨?_⟩
  intro H enc w fuel cs x hx
  obtain ⟨xs, n, _, _, hl, hlen, hfs⟩ := DataW.trod_struct h hx
  obtain ⟨y, hK, hw⟩ := hf.run enc w n cs (by rw [hl, hc]; omega) (fun fd hfd => by
    obtain ⟨i, hi, he⟩ := List.mem_iff_getElem.1 hfd
    have hi' : i < fs.size := by simpa using hi
    have := hfs i fd (by rw [Array.getElem?_eq_getElem hi']; simp only [Option.some.injEq]; rw [← he]; simp)
    rw [List.getElem?_eq_getElem (by omega)] at this
    exact ⟨_, this⟩)
  refine ⟨g y, ?_, ?_⟩
  · show d.K w (f (g y)) cs
    rw [hg]
    simpa using hK
  · show wf (f (g y))
    rw [hg]
    exact hw
/-- A slice's length is that of its datum. -/
theorem slice_len {H : Type} {enc : TypeId × Value → H} {w : World} {fuel : Nat} {A : Option Addr} {n c : Nat} {x : DataW H × List MemPlace} (h : P.underlying t = some (.slice e))
    (hx : DataW.trod enc P w 0 (fun _ => true) true fuel t [.slice A n c] = some x) : (x.1 = .nil ∧ n = 0) ∨ ∃ elems spare, x.1 = .slice elems spare ∧ elems.length = n := by
  rcases open_slice h hx with ⟨h1, rfl⟩ | ⟨a, len, cap, m, _, D, Pl, h1, _, hl, hm, hmm, rfl, hi⟩
  · simp only [List.cons.injEq, Value.slice.injEq, and_true] at h1
    exact .inl ⟨rfl, h1.2.1⟩
  · simp only [List.cons.injEq, Value.slice.injEq, and_true] at h1
    exact .inr ⟨_, _, rfl, by simp [h1.2.1]⟩
end
end Go.Proofs.Ytccfcenhpmdemaa.B
