/- Plain facts on what is wanted of each row. -/
import Derived.Test.YthkkodmidnpmeaaM9
namespace Go.Proofs.Ythkkodmidnpmeaa.E
open Go
set_option linter.unusedVariables false

/-- A row's words, line by line. -/
def isW (M : List (List G)) (f : Int → Option RW) (K : List Int) : Prop := M.map rowKey = K.map some ∧ ∀ z, mfind M z = if z ∈ K then (f z).map (fun r => [.int .i64 (.sym z), .rows 1 (nrow .i64 r.d)]) else none
theorem mset_keys (z : Int) (row : List G) (hr : rowKey row = some z) : ∀ M : List (List G), (mset M z row).map rowKey = if some z ∈ M.map rowKey then M.map rowKey else M.map rowKey ++ [some z]
  | [] => by simp [mset, hr]
  | r :: M => by
    have ih := mset_keys z row hr M
    by_cases h : rowKey r = some z
    · have hb : (rowKey r == some z) = true := by simpa using h
      simp [mset, hb, hr, h]
    · have hb : (rowKey r == some z) = false := by simpa using h
      have h' : ¬ some z = rowKey r := fun e => h e.symm
      simp only [mset, hb, List.map_cons, List.mem_cons, h', false_or, Bool.false_eq_true, if_false, ih]
      split <;> simp
theorem isW_nil (f : Int → Option RW) : isW [] f [] := ⟨rfl, fun z => rfl⟩
theorem isW.add {M : List (List G)} {f : Int → Option RW} {K : List Int} (h : isW M f K) {z : Int} (hz : z ∉ K) {r : RW} (hr : f z = some r) : isW (mset M z [.int .i64 (.sym z), .rows 1 (nrow .i64 r.d)]) f (K ++ [z]) := by
  refine ⟨?_, fun y => ?_⟩
  · rw [mset_keys z _ rfl, h.1, if_neg (by simpa using hz)]
    simp
  · rw [mfind_mset3 z _ rfl y M]
    by_cases e : y = z
    · subst e
      rw [if_pos rfl, if_pos (by simp), hr]
      rfl
    · rw [if_neg e, h.2 y]
      simp [e]
theorem isW.put {M : List (List G)} {f : Int → Option RW} {K : List Int} (h : isW M f K) {z : Int} (hz : z ∈ K) (s hd : Int) (d : List Int) : isW (mset M z [.int .i64 (.sym z), .rows 1 (nrow .i64 d)]) (fun y => if y = z then some ⟨s, hd, d⟩ else f y) K := by
  refine ⟨?_, fun y => ?_⟩
  · rw [mset_keys z _ rfl, h.1, if_pos (by simpa using hz)]
  · rw [mfind_mset3 z _ rfl y M]
    dsimp only
    by_cases e : y = z
    · subst e
      rw [if_pos rfl, if_pos hz, if_pos rfl]
      rfl
    · rw [if_neg e, if_neg e, h.2 y]
theorem isW.same {M : List (List G)} {f : Int → Option RW} {K : List Int} (h : isW M f K) {z : Int} {r : RW} (hr : f z = some r) (s hd : Int) : isW M (fun y => if y = z then some ⟨s, hd, r.d⟩ else f y) K := by
  refine ⟨h.1, fun y => ?_⟩
  rw [h.2 y]
  dsimp only
  by_cases e : y = z
  · subst e
    rw [if_pos rfl, hr]
    rfl
  · rw [if_neg e]
theorem mfind_nodup {z : Int} {row : List G} (hk : rowKey row = some z) : ∀ {M : List (List G)} {i : Nat}, (M.map rowKey).Nodup → M[i]? = some row → mfind M z = some row
  | [], i, hn, h => by simp at h
  | r :: M, i, hn, h => by
    rw [List.map_cons, List.nodup_cons] at hn
    cases i with
    | zero =>
      simp at h
      subst h
      simp [mfind, hk]
    | succ i =>
      have h : M[i]? = some row := by simpa using h
      have hne : ¬ rowKey r = some z := fun e => hn.1 (by rw [e, ← hk]; exact List.mem_map.2 ⟨row, List.mem_of_getElem? h, rfl⟩)
      have hb : (rowKey r == some z) = false := by simpa using hne
      have ih := mfind_nodup hk hn.2 h
      unfold mfind at ih ⊢
      rw [List.find?_cons, hb]
      exact ih
theorem isW.row {M : List (List G)} {f : Int → Option RW} {K : List Int} (h : isW M f K) (hK : K.Nodup) {i : Nat} {z : Z} {gs : List G} (hi : M[i]? = some (.int .i64 z :: gs)) : ∃ r, f z.val = some r ∧ gs = [.rows 1 (nrow .i64 r.d)] := by
  have hn : (M.map rowKey).Nodup := by
    rw [h.1]
    exact List.Pairwise.map some (fun a b hab e => hab (Option.some.inj e)) hK
  have h1 := mfind_nodup (z := z.val) rfl hn hi
  rw [h.2 z.val] at h1
  split at h1
  · cases hf : f z.val with
    | none => rw [hf] at h1; cases h1
    | some r =>
      rw [hf] at h1
      have h2 := Option.some.inj h1
      injection h2 with h3 h4
      exact ⟨r, rfl, h4.symm⟩
  · cases h1
theorem linesL_nodup (f : Int → Option RW) (n : Nat) : (linesL f n).Nodup := by
  unfold linesL
  refine List.Pairwise.filter _ (List.Pairwise.map _ (fun a b hab e => hab (by omega)) List.nodup_range)
theorem linesL_same {f g : Int → Option RW} (h : ∀ y, (f y).isSome = (g y).isSome) (n : Nat) : linesL f n = linesL g n := by
  unfold linesL
  congr 1
  funext z
  exact h z
theorem linesL_mem {f : Int → Option RW} {n : Nat} {z : Int} : z ∈ linesL f n ↔ (0 ≤ z ∧ z < n) ∧ (f z).isSome = true := by
  unfold linesL
  rw [List.mem_filter, List.mem_map]
  refine ⟨fun ⟨⟨i, hi, e⟩, h⟩ => ⟨by have := List.mem_range.1 hi; omega, h⟩, fun ⟨⟨h1, h2⟩, h⟩ => ⟨⟨z.toNat, List.mem_range.2 (by omega), by omega⟩, h⟩⟩
end Go.Proofs.Ythkkodmidnpmeaa.E
