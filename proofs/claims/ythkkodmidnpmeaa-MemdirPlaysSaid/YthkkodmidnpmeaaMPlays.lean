/- MemdirPlays: plain law (the walk is not written yet). -/
import Derived.Test.YthkkodmidnpmeaaMH
import Derived.Test.YthkkodmidnpmeaaMErr
namespace Go.Proofs.Ythkkodmidnpmeaa.E
open Go
set_option linter.unusedVariables false
set_option maxRecDepth 100000

theorem dirOf_rows0 (q : CF) (hq : q.ok) (node : Int) : dirOf q node (rows0 q.ini q.c.toNat q.b.toNat) = dir0 q.ini q.a q.c node q.b.toNat := by
  have hb := hq.hb
  funext z
  unfold dirOf dir0
  by_cases h : hereB q node z = true
  · rw [if_pos h]
    unfold hereB at h
    simp only [Bool.and_eq_true, decide_eq_true_eq, beq_iff_eq] at h
    rw [if_pos ⟨h.1, by omega, h.2.2⟩]
    unfold rows0
    rw [List.getElem?_map, List.getElem?_range (by omega)]
    rfl
  · rw [if_neg h, if_neg (fun e => h (by
      unfold hereB
      simp only [Bool.and_eq_true, decide_eq_true_eq, beq_iff_eq]
      exact ⟨e.1, by omega, e.2.2⟩))]
theorem small_set (q : CF) (f : Int → Option RW) (z st hd : Int) (x : List Int) (h : small f) (hx : x.length ≤ 8) : small (setDir q f z st hd x) := by
  unfold setDir
  split
  · exact h
  · rename_i r hr
    split
    · intro y r2 hy
      have hy : (if y = z then some ⟨st, hd, if x = [] then r.d else x⟩ else f y) = some r2 := hy
      split at hy
      · cases hy
        show (if x = [] then r.d else x).length ≤ _
        split
        · exact h _ _ hr
        · omega
      · exact h _ _ hy
    · exact h
/-- The lines from -1 on that are there, so many of them asked. -/
def wantL (f : Int → Option RW) (k : Nat) : List Int := ((List.range k).map fun (i : Nat) => (i : Int) - 1).filter fun z => (f z).isSome
theorem wantL_step (f : Int → Option RW) (k : Nat) : wantL f (k + 1) = wantL f k ++ if (f ((k : Int) - 1)).isSome = true then [(k : Int) - 1] else [] := by
  unfold wantL
  rw [List.range_succ, List.map_append, List.filter_append]
  congr 1
  simp only [List.map_cons, List.map_nil, List.filter_cons, List.filter_nil]
theorem wantL_lines (f : Int → Option RW) (h0 : f (-1) = none) : ∀ n, wantL f (n + 1) = linesL f n
  | 0 => by
    rw [wantL_step]
    show ([] : List Int) ++ (if (f (((0 : Nat) : Int) - 1)).isSome = true then _ else _) = []
    rw [show (((0 : Nat) : Int) - 1) = -1 from rfl, h0]
    rfl
  | n + 1 => by
    rw [wantL_step, linesL_step, wantL_lines f h0 n]
    rw [show (((n + 1 : Nat) : Int) - 1) = (n : Int) from by omega]
theorem wantL_end (f : Int → Option RW) (n : Nat) (h0 : f (-1) = none) (h1 : f n = none) : wantL f (n + 2) = linesL f n := by
  rw [wantL_step, wantL_lines f h0 n]
  rw [show (((n + 1 : Nat) : Int) - 1) = (n : Int) from by omega, h1]
  simp
end Go.Proofs.Ythkkodmidnpmeaa.E
