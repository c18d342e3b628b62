/- Contracts: an entry's words. -/
import Derived.Test.YtlndhigdknmokaaQB
namespace Go.Proofs.Ytlndhigdknmokaa.E
open Go
set_option linter.unusedVariables false
set_option maxRecDepth 100000

section
variable {P : Program} (hp : P = Try.prog)
include hp
theorem write (f b l u z v : Z) (d : BB) (L : List (List G)) (xs : List Int) (hL : isL .i64 L xs) (hl : L.length * 8 ≤ 140737488355328) :
    LValid P 16 [.c (.ptr 0 (.lit 0) 6 0), .c (.g (.int .i64 z)), .c (.g (.int .i64 v))] [.lit 6 [ent f b l u d (.row 1 1 none)], .sym 1 L]
      (fun r m1 => ∃ ok, ok = (d.val && (decide (0 ≤ z.val) && decide (z.val < (xs.length : Nat)))) ∧ r = boo ok ∧
        ((ok = false ∧ m1 = [.lit 6 [ent (.sym f.val) (.sym b.val) (.sym l.val) (.sym u.val) (.sym d.val) (.row 1 1 none)], .sym 1 L]) ∨
          (ok = true ∧ ∃ L', isL .i64 L' (xs.set z.val.toNat v.val) ∧ m1 = [.lit 6 [ent (.sym f.val) (.sym b.val) (.sym l.val) (.sym u.val) (.sym d.val) (.row 2 1 none)], .sym 1 L, .sym 1 L']))) := by
  refine LValid.mono (LValid.syAll ?_) (fun r m1 h => ⟨_, rfl, h⟩)
  show LValid P 16 [.c (.ptr 0 (.lit 0) 6 0), .c (.g (.int .i64 (.sym z.val))), .c (.g (.int .i64 (.sym v.val)))] [.lit 6 [ent (.sym f.val) (.sym b.val) (.sym l.val) (.sym u.val) (.sym d.val) (.row 1 1 none)], .sym 1 L] _
  generalize f.val = f, b.val = b, l.val = l, u.val = u, d.val = d, z.val = z, v.val = v
  refine LValid.boo ?_
  obtain ⟨I, hI⟩ := ref
  have hxl : xs.length * 8 ≤ 140737488355328 := by rw [← hL.len]; exact hl
  refine fn_sim hI (mo hp) (cc hp c16) fun Post hP => ?_
  cbv
  refine .br (fun h => ?_) (fun h => ?_)
  · have h : d = false := by simpa [hI, ints] using h
    cbv
    exact hP _ _ [0, 1] [] _ _ (by decide) rfl rfl rfl rfl rfl ⟨_, rfl, by simp [h, BB.val], .inl ⟨by simp [h], rfl⟩⟩
  · have h : d = true := by simpa [hI, ints] using h
    cbv
    refine .go [] [] [.bor 1, .keep] (is_ hp (.sym f) (.sym b) (.sym l) (.sym u) (.sym z) (.sym d) L) rfl rfl rfl rfl rfl rfl ?_
    rintro r m1 ⟨t, ht, rfl, rfl⟩
    have ht : t = (decide (0 ≤ z) && decide (z < (xs.length : Nat))) := by rw [ht, hL.len]; rfl
    cbv
    refine .br (fun h2 => ?_) (fun h2 => ?_)
    · have h2 : t = false := by simpa [hI, ints] using h2
      cbv
      exact hP _ _ [0, 1] [] _ _ (by decide) rfl rfl rfl rfl rfl ⟨_, rfl, by rw [← ht, h2, h]; rfl, .inl ⟨by rw [← ht, h2, h]; rfl, rfl⟩⟩
    · have h2 : t = true := by simpa [hI, ints] using h2
      cbv
      refine .go [] [] [.bor 1] (clone hp L hl) rfl rfl rfl rfl rfl rfl ?_
      rintro r m1 ⟨rfl, rfl⟩
      cbv
      rw [h2] at ht
      have hz : 0 ≤ z ∧ z < (xs.length : Nat) := by simpa using ht.symm
      obtain ⟨i, hi⟩ : ∃ i : Nat, isN z i := ⟨z.toNat, by unfold isN; omega⟩
      have hlt : i < xs.length := by unfold isN at hi; omega
      obtain ⟨x, hx⟩ : ∃ x, xs[i]? = some x := ⟨_, List.getElem?_eq_getElem hlt⟩
      have hxa : L[i]? = some [.int .i64 (.sym x)] := by rw [hL.get, hx]; rfl
      refine .idx i hi (by have : i < I.len L := by rw [hI]; show i < L.length; rw [hL.len]; exact hlt
                           exact this) (.nth _ hxa ?_)
      cbv
      refine hP _ _ [0, 1, 2] [] _ _ (by decide) rfl rfl rfl rfl rfl ⟨_, rfl, by rw [← ht, h]; rfl, .inr ⟨by rw [← ht, h]; rfl, _, ?_, rfl⟩⟩
      unfold isL at hL ⊢
      rw [hI, hL, show z.toNat = i by unfold isN at hi; omega]
      show (nrow .i64 xs).set i _ = _
      simp [nrow, List.map_set]
/-- Another entry, as it is. -/
theorem eclone (f b l u : Z) (d : BB) (L : List (List G)) (hl : L.length * 8 ≤ 140737488355328) : LValid P 19 [.agg (ent f b l u d (.bor 1 L))] [] (fun v m1 => v = .one (.agg (ent f b l u d (.row 0 1 none))) ∧ m1 = [.sym 1 L]) := by
  obtain ⟨I, hI⟩ := ref
  refine fn_sim hI (mo hp) (cc hp c19) fun Post hP => ?_
  cbv
  refine .go [] [] [] (clone hp L hl) rfl rfl rfl rfl rfl rfl ?_
  rintro r m1 ⟨rfl, rfl⟩
  cbv
  exact hP _ _ [2] [] _ _ (by decide) rfl rfl rfl rfl rfl ⟨rfl, rfl⟩
end
end Go.Proofs.Ytlndhigdknmokaa.E
