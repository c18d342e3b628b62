/- Contracts: links and entries. -/
import Derived.Test.YtlndhigdknmokaaQA
namespace Go.Proofs.Ytlndhigdknmokaa.E
open Go
set_option linter.unusedVariables false
set_option maxRecDepth 100000

section
variable {P : Program} (hp : P = Try.prog)
include hp
theorem head (z0 z1 : Z) : LValid P 11 [.agg [.g (.int .i64 z0), .g (.int .i64 z1)]] [] (fun v m1 => ∃ t, t = (z1.val == -1) ∧ v = boo t ∧ m1 = []) := by
  refine bx (LValid.sy (LValid.boo ?_))
  show LValid P 11 [.agg [.g (.int .i64 (.sym z0.val)), .g (.int .i64 (.sym z1.val))]] [] _
  generalize z0.val = z0, z1.val = z1
  obtain ⟨I, hI⟩ := ref
  refine fn_sim hI (mo hp) (cc hp c11) fun Post hP => ?_
  cbv
  exact hP _ _ [] [] _ _ .nil rfl rfl rfl rfl rfl ⟨_, rfl, by rw [hI]; rfl, rfl⟩
theorem tail (z0 z1 : Z) : LValid P 12 [.agg [.g (.int .i64 z0), .g (.int .i64 z1)]] [] (fun v m1 => ∃ t, t = (z0.val == -1) ∧ v = boo t ∧ m1 = []) := by
  refine bx (LValid.sy (LValid.boo ?_))
  show LValid P 12 [.agg [.g (.int .i64 (.sym z0.val)), .g (.int .i64 (.sym z1.val))]] [] _
  generalize z0.val = z0, z1.val = z1
  obtain ⟨I, hI⟩ := ref
  refine fn_sim hI (mo hp) (cc hp c12) fun Post hP => ?_
  cbv
  exact hP _ _ [] [] _ _ .nil rfl rfl rfl rfl rfl ⟨_, rfl, by rw [hI]; rfl, rfl⟩
theorem only (z0 z1 : Z) : LValid P 10 [.agg [.g (.int .i64 z0), .g (.int .i64 z1)]] [] (fun v m1 => ∃ t, t = ((z1.val == -1) && (z0.val == -1)) ∧ v = boo t ∧ m1 = []) := by
  refine bx (LValid.sy (LValid.boo ?_))
  show LValid P 10 [.agg [.g (.int .i64 (.sym z0.val)), .g (.int .i64 (.sym z1.val))]] [] _
  generalize z0.val = z0, z1.val = z1
  obtain ⟨I, hI⟩ := ref
  refine fn_sim hI (mo hp) (cc hp c10) fun Post hP => ?_
  cbv
  refine .go [] [] [] (head hp (.sym z0) (.sym z1)) rfl rfl rfl rfl rfl rfl ?_
  rintro v m1 ⟨t, ht, rfl, rfl⟩
  cbv
  refine .br (fun h => ?_) (fun h => ?_)
  · cbv
    refine .go [] [] [] (tail hp (.sym z0) (.sym z1)) rfl rfl rfl rfl rfl rfl ?_
    rintro v m1 ⟨t2, ht2, rfl, rfl⟩
    cbv
    exact hP _ _ [] [] _ _ .nil rfl rfl rfl rfl rfl ⟨_, rfl, by simp_all [Z.val, BB.val], rfl⟩
  · cbv
    exact hP _ _ [] [] _ _ .nil rfl rfl rfl rfl rfl ⟨_, rfl, by simp_all [Z.val, BB.val], rfl⟩
/-- An entry's cells: its data is block b. -/
def ent (f b l u : Z) (d : BB) (c : C) : List C := [.g (.int .i64 f), .g (.int .i64 b), .g (.int .i64 l), .g (.int .i64 u), .g (.bool d), c]
theorem setFwd (f b l u z : Z) (d : BB) (L : List (List G)) : LValid P 8 [.c (.ptr 0 (.lit 0) 6 0), .c (.g (.int .i64 z))] [.lit 6 [ent f b l u d (.row 1 1 none)], .sym 1 L] (fun v m1 => v = .tup [] ∧ m1 = [.lit 6 [ent z b l u d (.row 1 1 none)], .sym 1 L]) := by
  obtain ⟨I, hI⟩ := ref
  refine fn_sim hI (mo hp) (cc hp c8) fun Post hP => ?_
  cbv
  exact hP _ _ [0, 1] [] _ _ (by decide) rfl rfl rfl rfl rfl ⟨rfl, rfl⟩
theorem setBack (f b l u z : Z) (d : BB) (L : List (List G)) : LValid P 9 [.c (.ptr 0 (.lit 0) 6 0), .c (.g (.int .i64 z))] [.lit 6 [ent f b l u d (.row 1 1 none)], .sym 1 L] (fun v m1 => v = .tup [] ∧ m1 = [.lit 6 [ent f z l u d (.row 1 1 none)], .sym 1 L]) := by
  obtain ⟨I, hI⟩ := ref
  refine fn_sim hI (mo hp) (cc hp c9) fun Post hP => ?_
  cbv
  exact hP _ _ [0, 1] [] _ _ (by decide) rfl rfl rfl rfl rfl ⟨rfl, rfl⟩
theorem clone (l : List (List G)) (hl : l.length * 8 ≤ 140737488355328) : LValid P 21 [.c (.bor 1 l)] [] (fun v m1 => v = .one (.c (.row 0 1 none)) ∧ m1 = [.sym 1 l]) := by
  refine LValid.own (R := fun v m1 => (v = .one (.c (.row 0 1 none)) ∧ m1 = [.sym 1 l]) ∨ (v = .one (.c (.g .nil)) ∧ m1 = [] ∧ l = [])) 1 ?_ (fun v m1 h => h.imp id (fun ⟨h1, h2, h3⟩ => ⟨h1, by rw [h2, h3]; exact ⟨rfl, rfl⟩⟩))
  obtain ⟨I, hI⟩ := ref
  refine fn_sim hI (mo hp) (cc hp c21) fun Post hP => ?_
  cbv
  refine .isnil (fun h => ?_) ?_
  · cbv
    exact hP _ _ [] [] _ _ .nil rfl rfl rfl rfl rfl (.inr ⟨rfl, rfl, h⟩)
  · cbv
    refine .most (by simpa [hI, ints] using hl) (by simp [hI, ints]; omega) ?_
    cbv
    exact hP _ _ [1] [] _ _ (by decide) rfl rfl rfl rfl rfl (.inl ⟨rfl, by rw [hI]; rfl⟩)
theorem new (line fwd back : Z) (dirty : BB) (l : List (List G)) (hl : l.length * 8 ≤ 140737488355328) : LValid P 15 [.c (.g (.int .i64 line)), .c (.g (.int .i64 fwd)), .c (.g (.int .i64 back)), .c (.g (.bool dirty)), .c (.bor 1 l)] []
    (fun v m1 => v = .one (.agg (ent fwd back line (.lit 0) dirty (.row 0 1 none))) ∧ m1 = [.sym 1 l]) := by
  obtain ⟨I, hI⟩ := ref
  refine fn_sim hI (mo hp) (cc hp c15) fun Post hP => ?_
  cbv
  refine .go [] [] [] (clone hp l hl) rfl rfl rfl rfl rfl rfl ?_
  rintro v m1 ⟨rfl, rfl⟩
  cbv
  exact hP _ _ [1] [] _ _ (by decide) rfl rfl rfl rfl rfl ⟨rfl, rfl⟩
theorem wakes : LValid P 13 [] [] (fun v m1 => v = boo true ∧ m1 = []) := by
  refine LValid.boo ?_
  obtain ⟨I, hI⟩ := ref
  refine fn_sim hI (mo hp) (cc hp c13) fun Post hP => ?_
  cbv
  refine .go [] [] [.keep, .keep, .keep, .keep, .bor 1] (new hp (.lit 3) (.lit (-1)) (.lit (-1)) (.lit false) [] (by simp)) rfl rfl rfl rfl rfl rfl ?_
  rintro v m1 ⟨rfl, rfl⟩
  cbv
  refine .go [] [] [] (only hp (.lit (-1)) (.lit (-1))) rfl rfl rfl rfl rfl rfl ?_
  rintro v m1 ⟨t, ht, rfl, rfl⟩
  cbv
  refine br_t ht ?_
  cbv
  refine .go [] [] [] (head hp (.lit (-1)) (.lit (-1))) rfl rfl rfl rfl rfl rfl ?_
  rintro v m1 ⟨t, ht, rfl, rfl⟩
  cbv
  refine br_t ht ?_
  cbv
  refine .go [] [] [] (tail hp (.lit (-1)) (.lit (-1))) rfl rfl rfl rfl rfl rfl ?_
  rintro v m1 ⟨t, ht, rfl, rfl⟩
  cbv
  refine br_t ht ?_
  cbv
  exact hP _ _ [] [] _ _ .nil rfl rfl rfl rfl rfl ⟨_, rfl, rfl, rfl⟩
/-- Is there such a word? -/
theorem is_ (f b l u z : Z) (d : BB) (L : List (List G)) : LValid P 22 [.agg (ent f b l u d (.bor 1 L)), .c (.g (.int .i64 z))] [] (fun v m1 => ∃ t, t = (decide (0 ≤ z.val) && decide (z.val < (L.length : Nat))) ∧ v = boo t ∧ m1 = []) := by
  refine bx (LValid.sy (LValid.boo ?_))
  show LValid P 22 [.agg (ent (.sym f.val) (.sym b.val) (.sym l.val) (.sym u.val) (.sym d.val) (.bor 1 L)), .c (.g (.int .i64 (.sym z.val)))] [] _
  generalize f.val = f, b.val = b, l.val = l, u.val = u, d.val = d, z.val = z
  obtain ⟨I, hI⟩ := ref
  refine fn_sim hI (mo hp) (cc hp c22) fun Post hP => ?_
  cbv
  refine .br (fun h => ?_) (fun h => ?_)
  · have h : 0 ≤ z := by simpa [hI, ints, rCmp] using h
    cbv
    exact hP _ _ [] [] _ _ .nil rfl rfl rfl rfl rfl ⟨_, rfl, by simp [hI, ints, rCmp, BB.val, h], rfl⟩
  · have h : ¬ 0 ≤ z := by simpa [hI, ints, rCmp] using h
    cbv
    exact hP _ _ [] [] _ _ .nil rfl rfl rfl rfl rfl ⟨_, rfl, by simp [BB.val, h], rfl⟩
end
end Go.Proofs.Ytlndhigdknmokaa.E
