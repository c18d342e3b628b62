/- Contracts: entries. -/
import Derived.Test.YtlndhigdknmokaaQ1
namespace Go.Proofs.Ytlndhigdknmokaa.E
open Go
set_option linter.unusedVariables false
set_option maxRecDepth 100000

section
variable {P : Program} (hp : P = Try.prog)
include hp
theorem clone (l : List (List G)) (hl : l.length * 8 ≤ 140737488355328) : LValid P 21 [.c (.bor 1 l)] [] (fun v m1 => v = .one (.c (.row 0 1 none)) ∧ m1 = [.sym 1 l]) := by
  refine LValid.own (R := fun v m1 => (v = .one (.c (.row 0 1 none)) ∧ m1 = [.sym 1 l]) ∨ (v = .one (.c (.g .nil)) ∧ m1 = [] ∧ l = [])) 1 ?_ (fun v m1 h => h.imp id (fun ⟨h1, h2, h3⟩ => ⟨h1, by rw [h2, h3]; exact ⟨rfl, rfl⟩⟩))
  obtain ⟨I, hI⟩ := ref
  refine fn_sim hI (mo hp) (cc hp c21) fun Post hP => ?_
  cbv
  refine .isnil (fun h => ?_) ?_
  · cbv
    exact hP _ _ [] [] _ _ .nil rfl rfl rfl rfl rfl (.inr ⟨rfl, rfl, h⟩)
  · cbv
    refine .most (by simpa [hI, ints] using hl) (by simp [hI, ints]; omega) ?_
    cbv
    exact hP _ _ [1] [] _ _ (by decide) rfl rfl rfl rfl rfl (.inl ⟨rfl, by rw [hI]; rfl⟩)
theorem new (line fwd back : Z) (dirty : BB) (l : List (List G)) (hl : l.length * 8 ≤ 140737488355328) : LValid P 15 [.c (.g (.int .i64 line)), .c (.g (.int .i64 fwd)), .c (.g (.int .i64 back)), .c (.g (.bool dirty)), .c (.bor 1 l)] []
    (fun v m1 => v = .one (.agg [.g (.int .i64 fwd), .g (.int .i64 back), .g (.int .i64 line), .g (.int .i64 (.lit 0)), .g (.bool dirty), .row 0 1 none]) ∧ m1 = [.sym 1 l]) := by
  obtain ⟨I, hI⟩ := ref
  refine fn_sim hI (mo hp) (cc hp c15) fun Post hP => ?_
  cbv
  refine .call [] [] [] _ _ _ (clone hp l hl) .nil (fun b h => by simp at h) (fun b h => by simp at h) (fun q h => by simp at h) rfl rfl ?_
  rintro v m1 ⟨rfl, rfl⟩
  cbv
  exact hP _ _ [1] [] _ _ (by decide) rfl rfl rfl rfl rfl ⟨rfl, rfl⟩
theorem wakes : LValid P 13 [] [] (fun v m1 => v = boo true ∧ m1 = []) := by
  refine LValid.boo ?_
  obtain ⟨I, hI⟩ := ref
  refine fn_sim hI (mo hp) (cc hp c13) fun Post hP => ?_
  cbv
  refine .call [] [] [.keep, .keep, .keep, .keep, .bor 1] _ _ _ (new hp (.lit 3) (.lit (-1)) (.lit (-1)) (.lit false) [] (by simp)) .nil (fun b h => by simp at h) (fun b h => by simp at h) (fun q h => by rintro l rfl; simp at h) rfl rfl ?_
  rintro v m1 ⟨rfl, rfl⟩
  cbv
  refine .call [] [] [] _ _ _ (only hp (.lit (-1)) (.lit (-1))) .nil (fun b h => by simp at h) (fun b h => by simp at h) (fun q h => by simp at h) rfl rfl ?_
  rintro v m1 ⟨rfl, rfl⟩
  generalize hb : ((Z.val (.lit (-1)) == -1) && (Z.val (.lit (-1)) == -1)) = b
  cbv
  refine br_t (by rw [← hb]; rfl) ?_
  cbv
  refine .call [] [] [] _ _ _ (head hp (.lit (-1)) (.lit (-1))) .nil (fun b h => by simp at h) (fun b h => by simp at h) (fun q h => by simp at h) rfl rfl ?_
  rintro v m1 ⟨rfl, rfl⟩
  generalize hb2 : (Z.val (.lit (-1)) == -1) = b2
  cbv
  refine br_t (by rw [← hb2]; rfl) ?_
  cbv
  refine .call [] [] [] _ _ _ (tail hp (.lit (-1)) (.lit (-1))) .nil (fun b h => by simp at h) (fun b h => by simp at h) (fun q h => by simp at h) rfl rfl ?_
  rintro v m1 ⟨rfl, rfl⟩
  generalize hb3 : (Z.val (.lit (-1)) == -1) = b3
  cbv
  refine br_t (by rw [← hb3]; rfl) ?_
  cbv
  exact hP _ _ [] [] _ _ .nil rfl rfl rfl rfl rfl ⟨_, rfl, by rfl, rfl⟩
end
end Go.Proofs.Ytlndhigdknmokaa.E
