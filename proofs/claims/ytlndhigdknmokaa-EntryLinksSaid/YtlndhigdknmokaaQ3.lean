/- EntryLinks. -/
import Derived.Test.YtlndhigdknmokaaQ2
namespace Go.Proofs.Ytlndhigdknmokaa.E
open Go
set_option linter.unusedVariables false
set_option maxRecDepth 100000

section
variable {P : Program} (hp : P = Try.prog)
include hp
/-- A number that counts. -/
def isN (z : Int) (n : Nat) : Prop := z = (n : Int)
omit hp in
theorem bx {f : FuncId} {args : List V1} {m : Mem} {x : Bool} (h : LValid P f args m (fun v m1 => v = boo x ∧ m1 = [])) : LValid P f args m (fun v m1 => ∃ t, t = x ∧ v = boo t ∧ m1 = []) := h.mono fun v m1 h => ⟨_, rfl, h.1, h.2⟩
omit hp in
theorem wrap_in (x : Int) (h1 : -9223372036854775808 ≤ x) (h2 : x ≤ 9223372036854775807) : IntKind.i64.wrap x = x := by
  rw [IntKind.wrap_i64]
  omega
theorem links (L : List (List G)) (hL : ∀ (i : Nat) (r : List G), L[i]? = some r → ∃ x : Int, r = [.int .i64 (.sym x)]) : LValid P 3 [.c (.g (.rows 1 L))] [] (fun v _ => ∃ b : BB, b.val = true ∧ v = .one (.c (.g (.bool b)))) := by
  obtain ⟨I, hI⟩ := ref
  refine fn_sim hI (mo hp) (cc hp c3) fun Post hP => ?_
  cbv
  refine .loop_next (fun n ts m => ∃ (i : Nat) (z f b : Int), n = 12 - i ∧ isN z i ∧ ts = fr 74 [(0, .one (.c (.g (.rows 1 L)))), (3, .one (.c (.ptr 0 (.lit 0) 2 0))), (4, i64 f), (5, i64 b), (6, i64 z)] ∧ m = [.lit 2 [[.g (.int .i64 (.sym f)), .g (.int .i64 (.sym b))]]])
    12 _ _ [0] [] [0, 3, 4, 5, 6] (by decide) rfl rfl rfl ⟨0, 0, -1, -1, rfl, rfl, rfl, rfl⟩ ?_
  rintro next n hnext ts m ⟨i, z, f, b, hn, hz, rfl, rfl⟩
  cbv
  refine .br (fun h1 => ?_) (fun h1 => ?_)
  · cbv
    have h1' : i < L.length := by
      have : z < (L.length : Int) := by simpa [hI, ints, rCmp] using h1
      unfold isN at hz
      omega
    obtain ⟨r, hr⟩ : ∃ r, L[i]? = some r := ⟨_, List.getElem?_eq_getElem h1'⟩
    obtain ⟨x, rfl⟩ := hL i r hr
    have hlen : i < ints.len L := h1'
    rw [← hI] at hlen
    refine .br (fun h2 => ?_) (fun h2 => ?_)
    · have h2' : i < 12 := by
        have : z < 12 := by simpa [hI, ints, rCmp] using h2
        unfold isN at hz
        omega
      cbv
      refine .idx i hz hlen (.nth _ hr ?_)
      cbv
      refine .go [] [] [] (within hp _ _) rfl rfl rfl rfl rfl rfl ?_
      rintro v m1 ⟨rfl, rfl⟩
      generalize win _ _ = y
      cbv
      refine .idx i hz hlen (.nth _ hr ?_)
      cbv
      refine .br (fun h3 => ?_) (fun h3 => ?_)
      · cbv
        refine .go [0] [] [] (setFwd hp (.sym f) (.sym b) _) rfl rfl rfl rfl rfl rfl ?_
        rintro v m1 ⟨rfl, rfl⟩
        cbv
        refine .drawn [] ?_
        cbv
        repeat' (first
          | (refine br_f ?_ ?_; (· clear hnext hP hL hr; simp_all [ints, rCmp, Z.val]; done); cbv)
          | (refine .br (fun h => ?_) (fun h => ?_) <;> cbv)
          | (refine .go [] [] [] (bx (only hp _ _)) rfl rfl rfl rfl rfl rfl ?_; rintro v m1 ⟨t, ht, rfl, rfl⟩; cbv)
          | (refine .go [] [] [] (bx (head hp _ _)) rfl rfl rfl rfl rfl rfl ?_; rintro v m1 ⟨t, ht, rfl, rfl⟩; cbv)
          | (refine .go [] [] [] (bx (tail hp _ _)) rfl rfl rfl rfl rfl rfl ?_; rintro v m1 ⟨t, ht, rfl, rfl⟩; cbv))
        all_goals have hz1 : isN (I.bin BinOp.add .i64 z 1) (i + 1) := by unfold isN at hz ⊢; rw [hI]; simp only [ints, rBin]; rw [wrap_in] <;> omega
        all_goals exact hnext _ _ (12 - (i + 1)) [0] [] [0, 3, 4, 5, 6] _ _ (by omega) (by decide) rfl rfl rfl ⟨i + 1, _, _, _, rfl, hz1, rfl, rfl⟩
      · cbv
        refine .go [0] [] [] (setBack hp (.sym f) (.sym b) _) rfl rfl rfl rfl rfl rfl ?_
        rintro v m1 ⟨rfl, rfl⟩
        cbv
        refine .drawn [] ?_
        cbv
        repeat' (first
          | (refine br_f ?_ ?_; (· clear hnext hP hL hr; simp_all [ints, rCmp, Z.val]; done); cbv)
          | (refine .br (fun h => ?_) (fun h => ?_) <;> cbv)
          | (refine .go [] [] [] (bx (only hp _ _)) rfl rfl rfl rfl rfl rfl ?_; rintro v m1 ⟨t, ht, rfl, rfl⟩; cbv)
          | (refine .go [] [] [] (bx (head hp _ _)) rfl rfl rfl rfl rfl rfl ?_; rintro v m1 ⟨t, ht, rfl, rfl⟩; cbv)
          | (refine .go [] [] [] (bx (tail hp _ _)) rfl rfl rfl rfl rfl rfl ?_; rintro v m1 ⟨t, ht, rfl, rfl⟩; cbv))
        all_goals have hz1 : isN (I.bin BinOp.add .i64 z 1) (i + 1) := by unfold isN at hz ⊢; rw [hI]; simp only [ints, rBin]; rw [wrap_in] <;> omega
        all_goals exact hnext _ _ (12 - (i + 1)) [0] [] [0, 3, 4, 5, 6] _ _ (by omega) (by decide) rfl rfl rfl ⟨i + 1, _, _, _, rfl, hz1, rfl, rfl⟩
    · cbv
      refine .go [] [] [] (wakes hp) rfl rfl rfl rfl rfl rfl ?_
      rintro v m1 ⟨rfl, rfl⟩
      cbv
      exact hP _ _ [] [] _ _ .nil rfl rfl rfl rfl rfl ⟨_, rfl, rfl⟩
  · cbv
    refine .go [] [] [] (wakes hp) rfl rfl rfl rfl rfl rfl ?_
    rintro v m1 ⟨rfl, rfl⟩
    cbv
    exact hP _ _ [] [] _ _ .nil rfl rfl rfl rfl rfl ⟨_, rfl, rfl⟩

end
end Go.Proofs.Ytlndhigdknmokaa.E
