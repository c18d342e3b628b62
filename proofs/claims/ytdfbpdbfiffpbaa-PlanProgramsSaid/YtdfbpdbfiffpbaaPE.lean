/- Contract: which configuration a setup gives. -/
import Derived.Test.YtdfbpdbfiffpbaaPV
namespace Go.Proofs.Ytdfbpdbfiffpbaa.E
open Go
set_option linter.unusedVariables false
set_option maxRecDepth 100000

/-- The configuration of a setup. -/
def CFof (a b c d e f g : Int) (xs : List Int) : CF := ⟨rBin .add .i64 1 (win a 4), rBin .add .i64 1 (win b 4), rBin .add .i64 1 (win c 2), rBin .add .i64 1 (win d 2), rBin .add .i64 1 (win e 2), rBin .add .i64 1 (win f 3), rBin .add .i64 1 (win g 3), xs.take (rBin .mul .i64 (rBin .add .i64 1 (win b 4)) (rBin .add .i64 1 (win c 2))).toNat⟩
section
variable {P : Program} (hp : P = Try.prog)
include hp
set_option maxHeartbeats 4000000 in
/-- The configuration of a setup, frozen: which one. -/
theorem configE (a b c d e f g : Int) (l l1 l2 l3 l4 : List (List G)) (xs : List Int) (hx : isL .i64 l xs) : LValid P 12 [.agg [.g (.int .i64 (.sym a)), .g (.int .i64 (.sym b)), .g (.int .i64 (.sym c)), .g (.int .i64 (.sym d)), .g (.int .i64 (.sym e)), .g (.int .i64 (.sym f)), .g (.int .i64 (.sym g)), .bor 1 l, .bor 1 l1, .bor 1 l2, .bor 1 l3, .bor 1 l4]] []
    (fun v m1 => (CFof a b c d e f g xs).ok ∧ ∃ L : List (List G), isL .i64 L (CFof a b c d e f g xs).ini ∧ v = .one ((CFof a b c d e f g xs).told L) ∧ m1 = []) := by
  obtain ⟨I, hI⟩ := ref
  refine fn_sim hI (mo hp) (cc hp c12) fun Post hP => ?_
  cbv
  refine .drawn [] ?_
  repeat' first
    | (refine .both ?_ ?_)
    | (refine .go [] [] [] (within hp _ _) rfl rfl rfl rfl rfl rfl ?_; rintro r m1 ⟨y, hy, rfl, rfl⟩; cbv)
  all_goals
    rename_i y1 h1 y2 h2 y3 h3 y4 h4 y5 h5 y6 h6
    as_aux_lemma =>
      have q1 := inc_in a 4 (by omega) (by omega)
      have q2 := inc_in b 4 (by omega) (by omega)
      have q3 := inc_in c 2 (by omega) (by omega)
      have q4 := inc_in d 2 (by omega) (by omega)
      rw [← show y1 = win a 4 from h1, ← hI] at q1
      rw [← show y2 = win b 4 from h2, ← hI] at q2
      rw [← show y3 = win c 2 from h3, ← hI] at q3
      rw [← show y4 = win d 2 from h4, ← hI] at q4
      have h9 : ∃ n : Nat, isN (I.bin .mul .i64 (I.bin .add .i64 1 y2) (I.bin .add .i64 1 y3)) n ∧ n ≤ 8 := by
        have := mul_in _ _ q2 q3
        rw [← hI] at this
        exact this
      obtain ⟨n, hn, hn8⟩ := h9
      have hpr : ((n : Int)) = (I.bin .add .i64 1 y2) * (I.bin .add .i64 1 y3) := by
        have h : IntKind.i64.wrap ((I.bin .add .i64 1 y2) * (I.bin .add .i64 1 y3)) = (I.bin .add .i64 1 y2) * (I.bin .add .i64 1 y3) := by first | exact inB_prod hp 0 _ _ q2 q3 | exact inB_prod 0 _ _ q2 q3
        have hn : I.bin .mul .i64 (I.bin .add .i64 1 y2) (I.bin .add .i64 1 y3) = (n : Int) := hn
        rw [← hn, ← h, hI]
        rfl
      have hlen : (xs.take n).length ≤ 8 ∧ (((xs.take n).length : Nat) : Int) ≤ (I.bin .add .i64 1 y2) * (I.bin .add .i64 1 y3) := by
        rw [← hpr, List.length_take]
        omega
      have hok : CF.ok ⟨I.bin .add .i64 1 y1, I.bin .add .i64 1 y2, I.bin .add .i64 1 y3, I.bin .add .i64 1 y4, I.bin .add .i64 1 y5, I.bin .add .i64 1 y6, I.bin .add .i64 1 y, xs.take n⟩ := ⟨q1, q2, q3, q4, hlen⟩
      have hrow : ∀ l' : List (List G), l' = l.take n → l' = nrow .i64 (xs.take n) := fun l' h => by rw [h, hx]; simp [nrow, List.map_take]
      clear hpr hlen q1 q2 q3 q4
      refine .go [] [] [.bor 1, .keep] (cut8 hp l (.sym _) n hn hn8) rfl rfl rfl rfl rfl rfl ?_
      rintro r m1 ⟨l', hl', rfl, rfl⟩
      have hr2 := hrow l' hl'
      have hcf : CF.mk (I.bin .add .i64 1 y1) (I.bin .add .i64 1 y2) (I.bin .add .i64 1 y3) (I.bin .add .i64 1 y4) (I.bin .add .i64 1 y5) (I.bin .add .i64 1 y6) (I.bin .add .i64 1 y) (xs.take n) = CFof a b c d e f g xs := by
        have hnn : n = (rBin .mul .i64 (rBin .add .i64 1 (win b 4)) (rBin .add .i64 1 (win c 2))).toNat := by
          have hn : I.bin .mul .i64 (I.bin .add .i64 1 y2) (I.bin .add .i64 1 y3) = (n : Int) := hn
          rw [hI, show y2 = win b 4 from h2, show y3 = win c 2 from h3] at hn
          have hn : rBin .mul .i64 (rBin .add .i64 1 (win b 4)) (rBin .add .i64 1 (win c 2)) = (n : Int) := hn
          rw [hn]
          rfl
        unfold CFof
        rw [← hnn, hI, show y1 = win a 4 from h1, show y2 = win b 4 from h2, show y3 = win c 2 from h3, show y4 = win d 2 from h4, show y5 = win e 2 from h5, show y6 = win f 3 from h6, show y = win g 3 from hy]
        rfl
      have hv : (CFof a b c d e f g xs).ok ∧ ∃ L : List (List G), isL .i64 L (CFof a b c d e f g xs).ini ∧ A.one (.agg (cfg (.sym (I.bin .add .i64 1 y1)) (.sym (I.bin .add .i64 1 y2)) (.sym (I.bin .add .i64 1 y3)) (.sym (I.bin .add .i64 1 y4)) (.sym (I.bin .add .i64 1 y5)) (.sym (I.bin .add .i64 1 y6)) (.sym (I.bin .add .i64 1 y)) (.g (.rows 1 l')))) = .one ((CFof a b c d e f g xs).told L) ∧ ([] : Mem) = [] := by
        rw [← hcf]
        exact ⟨hok, l', hr2, rfl, rfl⟩
      clear hr2 hl' hok hrow hcf
      cbv
      exact hP _ _ [] [3] _ _ (by decide) rfl rfl rfl rfl rfl hv
end
end Go.Proofs.Ytdfbpdbfiffpbaa.E
