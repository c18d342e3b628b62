/- PacketKinds. -/
import Derived.Test.YtccfcenhpmdemaaQPk
namespace Go.Proofs.Ytccfcenhpmdemaa.E
open Go
set_option linter.unusedVariables false
set_option maxRecDepth 100000

section
variable {P : Program} (hp : P = Try.prog)
include hp
set_option maxHeartbeats 8000000 in
theorem kinds (kd : Int) : LValid P 5 [gi .i64 kd] [] (fun v _ => ∃ b : BB, b.val = true ∧ v = .one (.c (.g (.bool b)))) := by
  obtain ⟨I, hI⟩ := ref
  refine fn_sim hI (mo hp) (cc hp c5) fun Post hP => ?_
  cbv
  refine .loop_next (fun n ts m => ∃ (i : Nat) (z c : Int), n = 9 - i ∧ isN z (i + 1) ∧ isN c (min i 6) ∧ i ≤ 9 ∧
      ts = fr 63 [(0, i64 kd), (3, i64 c), (4, i64 z)] ∧ m = [])
    9 _ _ [] [] [0, 3, 4] (by decide) rfl rfl rfl ⟨0, 1, 0, rfl, rfl, rfl, by omega, rfl, rfl⟩ ?_
  rintro next n hnext ts m ⟨i, z, c, hn, hz, hc, hi, rfl, rfl⟩
  by_cases hi1 : i < 9
  · have hz1 : isN (I.bin .add .i64 z 1) (i + 1 + 1) := by unfold isN at hz ⊢; rw [hI]; simp only [ints, rBin]; rw [wrap_in] <;> omega
    have hc1 : i < 6 → isN (I.bin .add .i64 c 1) (min (i + 1) 6) := fun h => by unfold isN at hc ⊢; rw [hI]; simp only [ints, rBin]; rw [wrap_in] <;> omega
    have hc2 : ¬ i < 6 → isN c (min (i + 1) 6) := fun h => by unfold isN at hc ⊢; omega
    rcases (show i = 0 ∨ i = 1 ∨ i = 2 ∨ i = 3 ∨ i = 4 ∨ i = 5 ∨ i = 6 ∨ i = 7 ∨ i = 8 from by omega) with rfl | rfl | rfl | rfl | rfl | rfl | rfl | rfl | rfl
    · have hz : z = 1 := hz
      subst hz
      cbv
      refine br_t (by rw [hI]; rfl) ?_
      cbv
      refine .go [] [] [] (answer hp (.sym 1)) rfl rfl rfl rfl rfl rfl ?_
      rintro r m1 ⟨t1, ht1, rfl, rfl⟩
      have ht1 : t1 = 7 := ht1
      cbv
      refine .go [] [] [] (request hp (.sym 1)) rfl rfl rfl rfl rfl rfl ?_
      rintro r m1 ⟨t2, ht2, rfl, rfl⟩
      have ht2 : t2 = true := ht2
      cbv
      refine br_f (by rw [hI, ht1, ht2]; rfl) ?_
      cbv
      refine br_t (by rw [hI, ht1]; rfl) ?_
      cbv
      refine br_f (by rw [hI, ht1]; rfl) ?_
      cbv
      refine br_f (by rw [hI, ht1]; rfl) ?_
      cbv
      refine .go [] [] [] (answer hp (.sym t1)) rfl rfl rfl rfl rfl rfl ?_
      rintro r m1 ⟨t3, ht3, rfl, rfl⟩
      have ht3 : t3 = 0 := by rw [ht3, ht1]; rfl
      cbv
      refine br_f (by rw [hI, ht3]; rfl) ?_
      cbv
      refine .go [] [] [] (request hp (.sym 1)) rfl rfl rfl rfl rfl rfl ?_
      rintro r m1 ⟨t4, ht4, rfl, rfl⟩
      have ht4 : t4 = true := ht4
      cbv
      refine br_t ht4 ?_
      cbv
      exact hnext _ _ (9 - (0 + 1)) [] [] [0, 3, 4] _ _ (by omega) (by decide) rfl rfl rfl ⟨0 + 1, _, _, rfl, hz1, hc1 (by decide), by omega, rfl, rfl⟩
    · have hz : z = 2 := hz
      subst hz
      cbv
      refine br_t (by rw [hI]; rfl) ?_
      cbv
      refine .go [] [] [] (answer hp (.sym 2)) rfl rfl rfl rfl rfl rfl ?_
      rintro r m1 ⟨t1, ht1, rfl, rfl⟩
      have ht1 : t1 = 8 := ht1
      cbv
      refine .go [] [] [] (request hp (.sym 2)) rfl rfl rfl rfl rfl rfl ?_
      rintro r m1 ⟨t2, ht2, rfl, rfl⟩
      have ht2 : t2 = true := ht2
      cbv
      refine br_f (by rw [hI, ht1, ht2]; rfl) ?_
      cbv
      refine br_t (by rw [hI, ht1]; rfl) ?_
      cbv
      refine br_f (by rw [hI, ht1]; rfl) ?_
      cbv
      refine br_f (by rw [hI, ht1]; rfl) ?_
      cbv
      refine .go [] [] [] (answer hp (.sym t1)) rfl rfl rfl rfl rfl rfl ?_
      rintro r m1 ⟨t3, ht3, rfl, rfl⟩
      have ht3 : t3 = 0 := by rw [ht3, ht1]; rfl
      cbv
      refine br_f (by rw [hI, ht3]; rfl) ?_
      cbv
      refine .go [] [] [] (request hp (.sym 2)) rfl rfl rfl rfl rfl rfl ?_
      rintro r m1 ⟨t4, ht4, rfl, rfl⟩
      have ht4 : t4 = true := ht4
      cbv
      refine br_t ht4 ?_
      cbv
      exact hnext _ _ (9 - (1 + 1)) [] [] [0, 3, 4] _ _ (by omega) (by decide) rfl rfl rfl ⟨1 + 1, _, _, rfl, hz1, hc1 (by decide), by omega, rfl, rfl⟩
    · have hz : z = 3 := hz
      subst hz
      cbv
      refine br_t (by rw [hI]; rfl) ?_
      cbv
      refine .go [] [] [] (answer hp (.sym 3)) rfl rfl rfl rfl rfl rfl ?_
      rintro r m1 ⟨t1, ht1, rfl, rfl⟩
      have ht1 : t1 = 9 := ht1
      cbv
      refine .go [] [] [] (request hp (.sym 3)) rfl rfl rfl rfl rfl rfl ?_
      rintro r m1 ⟨t2, ht2, rfl, rfl⟩
      have ht2 : t2 = true := ht2
      cbv
      refine br_f (by rw [hI, ht1, ht2]; rfl) ?_
      cbv
      refine br_t (by rw [hI, ht1]; rfl) ?_
      cbv
      refine br_f (by rw [hI, ht1]; rfl) ?_
      cbv
      refine br_f (by rw [hI, ht1]; rfl) ?_
      cbv
      refine .go [] [] [] (answer hp (.sym t1)) rfl rfl rfl rfl rfl rfl ?_
      rintro r m1 ⟨t3, ht3, rfl, rfl⟩
      have ht3 : t3 = 0 := by rw [ht3, ht1]; rfl
      cbv
      refine br_f (by rw [hI, ht3]; rfl) ?_
      cbv
      refine .go [] [] [] (request hp (.sym 3)) rfl rfl rfl rfl rfl rfl ?_
      rintro r m1 ⟨t4, ht4, rfl, rfl⟩
      have ht4 : t4 = true := ht4
      cbv
      refine br_t ht4 ?_
      cbv
      exact hnext _ _ (9 - (2 + 1)) [] [] [0, 3, 4] _ _ (by omega) (by decide) rfl rfl rfl ⟨2 + 1, _, _, rfl, hz1, hc1 (by decide), by omega, rfl, rfl⟩
    · have hz : z = 4 := hz
      subst hz
      cbv
      refine br_t (by rw [hI]; rfl) ?_
      cbv
      refine .go [] [] [] (answer hp (.sym 4)) rfl rfl rfl rfl rfl rfl ?_
      rintro r m1 ⟨t1, ht1, rfl, rfl⟩
      have ht1 : t1 = 8 := ht1
      cbv
      refine .go [] [] [] (request hp (.sym 4)) rfl rfl rfl rfl rfl rfl ?_
      rintro r m1 ⟨t2, ht2, rfl, rfl⟩
      have ht2 : t2 = true := ht2
      cbv
      refine br_f (by rw [hI, ht1, ht2]; rfl) ?_
      cbv
      refine br_t (by rw [hI, ht1]; rfl) ?_
      cbv
      refine br_f (by rw [hI, ht1]; rfl) ?_
      cbv
      refine br_f (by rw [hI, ht1]; rfl) ?_
      cbv
      refine .go [] [] [] (answer hp (.sym t1)) rfl rfl rfl rfl rfl rfl ?_
      rintro r m1 ⟨t3, ht3, rfl, rfl⟩
      have ht3 : t3 = 0 := by rw [ht3, ht1]; rfl
      cbv
      refine br_f (by rw [hI, ht3]; rfl) ?_
      cbv
      refine .go [] [] [] (request hp (.sym 4)) rfl rfl rfl rfl rfl rfl ?_
      rintro r m1 ⟨t4, ht4, rfl, rfl⟩
      have ht4 : t4 = true := ht4
      cbv
      refine br_t ht4 ?_
      cbv
      exact hnext _ _ (9 - (3 + 1)) [] [] [0, 3, 4] _ _ (by omega) (by decide) rfl rfl rfl ⟨3 + 1, _, _, rfl, hz1, hc1 (by decide), by omega, rfl, rfl⟩
    · have hz : z = 5 := hz
      subst hz
      cbv
      refine br_t (by rw [hI]; rfl) ?_
      cbv
      refine .go [] [] [] (answer hp (.sym 5)) rfl rfl rfl rfl rfl rfl ?_
      rintro r m1 ⟨t1, ht1, rfl, rfl⟩
      have ht1 : t1 = 8 := ht1
      cbv
      refine .go [] [] [] (request hp (.sym 5)) rfl rfl rfl rfl rfl rfl ?_
      rintro r m1 ⟨t2, ht2, rfl, rfl⟩
      have ht2 : t2 = true := ht2
      cbv
      refine br_f (by rw [hI, ht1, ht2]; rfl) ?_
      cbv
      refine br_t (by rw [hI, ht1]; rfl) ?_
      cbv
      refine br_f (by rw [hI, ht1]; rfl) ?_
      cbv
      refine br_f (by rw [hI, ht1]; rfl) ?_
      cbv
      refine .go [] [] [] (answer hp (.sym t1)) rfl rfl rfl rfl rfl rfl ?_
      rintro r m1 ⟨t3, ht3, rfl, rfl⟩
      have ht3 : t3 = 0 := by rw [ht3, ht1]; rfl
      cbv
      refine br_f (by rw [hI, ht3]; rfl) ?_
      cbv
      refine .go [] [] [] (request hp (.sym 5)) rfl rfl rfl rfl rfl rfl ?_
      rintro r m1 ⟨t4, ht4, rfl, rfl⟩
      have ht4 : t4 = true := ht4
      cbv
      refine br_t ht4 ?_
      cbv
      exact hnext _ _ (9 - (4 + 1)) [] [] [0, 3, 4] _ _ (by omega) (by decide) rfl rfl rfl ⟨4 + 1, _, _, rfl, hz1, hc1 (by decide), by omega, rfl, rfl⟩
    · have hz : z = 6 := hz
      subst hz
      cbv
      refine br_t (by rw [hI]; rfl) ?_
      cbv
      refine .go [] [] [] (answer hp (.sym 6)) rfl rfl rfl rfl rfl rfl ?_
      rintro r m1 ⟨t1, ht1, rfl, rfl⟩
      have ht1 : t1 = 9 := ht1
      cbv
      refine .go [] [] [] (request hp (.sym 6)) rfl rfl rfl rfl rfl rfl ?_
      rintro r m1 ⟨t2, ht2, rfl, rfl⟩
      have ht2 : t2 = true := ht2
      cbv
      refine br_f (by rw [hI, ht1, ht2]; rfl) ?_
      cbv
      refine br_t (by rw [hI, ht1]; rfl) ?_
      cbv
      refine br_f (by rw [hI, ht1]; rfl) ?_
      cbv
      refine br_f (by rw [hI, ht1]; rfl) ?_
      cbv
      refine .go [] [] [] (answer hp (.sym t1)) rfl rfl rfl rfl rfl rfl ?_
      rintro r m1 ⟨t3, ht3, rfl, rfl⟩
      have ht3 : t3 = 0 := by rw [ht3, ht1]; rfl
      cbv
      refine br_f (by rw [hI, ht3]; rfl) ?_
      cbv
      refine .go [] [] [] (request hp (.sym 6)) rfl rfl rfl rfl rfl rfl ?_
      rintro r m1 ⟨t4, ht4, rfl, rfl⟩
      have ht4 : t4 = true := ht4
      cbv
      refine br_t ht4 ?_
      cbv
      exact hnext _ _ (9 - (5 + 1)) [] [] [0, 3, 4] _ _ (by omega) (by decide) rfl rfl rfl ⟨5 + 1, _, _, rfl, hz1, hc1 (by decide), by omega, rfl, rfl⟩
    · have hz : z = 7 := hz
      subst hz
      cbv
      refine br_t (by rw [hI]; rfl) ?_
      cbv
      refine .go [] [] [] (answer hp (.sym 7)) rfl rfl rfl rfl rfl rfl ?_
      rintro r m1 ⟨t1, ht1, rfl, rfl⟩
      have ht1 : t1 = 0 := ht1
      cbv
      refine .go [] [] [] (request hp (.sym 7)) rfl rfl rfl rfl rfl rfl ?_
      rintro r m1 ⟨t2, ht2, rfl, rfl⟩
      have ht2 : t2 = false := ht2
      cbv
      refine br_f (by rw [hI, ht1, ht2]; rfl) ?_
      cbv
      refine br_f (by rw [hI, ht1]; rfl) ?_
      cbv
      refine .go [] [] [] (request hp (.sym 7)) rfl rfl rfl rfl rfl rfl ?_
      rintro r m1 ⟨t4, ht4, rfl, rfl⟩
      have ht4 : t4 = false := ht4
      cbv
      refine br_f ht4 ?_
      cbv
      exact hnext _ _ (9 - (6 + 1)) [] [] [0, 3, 4] _ _ (by omega) (by decide) rfl rfl rfl ⟨6 + 1, _, _, rfl, hz1, hc2 (by decide), by omega, rfl, rfl⟩
    · have hz : z = 8 := hz
      subst hz
      cbv
      refine br_t (by rw [hI]; rfl) ?_
      cbv
      refine .go [] [] [] (answer hp (.sym 8)) rfl rfl rfl rfl rfl rfl ?_
      rintro r m1 ⟨t1, ht1, rfl, rfl⟩
      have ht1 : t1 = 0 := ht1
      cbv
      refine .go [] [] [] (request hp (.sym 8)) rfl rfl rfl rfl rfl rfl ?_
      rintro r m1 ⟨t2, ht2, rfl, rfl⟩
      have ht2 : t2 = false := ht2
      cbv
      refine br_f (by rw [hI, ht1, ht2]; rfl) ?_
      cbv
      refine br_f (by rw [hI, ht1]; rfl) ?_
      cbv
      refine .go [] [] [] (request hp (.sym 8)) rfl rfl rfl rfl rfl rfl ?_
      rintro r m1 ⟨t4, ht4, rfl, rfl⟩
      have ht4 : t4 = false := ht4
      cbv
      refine br_f ht4 ?_
      cbv
      exact hnext _ _ (9 - (7 + 1)) [] [] [0, 3, 4] _ _ (by omega) (by decide) rfl rfl rfl ⟨7 + 1, _, _, rfl, hz1, hc2 (by decide), by omega, rfl, rfl⟩
    · have hz : z = 9 := hz
      subst hz
      cbv
      refine br_t (by rw [hI]; rfl) ?_
      cbv
      refine .go [] [] [] (answer hp (.sym 9)) rfl rfl rfl rfl rfl rfl ?_
      rintro r m1 ⟨t1, ht1, rfl, rfl⟩
      have ht1 : t1 = 0 := ht1
      cbv
      refine .go [] [] [] (request hp (.sym 9)) rfl rfl rfl rfl rfl rfl ?_
      rintro r m1 ⟨t2, ht2, rfl, rfl⟩
      have ht2 : t2 = false := ht2
      cbv
      refine br_f (by rw [hI, ht1, ht2]; rfl) ?_
      cbv
      refine br_f (by rw [hI, ht1]; rfl) ?_
      cbv
      refine .go [] [] [] (request hp (.sym 9)) rfl rfl rfl rfl rfl rfl ?_
      rintro r m1 ⟨t4, ht4, rfl, rfl⟩
      have ht4 : t4 = false := ht4
      cbv
      refine br_f ht4 ?_
      cbv
      exact hnext _ _ (9 - (8 + 1)) [] [] [0, 3, 4] _ _ (by omega) (by decide) rfl rfl rfl ⟨8 + 1, _, _, rfl, hz1, hc2 (by decide), by omega, rfl, rfl⟩
  have hi9 : i = 9 := by omega
  subst hi9
  have hz : z = 10 := hz
  have hc : c = 6 := hc
  subst hz hc
  have hX : ∀ q : Bool, I.cmp .geq kd 1 = q → reqB kd = (q && I.cmp .leq kd 6) := fun q h => by rw [← h, hI]; rfl
  cbv
  refine br_f (by rw [hI]; rfl) ?_
  cbv
  refine .br (fun g => ?_) (fun g => ?_)
  · have g := hX _ g
    cbv
    refine br_t (by rw [hI]; rfl) ?_
    cbv
    refine .go [] [] [] (request hp (.sym kd)) rfl rfl rfl rfl rfl rfl ?_
    rintro r m1 ⟨t1, ht1, rfl, rfl⟩
    have ht1 : t1 = reqB kd := ht1
    have hb1 : I.beq t1 (I.cmp .leq kd 6) = true := by rw [ht1, g, hI]; simp [ints]
    cbv
    refine br_t hb1 ?_
    cbv
    refine .go [] [] [] (answer hp (.sym kd)) rfl rfl rfl rfl rfl rfl ?_
    rintro r m1 ⟨t2, ht2, rfl, rfl⟩
    have ht2 : t2 = ansI kd := ht2
    have hb2 : I.beq (I.cmp .neq t2 0) (I.cmp .leq kd 6) = true := by
      have e : I.cmp .neq t2 0 = reqB kd := by rw [ht2, hI]; exact ans_req kd
      rw [e, g, hI]; simp [ints]
    cbv
    refine br_t hb2 ?_
    cbv
    refine .go [] [] [] (wakes hp) rfl rfl rfl rfl rfl rfl ?_
    rintro v m1 ⟨rfl, rfl⟩
    cbv
    exact hP _ _ [] [] _ _ .nil rfl rfl rfl rfl rfl ⟨_, rfl, rfl⟩
  · have g := hX _ g
    cbv
    refine br_t (by rw [hI]; rfl) ?_
    cbv
    refine .go [] [] [] (request hp (.sym kd)) rfl rfl rfl rfl rfl rfl ?_
    rintro r m1 ⟨t1, ht1, rfl, rfl⟩
    have ht1 : t1 = reqB kd := ht1
    have hb1 : I.beq t1 false = true := by rw [ht1, g, hI]; simp [ints]
    cbv
    refine br_t hb1 ?_
    cbv
    refine .go [] [] [] (answer hp (.sym kd)) rfl rfl rfl rfl rfl rfl ?_
    rintro r m1 ⟨t2, ht2, rfl, rfl⟩
    have ht2 : t2 = ansI kd := ht2
    have hb2 : I.beq (I.cmp .neq t2 0) false = true := by
      have e : I.cmp .neq t2 0 = reqB kd := by rw [ht2, hI]; exact ans_req kd
      rw [e, g, hI]; simp [ints]
    cbv
    refine br_t hb2 ?_
    cbv
    refine .go [] [] [] (wakes hp) rfl rfl rfl rfl rfl rfl ?_
    rintro v m1 ⟨rfl, rfl⟩
    cbv
    exact hP _ _ [] [] _ _ .nil rfl rfl rfl rfl rfl ⟨_, rfl, rfl⟩
end
end Go.Proofs.Ytccfcenhpmdemaa.E
