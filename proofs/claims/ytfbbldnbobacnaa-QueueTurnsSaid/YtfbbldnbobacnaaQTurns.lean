/- QueueTurns. -/
import Derived.Test.YtfbbldnbobacnaaQQ
namespace Go.Proofs.Ytfbbldnbobacnaa.E
open Go
set_option linter.unusedVariables false
set_option maxRecDepth 100000

/-- Packets of nothing but these IDs. -/
def ids (ps : List PK) (f : Nat → Nat) (n : Nat) : Prop := ps.length = n ∧ (∀ q ∈ ps, q.d = []) ∧ ∀ j q, ps[j]? = some q → isN q.i (f j)
theorem ids.put {ps : List PK} {f : Nat → Nat} {n : Nat} (h : ids ps f n) (z : Int) (hz : isN z (f n)) : ids (ps ++ [⟨0, 0, 0, z, 0, 0, 0, false, []⟩]) f (n + 1) := by
  obtain ⟨h1, h2, h3⟩ := h
  refine ⟨by simp [h1], fun q hq => ?_, fun j q hq => ?_⟩
  · rcases List.mem_append.1 hq with hq | hq
    · exact h2 q hq
    · simp at hq; rw [hq]
  · rw [List.getElem?_append] at hq
    split at hq
    · exact h3 j q hq
    · have hj : j = ps.length := by
        cases hq2 : j - ps.length with
        | zero => omega
        | succ n => rw [hq2] at hq; simp at hq
      subst hj
      simp at hq
      subst hq
      rw [h1]
      exact hz
theorem ids.cut {ps : List PK} {f : Nat → Nat} {n : Nat} (h : ids ps f (n + 1)) : ids (ps.eraseIdx 0) (fun j => f (j + 1)) n := by
  obtain ⟨h1, h2, h3⟩ := h
  refine ⟨by rw [List.length_eraseIdx]; simp [h1], fun q hq => h2 q (List.mem_of_mem_eraseIdx hq), fun j q hq => ?_⟩
  rw [List.getElem?_eraseIdx] at hq
  simp at hq
  exact h3 (j + 1) q hq
section
variable {P : Program} (hp : P = Try.prog)
include hp
set_option maxHeartbeats 8000000 in
theorem turns (n0 n1 n2 : Int) : LValid P 6 [gi .i64 n0, gi .i64 n1, gi .i64 n2] [] (fun v _ => ∃ b : BB, b.val = true ∧ v = .one (.c (.g (.bool b)))) := by
  obtain ⟨I, hI⟩ := ref
  refine fn_sim hI (mo hp) (cc hp c6) fun Post hP => ?_
  cbv
  refine .go [] [] [] (within hp _ _) rfl rfl rfl rfl rfl rfl ?_
  rintro r m1 ⟨y, hy, rfl, rfl⟩
  have hyr : 0 ≤ y ∧ y < 8 := by rw [hy]; exact win_in n0 8 (by omega) (by omega)
  obtain ⟨R, hR⟩ : ∃ R : Nat, isN (I.bin .add .i64 1 y) R := ⟨(y + 1).toNat, by unfold isN; rw [hI]; simp only [ints, rBin]; rw [wrap_in] <;> omega⟩
  have hR1 : 1 ≤ R ∧ R ≤ 8 := by
    unfold isN at hR
    rw [hI] at hR
    simp only [ints, rBin] at hR
    rw [wrap_in _ (by omega) (by omega)] at hR
    omega
  obtain ⟨rm, hrm⟩ : ∃ rm, rm = I.bin .add .i64 1 y := ⟨_, rfl⟩
  have hR : isN rm R := by rw [hrm]; exact hR
  clear hyr hy
  cbv
  refine .go [] [] [] (within hp _ (.sym rm)) rfl rfl rfl rfl (by rw [hrm]; rfl) rfl ?_
  rintro r m1 ⟨h, hh, rfl, rfl⟩
  have hhr : 0 ≤ h ∧ h < rm := by rw [hh]; exact win_in n1 rm (by unfold isN at hR; omega) (by unfold isN at hR; omega)
  obtain ⟨H, hH⟩ : ∃ H : Nat, isN h H := ⟨h.toNat, by unfold isN; omega⟩
  have hHR : H < R := by unfold isN at hH hR; omega
  clear hhr hh
  cbv
  refine .go [] [] [] (new hp (.sym rm)) rfl rfl rfl rfl (by rw [hrm]; rfl) rfl ?_
  rintro r m1 ⟨rm2, hrm2, rfl, rfl⟩
  have hrm2 : rm2 = rm := by rw [hrm2]; show max 0 rm = rm; unfold isN at hR; omega
  subst hrm2
  cbv
  refine .loop_next (fun n ts m => ∃ (i : Nat) (z : Int) (L : List (List G)) (ps : List PK), n = H - i ∧ isN z i ∧ i ≤ H ∧ isP L ps ∧ ids ps (fun j => j) i ∧
      ts = fr 95 [(1, i64 h), (2, i64 n2), (7, .one (.c (.ptr 0 (.lit 0) 2 0))), (8, i64 z)] ∧ m = [qu rm2 (.row 1 9 none), .sym 9 L])
    H _ _ [0, 1] [] [1, 2, 7, 8] (by decide) rfl rfl rfl ⟨0, 0, [], [], rfl, rfl, by omega, rfl, ⟨rfl, by simp, by simp⟩, rfl, rfl⟩ ?_
  rintro next n hnext ts m ⟨i, z, L, ps, hn, hz, hi, hL, hps, rfl, rfl⟩
  have hLl : L.length = i := by rw [hL.len]; exact hps.1
  cbv
  refine .br (fun g1 => ?_) (fun g1 => ?_)
  · have hi1 : i < H := by
      have : z < h := by simpa [hI, ints, rCmp] using g1
      unfold isN at hz hH
      omega
    have hz1 : isN (I.bin .add .i64 z 1) (i + 1) := by unfold isN at hz ⊢; rw [hI]; simp only [ints, rBin]; rw [wrap_in] <;> omega
    cbv
    refine .go [0, 1] [] [.keep, .bor 1] (put hp ⟨_, _, _, _, _, _, _, _⟩ [] [] rfl (by simp) rm2 L (by unfold isN at hR; omega) (by unfold isN at hR; omega) (by omega)) rfl rfl rfl rfl rfl rfl ?_
    rintro v m1 ⟨t, rfl, hm⟩
    obtain ⟨ht, L', hL', rfl⟩ : t = 0 ∧ ∃ L', isP L' (ps ++ [⟨0, 0, 0, z, 0, 0, 0, false, []⟩]) ∧ m1 = [qu rm2 (.row 2 9 none), .dead, .sym 9 L'] := by
      rcases hm with ⟨_, h, _⟩ | ⟨h1, _, L', h2, h3⟩
      · unfold isN at hR; omega
      · exact ⟨h1, L', by rw [h2]; exact hL.app ⟨0, 0, 0, z, 0, 0, 0, false, []⟩ [] rfl, h3⟩
    cbv
    refine br_f (by rw [hI, ht]; rfl) ?_
    cbv
    exact hnext _ _ (H - (i + 1)) [0, 2] [] [1, 2, 7, 8] _ _ (by omega) (by decide) rfl rfl rfl ⟨i + 1, _, L', _, rfl, hz1, by omega, hL', hps.put z hz, rfl, rfl⟩
  have hiH : i = H := by
    have : ¬ z < h := by simpa [hI, ints, rCmp] using g1
    unfold isN at hz hH
    omega
  subst hiH
  cbv
  refine .loop_next (fun n ts m => ∃ (j : Nat) (z za : Int) (L : List (List G)) (ps : List PK), n = 200 - j ∧ isN z j ∧ isN za (i + j) ∧ j ≤ 200 ∧ isP L ps ∧ ids ps (fun q => j + q) i ∧
      ts = fr 95 [(1, i64 h), (2, i64 n2), (7, .one (.c (.ptr 0 (.lit 0) 2 0))), (8, i64 za), (9, i64 z)] ∧ m = [qu rm2 (.row 1 9 none), .sym 9 L])
    200 _ _ [0, 1] [] [1, 2, 7, 8, 9] (by decide) rfl rfl rfl ⟨0, 0, _, L, ps, rfl, rfl, hz, by omega, hL, by simpa using hps, rfl, rfl⟩ ?_
  clear hnext hL hps hLl hz g1
  rintro next n hnext ts m ⟨j, z2, za, L2, ps2, hn, hz2, hza, hj, hL, hps, rfl, rfl⟩
  have hLl : L2.length = i := by rw [hL.len]; exact hps.1
  cbv
  refine .go [] [] [] (within hp _ _) rfl rfl rfl rfl rfl rfl ?_
  rintro r m1 ⟨y2, hy2, rfl, rfl⟩
  have hy2r : 0 ≤ y2 ∧ y2 < 200 := by rw [hy2]; exact win_in n2 200 (by omega) (by omega)
  cbv
  refine .br (fun g1 => ?_) (fun g1 => ?_)
  · have hj1 : j < 200 := by
      have : z2 < y2 := by simpa [hI, ints, rCmp] using g1
      unfold isN at hz2
      omega
    have hz1 : isN (I.bin .add .i64 z2 1) (j + 1) := by unfold isN at hz2 ⊢; rw [hI]; simp only [ints, rBin]; rw [wrap_in] <;> omega
    have hza1 : isN (I.bin .add .i64 za 1) (i + (j + 1)) := by unfold isN at hza ⊢; rw [hI]; simp only [ints, rBin]; rw [wrap_in] <;> omega
    cbv
    refine .go [0, 1] [] [.keep, .bor 1] (put hp ⟨_, _, _, _, _, _, _, _⟩ [] [] rfl (by simp) rm2 L2 (by unfold isN at hR; omega) (by unfold isN at hR; omega) (by omega)) rfl rfl rfl rfl rfl rfl ?_
    rintro v m1 ⟨t, rfl, hm⟩
    obtain ⟨ht, L', hL', rfl⟩ : t = 0 ∧ ∃ L', isP L' (ps2 ++ [(⟨0, 0, 0, za, 0, 0, 0, false, []⟩ : PK)]) ∧ m1 = [qu rm2 (.row 2 9 none), .dead, .sym 9 L'] := by
      rcases hm with ⟨_, h, _⟩ | ⟨h1, _, L', h2, h3⟩
      · unfold isN at hR; omega
      · exact ⟨h1, L', by rw [h2]; exact hL.app ⟨0, 0, 0, za, 0, 0, 0, false, []⟩ [] rfl, h3⟩
    have hps' := hps.put za (by rw [Nat.add_comm]; exact hza)
    have hd8 : ∀ q ∈ ps2 ++ [(⟨0, 0, 0, za, 0, 0, 0, false, []⟩ : PK)], q.d.length * 8 ≤ 140737488355328 := fun q hq => by rw [hps'.2.1 q hq]; simp
    cbv
    refine br_f (by rw [hI, ht]; rfl) ?_
    cbv
    refine .go [0, 2] [] [] (take hp rm2 L' _ hL' hd8 (by rw [hL'.len, hps'.1]; omega)) rfl rfl rfl rfl rfl rfl ?_
    rintro v m1 hm
    obtain ⟨q, D, L3, hq, hD, hL3, rfl, rfl⟩ : ∃ q D L3, (ps2 ++ [(⟨0, 0, 0, za, 0, 0, 0, false, []⟩ : PK)])[0]? = some q ∧ isL .i64 D q.d ∧ isP L3 ((ps2 ++ [(⟨0, 0, 0, za, 0, 0, 0, false, []⟩ : PK)]).eraseIdx 0) ∧ v = .tup [q.told (.row 3 1 none), gb true] ∧ m1 = [qu rm2 (.row 2 9 none), .dead, .sym 9 L3, .sym 1 D] := by
      rcases hm with ⟨h1, _⟩ | h
      · exact absurd h1 (by simp)
      · exact h
    have hqi := hps'.2.2 0 q hq
    obtain ⟨qk, qf, qt, qi, ql, qp, qs, qb, qd⟩ := q
    have hqi : isN qi j := by simpa using hqi
    have hcut : ids ((ps2 ++ [(⟨0, 0, 0, za, 0, 0, 0, false, []⟩ : PK)]).eraseIdx 0) (fun q => j + 1 + q) i := by
      have := hps'.cut
      simpa [Nat.add_assoc, Nat.add_comm 1] using this
    have hL3l : L3.length = i := by rw [hL3.len]; exact hcut.1
    generalize (ps2 ++ [(⟨0, 0, 0, za, 0, 0, 0, false, []⟩ : PK)]).eraseIdx 0 = ps3 at *
    cbv
    refine br_f (by rw [hI]; rfl) ?_
    cbv
    refine br_f (show I.cmp .neq qi (I.bin .sub .i64 (I.bin .sub .i64 (I.bin .add .i64 za 1) 1) h) = false from by
      unfold isN at hza1 hH hqi
      rw [hza1, hI, hqi, hH]
      simp only [ints, rBin]
      rw [wrap_in (((i + (j + 1) : Nat) : Int) - 1) (by omega) (by omega), wrap_in _ (by omega) (by omega)]
      simp [rCmp]
      omega) ?_
    cbv
    refine .go [0, 3] [] [] (len_ hp rm2 L3) rfl rfl rfl rfl rfl rfl ?_
    rintro v m1 ⟨t3, ht3, rfl, rfl⟩
    replace ht3 : t3 = h := by unfold isN at hH; rw [ht3, hL3l, hH]
    cbv
    refine br_f (by rw [hI, ht3]; simp [ints, rCmp]) ?_
    cbv
    exact hnext _ _ (200 - (j + 1)) [0, 3] [] [1, 2, 7, 8, 9] _ _ (by omega) (by decide) rfl rfl rfl ⟨j + 1, _, _, L3, ps3, rfl, hz1, hza1, by omega, hL3, hcut, rfl, rfl⟩
  cbv
  refine .go [0, 1] [] [] (all_ hp rm2 L2 ps2 hL (fun q hq => by rw [hps.2.1 q hq]; simp) (by omega)) rfl rfl rfl rfl rfl rfl ?_
  rintro v m1 ⟨L4, hL4, rfl, rfl⟩
  have hL4l : L4.length = i := by rw [hL4.len]; exact hps.1
  have hL4n : I.len L4 = i := by rw [hI]; exact hL4l
  cbv
  refine .loop_next (fun n ts m => ∃ (e : Nat) (z c : Int), n = i - e ∧ isN z e ∧ isN c i ∧ e ≤ i ∧
      ts = fr 95 [(1, i64 h), (8, i64 za), (12, .one (.c (.row 0 9 none))), (72, i64 c), (73, i64 z)] ∧ m = [.sym 9 L4])
    i _ _ [2] [] [1, 8, 12, 72, 73] (by decide) rfl rfl rfl ⟨0, 0, I.ofNat (I.len L4), rfl, rfl, by rw [hL4n, hI]; rfl, by omega, rfl, rfl⟩ ?_
  clear hnext g1
  rintro next n hnext ts m ⟨e, z3, c3, hn, hz3, hc3, he, rfl, rfl⟩
  cbv
  refine .br (fun g1 => ?_) (fun g1 => ?_)
  · have he1 : e < i := by
      have : z3 < c3 := by simpa [hI, ints, rCmp] using g1
      unfold isN at hz3 hc3
      omega
    have hz1 : isN (I.bin .add .i64 z3 1) (e + 1) := by unfold isN at hz3 ⊢; rw [hI]; simp only [ints, rBin]; rw [wrap_in] <;> omega
    obtain ⟨q, hq⟩ : ∃ q, ps2[e]? = some q := ⟨_, List.getElem?_eq_getElem (by rw [hps.1]; exact he1)⟩
    obtain ⟨D, hD, hr⟩ := hL4.get hq
    have hqi := hps.2.2 e q hq
    obtain ⟨qk, qf, qt, qi, ql, qp, qs, qb, qd⟩ := q
    have hqi : isN qi (j + e) := hqi
    cbv
    refine .idx e hz3 (show e < I.len L4 from by rw [hL4n]; exact he1) ?_
    cbv
    refine .nth _ hr ?_
    cbv
    refine br_f (show I.cmp .neq qi (I.bin .add .i64 (I.bin .sub .i64 za h) z3) = false from by
      unfold isN at hza hH hqi hz3
      rw [hI, hqi, hza, hH, hz3]
      simp only [ints, rBin]
      rw [wrap_in (((i + j : Nat) : Int) - _) (by omega) (by omega), wrap_in _ (by omega) (by omega)]
      simp [rCmp]
      omega) ?_
    cbv
    exact hnext _ _ (i - (e + 1)) [0] [] [1, 8, 12, 72, 73] _ _ (by omega) (by decide) rfl rfl rfl ⟨e + 1, _, c3, rfl, hz1, hc3, by omega, rfl, rfl⟩
  cbv
  refine br_t (show I.cmp .eql (I.ofNat (I.len L4)) h = true from by
    unfold isN at hH
    rw [hL4n, hI, hH]
    simp [ints, rCmp]) ?_
  cbv
  refine .go [] [] [] (wakes hp) rfl rfl rfl rfl rfl rfl ?_
  rintro r m1 ⟨rfl, rfl⟩
  cbv
  exact hP _ _ [] [] _ _ .nil rfl rfl rfl rfl rfl ⟨_, rfl, rfl⟩
end
end Go.Proofs.Ytfbbldnbobacnaa.E
