/- PoolMemory. -/
import Derived.Test.YtioihcojooibmaaQQ
namespace Go.Proofs.Ytioihcojooibmaa.E
open Go
set_option linter.unusedVariables false
set_option maxRecDepth 100000

section
variable {P : Program} (hp : P = Try.prog)
include hp
set_option maxHeartbeats 1000000 in
/-- All of them where there is one: its data are the caller's own. -/
theorem all1 (rm : Int) (q : PK) (D : List (List G)) (hD : isL .i64 D q.d) (hd : D.length * 8 ≤ 140737488355328) : LValid P 18 [.c (.ptr 0 (.lit 0) 2 0)] [qu rm (.row 1 9 none), .sym 9 [q.row D]]
    (fun v m1 => v = .one (.c (.row 2 9 none)) ∧ m1 = [qu rm (.row 1 9 none), .sym 9 [q.row D], .lit 9 [[.g (.int .i64 (.sym q.k)), .g (.int .i64 (.sym q.f)), .g (.int .i64 (.sym q.t)), .g (.int .i64 (.sym q.i)), .g (.int .i64 (.sym q.l)), .g (.int .i64 (.sym q.p)), .g (.int .i64 (.sym q.s)), .g (.bool (.sym q.b)), .row 3 1 none]], .sym 1 D]) := by
  obtain ⟨k, f, t, i, l, p, s, b, d⟩ := q
  obtain ⟨I, hI⟩ := ref
  have hone : I.len [PK.row ⟨k, f, t, i, l, p, s, b, d⟩ D] = 1 := by rw [hI]; rfl
  refine fn_sim hI (mo hp) (cc hp c18) fun Post hP => ?_
  cbv
  refine .loop_next (fun n ts m => ∃ (e : Nat) (z c : Int) (q : C) (r : Mem), n = 1 - e ∧ isN z e ∧ isN c 1 ∧ ((e = 0 ∧ q = .g .nil ∧ r = []) ∨ (e = 1 ∧ q = .row 2 9 none ∧ r = [.lit 9 [[.g (.int .i64 (.sym k)), .g (.int .i64 (.sym f)), .g (.int .i64 (.sym t)), .g (.int .i64 (.sym i)), .g (.int .i64 (.sym l)), .g (.int .i64 (.sym p)), .g (.int .i64 (.sym s)), .g (.bool (.sym b)), .row 3 1 none]], .sym 1 D])) ∧
      ts = fr 22 [(3, .one (.c q)), (9, .one (.c (.row 1 9 none))), (10, i64 c), (11, i64 z)] ∧ m = [qu rm (.row 1 9 none), .sym 9 [PK.row ⟨k, f, t, i, l, p, s, b, d⟩ D]] ++ r)
    1 _ _ [0, 1] [] [3, 9, 10, 11] (by decide) rfl rfl rfl ⟨0, 0, I.ofNat (I.len [PK.row ⟨k, f, t, i, l, p, s, b, d⟩ D]), .g .nil, [], rfl, rfl, by rw [hone, hI]; rfl, .inl ⟨rfl, rfl, rfl⟩, rfl, rfl⟩ ?_
  rintro next n hnext ts m ⟨e, z, c, q, r, hn, hz, hc, hq, rfl, rfl⟩
  have hz1 : isN (I.bin .add .i64 z 1) (e + 1) := by
    have : e ≤ 1 := by rcases hq with h | h <;> omega
    unfold isN at hz ⊢; rw [hI]; simp only [ints, rBin]; rw [wrap_in] <;> omega
  have h0l : 0 < I.len [PK.row ⟨k, f, t, i, l, p, s, b, d⟩ D] := by rw [hone]; omega
  rcases hq with ⟨rfl, rfl, rfl⟩ | ⟨rfl, rfl, rfl⟩
  · cbv
    refine br_t (by unfold isN at hz hc; rw [hI, hz, hc]; rfl) ?_
    cbv
    refine .idx 0 hz h0l (.nth _ rfl ?_)
    cbv
    refine .go [] [] [.bor 1] (own_ hp ⟨.sym k, .sym f, .sym t, .sym i, .sym l, .sym p, .sym s, .sym b⟩ D d hD hd) rfl rfl rfl rfl rfl rfl ?_
    rintro v m1 ⟨rfl, rfl⟩
    cbv
    refine .most (by decide) (by decide) ?_
    cbv
    exact hnext _ _ 0 [0, 1, 5, 3] [] [3, 9, 10, 11] _ _ (by omega) (by decide) rfl rfl rfl ⟨1, _, c, _, _, rfl, hz1, hc, .inr ⟨rfl, rfl, rfl⟩, rfl, rfl⟩
  · cbv
    refine br_f (by unfold isN at hz hc; rw [hI, hz, hc]; rfl) ?_
    cbv
    exact hP _ _ [0, 1, 2, 3] [] _ _ (by decide) rfl rfl rfl rfl rfl ⟨rfl, rfl⟩
set_option maxHeartbeats 8000000 in
theorem memory (W0 : List (List G)) (us : List Int) (h0 : isL .i64 W0 us) (hW : W0.length * 8 ≤ 140737488355328) : LValid P 4 [.c (.g (.rows 1 W0))] [] (fun v _ => ∃ b : BB, b.val = true ∧ v = .one (.c (.g (.bool b)))) := by
  obtain ⟨I, hI⟩ := ref
  refine fn_sim hI (mo hp) (cc hp c4) fun Post hP => ?_
  cbv
  refine .go [] [] [] (new hp (.lit 2)) rfl rfl rfl rfl rfl rfl ?_
  rintro r m1 ⟨rm, hrm, rfl, rfl⟩
  have hrm : rm = 2 := hrm
  subst hrm
  cbv
  refine .go [] [] [.bor 1] (cut hp W0 (.lit 3) 3 rfl hW) rfl rfl rfl rfl rfl rfl ?_
  rintro r m1 ⟨l, hl0, rfl, rfl⟩
  obtain ⟨xs, hxs⟩ : ∃ xs, xs = us.take 3 := ⟨_, rfl⟩
  have hl : isL .i64 l xs := by rw [hl0, hxs, h0]; unfold isL nrow; rw [List.map_take]
  have hxl : xs.length ≤ 3 := by rw [hxs, List.length_take]; omega
  clear hl0 hxs
  have hdl : isL .i64 (I.app l [[.int .i64 (.sym 4)]]) (xs ++ [4]) := by rw [hI]; unfold isL at hl ⊢; rw [hl]; simp [nrow, ints]
  have hdn : I.len (I.app l [[.int .i64 (.sym 4)]]) = xs.length + 1 := by
    have := hdl.len
    rw [List.length_append] at this
    rw [hI] at this ⊢
    exact this
  have hdn2 : (I.app l [[.int .i64 (.sym 4)]]).length * 8 ≤ 140737488355328 := by rw [hdl.len, List.length_append]; show (xs.length + 1) * 8 ≤ _; omega
  have hm1 : I.len (I.app l [[.int .i64 (.sym 4)]]) * 8 ≤ 140737488355328 := by rw [hdn]; omega
  have hm2 : I.len (I.app l [[.int .i64 (.sym 4)]]) ≤ 140737488355328 := by rw [hdn]; omega
  have h0d : 0 < I.len (I.app l [[.int .i64 (.sym 4)]]) := by rw [hdn]; omega
  obtain ⟨x0, hx0⟩ : ∃ x, (xs ++ [4])[0]? = some x := ⟨_, List.getElem?_eq_getElem (by simp)⟩
  have hr0 : (I.app l [[.int .i64 (.sym 4)]])[0]? = some [.int .i64 (.sym x0)] := by rw [hdl.get, hx0]; rfl
  cbv
  refine .most hm1 hm2 ?_
  cbv
  refine .go [] [] [.bor 1] (copy hp (I.app l [[.int .i64 (.sym 4)]]) hdn2) rfl rfl rfl rfl rfl rfl ?_
  rintro r m1 ⟨rfl, rfl⟩
  cbv
  refine .go [0, 1] [] [.keep, .bor 1] (put hp ⟨_, _, _, _, _, _, _, _⟩ (I.app l [[.int .i64 (.sym 4)]]) (xs ++ [4]) hdl hdn2 2 [] (by omega) (by omega) (by simp)) rfl rfl rfl rfl rfl rfl ?_
  rintro v m1 ⟨t, rfl, hm⟩
  obtain ⟨ht, rfl⟩ : t = 0 ∧ m1 = [qu 2 (.row 2 9 none), .dead, .sym 9 [PK.row ⟨1, 0, 0, 0, 0, 0, 0, false, xs ++ [4]⟩ (I.app l [[.int .i64 (.sym 4)]])]] := by
    rcases hm with ⟨_, h, _⟩ | ⟨h1, _, L', h2, h3⟩
    · simp at h
    · exact ⟨h1, by rw [h3, h2]; rfl⟩
  have hL2 : isP [PK.row ⟨1, 0, 0, 0, 0, 0, 0, false, xs ++ [4]⟩ (I.app l [[.int .i64 (.sym 4)]])] [⟨1, 0, 0, 0, 0, 0, 0, false, xs ++ [4]⟩] := by
    unfold isL at hdl
    rw [hdl]
    rfl
  have hps2 : ∀ q ∈ [(⟨1, 0, 0, 0, 0, 0, 0, false, xs ++ [4]⟩ : PK)], q.d.length * 8 ≤ 140737488355328 := fun q hq => by
    simp at hq
    rw [hq]
    show (xs ++ [4]).length * 8 ≤ _
    rw [List.length_append]
    show (xs.length + 1) * 8 ≤ _
    omega
  have hL2n : [PK.row ⟨1, 0, 0, 0, 0, 0, 0, false, xs ++ [4]⟩ (I.app l [[.int .i64 (.sym 4)]])].length ≤ 1000000 := by simp
  cbv
  refine br_f (by rw [hI, ht]; rfl) ?_
  cbv
  refine .idx 0 rfl h0d (.nth _ hr0 ?_)
  cbv
  refine .idx 0 rfl h0d ?_
  cbv
  refine .nth _ hr0 ?_
  cbv
  refine .go [0, 6] [] [] (get hp (.lit 0) 2 _ _ hL2 hps2 hL2n) rfl rfl rfl rfl rfl rfl ?_
  rintro v m1 hm
  obtain ⟨D1, hD1, rfl, rfl⟩ : ∃ D1, isL .i64 D1 (xs ++ [4]) ∧ v = .tup [PK.told ⟨1, 0, 0, 0, 0, 0, 0, false, xs ++ [4]⟩ (.row 2 1 none), gb true] ∧ m1 = [qu 2 (.row 1 9 none), .sym 9 [PK.row ⟨1, 0, 0, 0, 0, 0, 0, false, xs ++ [4]⟩ (I.app l [[.int .i64 (.sym 4)]])], .sym 1 D1] := by
    rcases hm with ⟨h1 | ⟨j, h1, h2⟩, _⟩ | ⟨j, q, D, h1, h2, h3, h4, h5⟩
    · exact absurd h1 (by decide)
    · have : j = 0 := by have h1 : (0 : Int) = (j : Int) := h1; omega
      subst this
      simp at h2
    · have : j = 0 := by have h1 : (0 : Int) = (j : Int) := h1; omega
      subst this
      have e : q = ⟨1, 0, 0, 0, 0, 0, 0, false, xs ++ [4]⟩ := by simpa using h2.symm
      subst e
      exact ⟨D, h3, h4, h5⟩
  have h0d1 : 0 < I.len D1 := by rw [hI]; show 0 < D1.length; rw [hD1.len]; simp
  have hr1 : D1[0]? = some [.int .i64 (.sym x0)] := by rw [hD1.get, hx0]; rfl
  have hD1n : D1.length * 8 ≤ 140737488355328 := by rw [hD1.len, List.length_append]; show (xs.length + 1) * 8 ≤ _; omega
  cbv
  refine .go [] [] [.bor 1, .bor 1] (same hp D1 (I.app l [[.int .i64 (.sym 4)]]) _ _ hD1 hdl hD1n) rfl rfl rfl rfl rfl rfl ?_
  rintro v m1 ⟨t1, ht1, rfl, rfl⟩
  have ht1 : t1 = true := by rw [ht1]; simp
  cbv
  refine br_f (by rw [hI, ht1]; rfl) ?_
  cbv
  refine .idx 0 rfl h0d1 (.nth _ hr1 ?_)
  cbv
  refine .idx 0 rfl h0d1 ?_
  cbv
  refine .nth _ hr1 ?_
  cbv
  refine .go [0, 6] [] [] (all1 hp 2 ⟨1, 0, 0, 0, 0, 0, 0, false, xs ++ [4]⟩ (I.app l [[.int .i64 (.sym 4)]]) hdl hdn2) rfl rfl rfl rfl rfl rfl ?_
  rintro v m1 ⟨rfl, rfl⟩
  cbv
  refine .go [] [] [.bor 1, .bor 1] (same hp (I.app l [[.int .i64 (.sym 4)]]) (I.app l [[.int .i64 (.sym 4)]]) _ _ hdl hdl hdn2) rfl rfl rfl rfl rfl rfl ?_
  rintro v m1 ⟨t2, ht2, rfl, rfl⟩
  have ht2 : t2 = true := by rw [ht2]; simp
  cbv
  refine br_f (by rw [hI, ht2]; rfl) ?_
  cbv
  refine .idx 0 rfl h0d (.nth _ hr0 ?_)
  cbv
  refine .idx 0 rfl h0d ?_
  cbv
  refine .nth _ hr0 ?_
  cbv
  refine .go [0, 6] [] [] (remove hp (.lit 0) 2 _ _ hL2 hps2 hL2n) rfl rfl rfl rfl rfl rfl ?_
  rintro v m1 hm
  obtain ⟨D2, hD2, L3, rfl, rfl⟩ : ∃ D2, isL .i64 D2 (xs ++ [4]) ∧ ∃ L3, v = .tup [PK.told ⟨1, 0, 0, 0, 0, 0, 0, false, xs ++ [4]⟩ (.row 3 1 none), gb true] ∧ m1 = [qu 2 (.row 2 9 none), .dead, .sym 9 L3, .sym 1 D2] := by
    rcases hm with ⟨h1 | ⟨j, h1, h2⟩, _⟩ | ⟨j, q, D, L3, h1, h2, h3, _, h4, h5⟩
    · exact absurd h1 (by decide)
    · have : j = 0 := by have h1 : (0 : Int) = (j : Int) := h1; omega
      subst this
      simp at h2
    · have : j = 0 := by have h1 : (0 : Int) = (j : Int) := h1; omega
      subst this
      have e : q = ⟨1, 0, 0, 0, 0, 0, 0, false, xs ++ [4]⟩ := by simpa using h2.symm
      subst e
      exact ⟨D, h3, L3, h4, h5⟩
  have hD2n : D2.length * 8 ≤ 140737488355328 := by rw [hD2.len, List.length_append]; show (xs.length + 1) * 8 ≤ _; omega
  cbv
  refine br_t rfl ?_
  cbv
  refine br_t (by rw [hI]; rfl) ?_
  cbv
  refine .go [] [] [.bor 1, .bor 1] (same hp D2 (I.app l [[.int .i64 (.sym 4)]]) _ _ hD2 hdl hD2n) rfl rfl rfl rfl rfl rfl ?_
  rintro v m1 ⟨t3, ht3, rfl, rfl⟩
  have ht3 : t3 = true := by rw [ht3]; simp
  cbv
  refine br_t ht3 ?_
  cbv
  refine .go [] [] [] (wakes hp) rfl rfl rfl rfl rfl rfl ?_
  rintro v m1 ⟨rfl, rfl⟩
  cbv
  exact hP _ _ [] [] _ _ .nil rfl rfl rfl rfl rfl ⟨_, rfl, rfl⟩
end
end Go.Proofs.Ytioihcojooibmaa.E
