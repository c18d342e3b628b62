/- PoolAny. -/
import Derived.Test.YtioihcojooibmaaQTurns
namespace Go.Proofs.Ytioihcojooibmaa.E
open Go
set_option linter.unusedVariables false
set_option maxRecDepth 100000

theorem mostA {i e : Nat} (h : i ≤ 8) : (i - e - 1) * 8 ≤ 140737488355328 := by omega
theorem mostB {i e : Nat} (h : i ≤ 8) : i - e - 1 ≤ 140737488355328 := by omega
theorem ltA {i e s : Nat} (h : s < i - (e + 1)) : s < i - e - 1 := by omega
theorem decA {i e s n : Nat} (hn : n = i - (e + 1) - s) (h : s < i - (e + 1)) : i - (e + 1) - (s + 1) < n := by omega
theorem mostC {A i e : Nat} (h : A < i - e) (hi : i ≤ 8) : A * 8 ≤ 140737488355328 := by omega
theorem mostD {A i e : Nat} (h : A < i - e) (hi : i ≤ 8) : A ≤ 140737488355328 := by omega
theorem mostE {a i e : Nat} (h : a = i - (e + 1)) (hi : i ≤ 8) : a ≤ 1000000 := by omega
theorem ltB {a i e s : Nat} (h : a = i - (e + 1)) (hi : s < i - (e + 1)) : s < a := by omega
theorem absD {i e s j : Nat} (h : s < i - (e + 1)) (ha : i - (e + 1) ≤ j) (hj : j = s) : False := by omega
theorem decB {i e n : Nat} (hn : n = i - e) (h : e < i) : i - (e + 1) < n := by omega
theorem neg_not {z : Int} {A : Nat} (h : isN z A) : ¬ z < 0 := by unfold isN at h; omega
theorem same_n {z : Int} {j A : Nat} (h1 : isN z j) (h2 : isN z A) : j = A := by unfold isN at h1 h2; omega
section
variable {P : Program} (hp : P = Try.prog)
include hp
set_option maxHeartbeats 16000000 in
theorem any_ (n0 : Int) (W0 : List (List G)) (us : List Int) (h0 : isL .i64 W0 us) (hul : us.length ≤ 140737488355328) : LValid P 3 [gi .i64 n0, .c (.g (.rows 1 W0))] [] (fun v _ => ∃ b : BB, b.val = true ∧ v = .one (.c (.g (.bool b)))) := by
  obtain ⟨I, hI⟩ := ref
  have hle : I.len W0 = us.length := by rw [hI]; exact h0.len
  refine fn_sim hI (mo hp) (cc hp c3) fun Post hP => ?_
  cbv
  refine .go [] [] [] (within hp _ _) rfl rfl rfl rfl rfl rfl ?_
  rintro r m1 ⟨y, hy, rfl, rfl⟩
  have hyr : 0 ≤ y ∧ y < 9 := by rw [hy]; exact win_in n0 9 (by omega) (by omega)
  obtain ⟨R, hR, hR1⟩ : ∃ R : Nat, isN y R ∧ R ≤ 8 := ⟨y.toNat, by unfold isN; omega, by omega⟩
  have hrb : 0 ≤ y ∧ y ≤ 1000000 := by omega
  clear hyr hy
  cbv
  refine .go [] [] [] (new hp (.sym y)) rfl rfl rfl rfl rfl rfl ?_
  rintro r m1 ⟨rm, hrm, hv1, hv2⟩
  have hrm : rm = y := by rw [hrm]; show max 0 y = y; omega
  subst hv1
  subst hv2
  subst hrm
  cbv
  refine .own 6 1 rfl ?_
  refine .loop_next (fun n ts m => ∃ (i : Nat) (z : Int) (L W : List (List G)) (ps : List PK) (ws : List Int), n = R - i ∧ isN z i ∧ i ≤ R ∧ isP L ps ∧ isL .i64 W ws ∧ idw ps ws ∧ ps.length = i ∧
      ts = fr 148 [(0, i64 rm), (1, .one (.c (.g (.rows 1 W0)))), (5, .one (.c (.ptr 0 (.lit 0) 2 0))), (6, .one (.c (.row 2 1 none))), (7, i64 z)] ∧ m = [qu rm (.row 1 9 none), .sym 9 L, .sym 1 W])
    R _ _ [0, 1, 2] [] [0, 1, 5, 6, 7] (by decide) rfl rfl rfl ⟨0, 0, [], [], [], [], rfl, rfl, by omega, rfl, rfl, ⟨rfl, by simp⟩, rfl, rfl, rfl⟩ ?_
  rintro next n hnext ts m ⟨i, z, L, W, ps, ws, hn, hz, hi, hL, hW, hid, hpl, rfl, rfl⟩
  have hLl : L.length = i := by rw [hL.len, hpl]
  have hWl : I.len W = i := by rw [hI]; show W.length = _; rw [hW.len, hid.len, hpl]
  cbv
  refine .br (fun g1 => ?_) (fun g1 => ?_)
  · have hi1 : i < R := by
      have : z < rm := by simpa [hI, ints, rCmp] using g1
      unfold isN at hz hR
      omega
    have hz1 : isN (I.bin .add .i64 z 1) (i + 1) := add1 hI hz (by omega)
    cbv
    refine .go [0, 1] [] [.keep, .bor 1] (put hp ⟨_, _, _, _, _, _, _, _⟩ [] [] rfl (by simp) rm L hrb.1 hrb.2 (by omega)) rfl rfl rfl rfl rfl rfl ?_
    rintro v m1 ⟨t, rfl, hm⟩
    have hX : t = 0 ∧ ∃ L', isP L' (ps ++ [(⟨0, 0, 0, z, 0, 0, 0, false, []⟩ : PK)]) ∧ m1 = [qu rm (.row 2 9 none), .dead, .sym 9 L'] := by
      rcases hm with ⟨_, h, _⟩ | ⟨h1, _, L', h2, h3⟩
      · unfold isN at hR; omega
      · exact ⟨h1, L', by rw [h2]; exact hL.app ⟨0, 0, 0, z, 0, 0, 0, false, []⟩ [] rfl, h3⟩
    obtain ⟨ht, hX⟩ := hX
    obtain ⟨L', hX⟩ := hX
    obtain ⟨hL', hX⟩ := hX
    subst hX
    have hW2 : isL .i64 (I.app W [[.int .i64 (.sym z)]]) (ws ++ [z]) := by rw [hI]; exact hW.app z
    have hWl2 : I.len (I.app W [[.int .i64 (.sym z)]]) = i + 1 := by
      have := hW2.len
      rw [hI] at this ⊢
      rw [show ints.len = List.length from rfl, this]
      simp [hid.len, hpl]
    have hid2 := hid.put z
    have hpl2 : (ps ++ [(⟨0, 0, 0, z, 0, 0, 0, false, []⟩ : PK)]).length = i + 1 := by simp [hpl]
    cbv
    refine br_f (by rw [hI, ht]; rfl) ?_
    cbv
    refine .most (show I.len (I.app W [[.int .i64 (.sym z)]]) * 8 ≤ _ from by rw [hWl2]; omega) (show I.len (I.app W [[.int .i64 (.sym z)]]) ≤ _ from by rw [hWl2]; omega) ?_
    cbv
    exact hnext _ _ (R - (i + 1)) [0, 3, 5] [] [0, 1, 5, 6, 7] _ _ (by omega) (by decide) rfl rfl rfl ⟨i + 1, _, L', _, _, _, rfl, hz1, hi1, hL', hW2, hid2, hpl2, rfl, rfl⟩
  have hiR : i = R := by
    have : ¬ z < rm := by simpa [hI, ints, rCmp] using g1
    unfold isN at hz hR
    omega
  subst hiR
  cbv
  refine .go [0, 1] [] [.keep, .bor 1] (put hp ⟨_, _, _, _, _, _, _, _⟩ [] [] rfl (by simp) rm L hrb.1 hrb.2 (by omega)) rfl rfl rfl rfl rfl rfl ?_
  rintro v m1 ⟨t, rfl, hm⟩
  have hX : t = 5 ∧ m1 = [qu rm (.row 1 9 none), .sym 9 L] := by
    rcases hm with ⟨h1, _, h3⟩ | ⟨_, h, _⟩
    · exact ⟨h1, h3⟩
    · unfold isN at hR; omega
  obtain ⟨ht, hX⟩ := hX
  subst hX
  cbv
  refine br_f (by rw [hI, ht]; rfl) ?_
  cbv
  refine .loop_next (fun n ts m => ∃ (e : Nat) (z : Int) (L W : List (List G)) (ps : List PK) (ws : List Int), n = i - e ∧ isN z e ∧ e ≤ i ∧ isP L ps ∧ isL .i64 W ws ∧ idw ps ws ∧ ps.length = i - e ∧
      ts = fr 148 [(0, i64 rm), (1, .one (.c (.g (.rows 1 W0)))), (5, .one (.c (.ptr 0 (.lit 0) 2 0))), (6, .one (.c (.row 2 1 none))), (8, i64 z)] ∧ m = [qu rm (.row 1 9 none), .sym 9 L, .sym 1 W])
    i _ _ [0, 1, 2] [] [0, 1, 5, 6, 8] (by decide) rfl rfl rfl ⟨0, 0, L, W, ps, ws, rfl, rfl, by omega, hL, hW, hid, by omega, rfl, rfl⟩ ?_
  clear hnext g1 hL hW hid hpl hLl hWl hz
  rintro next n hnext ts m ⟨e, z, L, W, ps, ws, hn, hz, he, hL, hW, hid, hpl, rfl, rfl⟩
  have hLl : L.length = i - e := by rw [hL.len, hpl]
  have hWl : I.len W = ps.length := by rw [hI]; show W.length = _; rw [hW.len, hid.len]
  have hwl : ws.length = i - e := by rw [hid.len, hpl]
  have hd8 : ∀ q ∈ ps, q.d.length * 8 ≤ 140737488355328 := fun q hq => by rw [hid.2 q hq]; simp
  cbv
  refine .br (fun g1 => ?_) (fun g1 => ?_)
  · have he1 : e < i := by
      have : z < rm := by simpa [hI, ints, rCmp] using g1
      unfold isN at hz hR
      omega
    have hz1 : isN (I.bin .add .i64 z 1) (e + 1) := add1 hI hz (by omega)
    cbv
    refine .br (fun g2 => ?_) (fun g2 => ?_)
    · have hi1 : e < us.length := by
        have h' : rCmp .lss z ((I.len W0 : Nat) : Int) = true := by rw [hI] at g2 ⊢; exact g2
        rw [hle] at h'
        have : z < (us.length : Nat) := by simpa [rCmp] using h'
        unfold isN at hz
        omega
      obtain ⟨x, hx⟩ : ∃ x, us[e]? = some x := ⟨_, List.getElem?_eq_getElem hi1⟩
      have hr : W0[e]? = some [.int .i64 (.sym x)] := by rw [h0.get, hx]; rfl
      cbv
      refine .idx e hz (show e < I.len W0 from by rw [hle]; exact hi1) (.nth _ hr ?_)
      cbv
      refine .go [] [] [] (within hp (.sym x) (.sym (I.ofNat (I.len W)))) rfl rfl rfl rfl rfl rfl ?_
      rintro r m1 ⟨at0, hat, hv1, hv2⟩
      subst hv1
      subst hv2
      have hat : at0 = win x ((i - e : Nat) : Int) := by rw [hat]; show win x (I.ofNat (I.len W)) = _; rw [hWl, hpl, hI]; rfl
      have hatr : 0 ≤ at0 ∧ at0 < ((i - e : Nat) : Int) := by rw [hat]; exact win_in x _ (by omega) (by omega)
      obtain ⟨A, hA, hAR⟩ : ∃ A : Nat, isN at0 A ∧ A < i - e := ⟨at0.toNat, by unfold isN; omega, by omega⟩
      clear hatr hat
      have hat1 : isN (I.bin .add .i64 at0 1) (A + 1) := add1 hI hA (by omega)
      cbv
      refine .go [0, 1] [] [] (get hp (.sym at0) rm L ps hL hd8 (by omega)) rfl rfl rfl rfl rfl rfl ?_
      rintro v m1 hm
      have hX : ∃ q D, ps[A]? = some q ∧ isL .i64 D q.d ∧ v = .tup [q.told (.row 2 1 none), gb true] ∧ m1 = [qu rm (.row 1 9 none), .sym 9 L, .sym 1 D] := by
        rcases hm with ⟨h1 | ⟨j, h1, h2⟩, _⟩ | ⟨j, q, D, h1, h⟩
        · exact absurd h1 (neg_not hA)
        · exact absurd (same_n (show isN _ j from h1) hA) (by omega)
        · have := same_n (show isN _ j from h1) hA
          subst this
          exact ⟨q, D, h⟩
      obtain ⟨q, D, hq, hD, hv1, hv2⟩ := hX
      subst hv1
      subst hv2
      have hwq : W[A]? = some [.int .i64 (.sym q.i)] := by rw [hW.get, hid.get hq]; rfl
      obtain ⟨qk, qf, qt, qi, ql, qp, qs, qb, qd⟩ := q
      cbv
      refine .go [0, 1] [] [] (remove hp (.sym at0) rm L ps hL hd8 (by omega)) rfl rfl rfl rfl rfl rfl ?_
      rintro v m1 hm
      have hX : ∃ D2 L', isP L' (ps.eraseIdx A) ∧ v = .tup [PK.told ⟨qk, qf, qt, qi, ql, qp, qs, qb, qd⟩ (.row 3 1 none), gb true] ∧ m1 = [qu rm (.row 2 9 none), .dead, .sym 9 L', .sym 1 D2] := by
        rcases hm with ⟨h1 | ⟨j, h1, h2⟩, _⟩ | ⟨j, q, D2, L', h1, h2, h3, h4, h5, h6⟩
        · exact absurd h1 (neg_not hA)
        · exact absurd (same_n (show isN _ j from h1) hA) (by omega)
        · have := same_n (show isN _ j from h1) hA
          subst this
          rw [hq] at h2
          cases h2
          exact ⟨D2, L', h4, h5, h6⟩
      obtain ⟨D2, L', hL', hv1, hv2⟩ := hX
      subst hv1
      subst hv2
      have hcut := cutRow hI hW A (by omega)
      have hcl := cutLen hI hW A (by omega)
      rw [hwl] at hcl
      have hel : I.len (I.ext W 0 A) = A := by
        rw [hI]
        show ((W.take A).drop 0).length = A
        rw [List.drop_zero, List.length_take, hW.len]
        omega
      have hidc := hid.cut A
      have hpl' : (ps.eraseIdx A).length = i - (e + 1) := by rw [List.length_eraseIdx, hpl, if_pos hAR]; omega
      cbv
      refine .drawn [] ?_
      cbv
      refine br_f (by rw [hI]; rfl) ?_
      cbv
      refine br_f (by rw [hI]; rfl) ?_
      cbv
      refine .idx A hA (show A < I.len W from by rw [hWl, hpl]; exact hAR) (.nth _ hwq ?_)
      cbv
      refine br_f (by rw [hI]; simp [ints, rCmp]) ?_
      cbv
      refine .idx A hA (show A < I.len W from by rw [hWl, hpl]; exact hAR) (.nth _ hwq ?_)
      cbv
      refine br_f (by rw [hI]; simp [ints, rCmp]) ?_
      cbv
      refine .drawn [] ?_
      cbv
      refine .rng 0 A rfl hA (Nat.zero_le _) (show A ≤ I.len W from by rw [hWl]; omega) ?_
      cbv
      refine .rng (A + 1) (I.len W) hat1 rfl (show A + 1 ≤ I.len W from by rw [hWl]; omega) (Nat.le_refl _) ?_
      cbv
      refine .most (show I.len (I.ext W 0 A) * 8 ≤ _ from by rw [hel]; exact mostC hAR hR1) (show I.len (I.ext W 0 A) ≤ _ from by rw [hel]; exact mostD hAR hR1) ?_
      cbv
      refine .most (show I.len (I.app (I.ext W 0 A) (I.ext W (A + 1) (I.add (A + 1) (I.sub (I.len W) (A + 1))))) * 8 ≤ _ from by rw [hcl]; exact mostA hR1) (show I.len (I.app (I.ext W 0 A) (I.ext W (A + 1) (I.add (A + 1) (I.sub (I.len W) (A + 1))))) ≤ _ from by rw [hcl]; exact mostB hR1) ?_
      cbv
      obtain ⟨W', hW'⟩ : ∃ W', W' = I.app (I.ext W 0 A) (I.ext W (A + 1) (I.add (A + 1) (I.sub (I.len W) (A + 1)))) := ⟨_, rfl⟩
      rw [← hW'] at hcut hcl
      have hps' : (ps.eraseIdx A).length = i - (e + 1) := hpl'
      refine .loop_next (fun n ts m => ∃ (s : Nat) (z2 c : Int), n = i - (e + 1) - s ∧ isN z2 s ∧ isN c (i - (e + 1)) ∧ s ≤ i - (e + 1) ∧
          ts = fr 148 [(0, i64 rm), (1, .one (.c (.g (.rows 1 W0)))), (5, .one (.c (.ptr 0 (.lit 0) 2 0))), (6, .one (.c (.row 2 1 none))), (8, i64 z), (105, i64 c), (106, i64 z2)] ∧ m = [qu rm (.row 1 9 none), .sym 9 L', .sym 1 W'])
        (i - (e + 1)) _ _ [0, 5, 9] [] [0, 1, 5, 6, 8, 105, 106] (by decide) rfl rfl rfl ⟨0, 0, I.ofNat (I.len W'), rfl, rfl, by rw [hcl, hI]; show (((i - e - 1 : Nat) : Int)) = ((i - (e + 1) : Nat) : Int); rw [Nat.sub_add_eq], Nat.zero_le _, by rw [hW']; rfl, by rw [hW']; rfl⟩ ?_
      rintro next2 n2 hnext2 ts m ⟨s, z2, c, hn2, hz2, hc, hs, rfl, rfl⟩
      cbv
      refine .br (fun g6 => ?_) (fun g6 => ?_)
      · have hs1 : s < i - (e + 1) := by
          have : z2 < c := by simpa [hI, ints, rCmp] using g6
          unfold isN at hz2 hc
          omega
        have hz4 : isN (I.bin .add .i64 z2 1) (s + 1) := add1 hI hz2 (by omega)
        obtain ⟨q3, hq3⟩ : ∃ q, (ps.eraseIdx A)[s]? = some q := ⟨_, List.getElem?_eq_getElem (ltB hps' hs1)⟩
        have hwq3 : W'[s]? = some [.int .i64 (.sym q3.i)] := by rw [hcut.get, hidc.get hq3]; rfl
        cbv
        refine .go [0, 1] [] [] (get hp (.sym z2) rm L' (ps.eraseIdx A) hL' (fun q hq => by rw [hidc.2 q hq]; simp) (by rw [hL'.len]; exact mostE hps' hR1)) rfl rfl rfl rfl rfl rfl ?_
        rintro v m1 hm
        have hX : ∃ D, v = .tup [q3.told (.row 2 1 none), gb true] ∧ m1 = [qu rm (.row 1 9 none), .sym 9 L', .sym 1 D] := by
          rcases hm with ⟨h1 | ⟨j, h1, h2⟩, _⟩ | ⟨j, q, D, h1, h2, h3, h4, h5⟩
          · exact absurd h1 (neg_not hz2)
          · exact (absD hs1 (hps' ▸ h2) (same_n (show isN _ j from h1) hz2)).elim
          · have := same_n (show isN _ j from h1) hz2
            subst this
            rw [hq3] at h2
            cases h2
            exact ⟨D, h4, h5⟩
        obtain ⟨D3, hv1, hv2⟩ := hX
        subst hv1
        subst hv2
        obtain ⟨qk3, qf3, qt3, qi3, ql3, qp3, qs3, qb3, qd3⟩ := q3
        cbv
        refine .drawn [] ?_
        cbv
        refine br_f (by rw [hI]; rfl) ?_
        cbv
        refine .idx s hz2 (show s < I.len W' from by rw [hcl]; exact ltA hs1) (.nth _ hwq3 ?_)
        cbv
        refine br_f (by rw [hI]; simp [ints, rCmp]) ?_
        cbv
        exact hnext2 _ _ (i - (e + 1) - (s + 1)) [0, 1, 2] [] [0, 1, 5, 6, 8, 105, 106] _ _ (decA hn2 hs1) (by decide) rfl rfl rfl ⟨s + 1, _, c, rfl, hz4, hc, hs1, rfl, rfl⟩
      cbv
      exact hnext _ _ (i - (e + 1)) [0, 1, 2] [] [0, 1, 5, 6, 8] _ _ (decB hn he1) (by decide) rfl rfl rfl ⟨e + 1, _, L', W', _, _, rfl, hz1, he1, hL', hcut, hidc, hpl', rfl, rfl⟩
    · obtain ⟨A, hA0, hA, hAR⟩ : ∃ A : Nat, A = 0 ∧ isN 0 A ∧ A < i - e := ⟨0, rfl, rfl, by omega⟩
      have hat1 : isN 1 (A + 1) := by rw [hA0]; rfl
      subst hA0
      cbv
      refine .go [0, 1] [] [] (get hp (.lit 0) rm L ps hL hd8 (by omega)) rfl rfl rfl rfl rfl rfl ?_
      rintro v m1 hm
      have hX : ∃ q D, ps[0]? = some q ∧ isL .i64 D q.d ∧ v = .tup [q.told (.row 2 1 none), gb true] ∧ m1 = [qu rm (.row 1 9 none), .sym 9 L, .sym 1 D] := by
        rcases hm with ⟨h1 | ⟨j, h1, h2⟩, _⟩ | ⟨j, q, D, h1, h⟩
        · exact absurd h1 (neg_not hA)
        · exact absurd (same_n (show isN _ j from h1) hA) (by omega)
        · have := same_n (show isN _ j from h1) hA
          subst this
          exact ⟨q, D, h⟩
      obtain ⟨q, D, hq, hD, hv1, hv2⟩ := hX
      subst hv1
      subst hv2
      have hwq : W[0]? = some [.int .i64 (.sym q.i)] := by rw [hW.get, hid.get hq]; rfl
      obtain ⟨qk, qf, qt, qi, ql, qp, qs, qb, qd⟩ := q
      cbv
      refine .go [0, 1] [] [] (remove hp (.lit 0) rm L ps hL hd8 (by omega)) rfl rfl rfl rfl rfl rfl ?_
      rintro v m1 hm
      have hX : ∃ D2 L', isP L' (ps.eraseIdx 0) ∧ v = .tup [PK.told ⟨qk, qf, qt, qi, ql, qp, qs, qb, qd⟩ (.row 3 1 none), gb true] ∧ m1 = [qu rm (.row 2 9 none), .dead, .sym 9 L', .sym 1 D2] := by
        rcases hm with ⟨h1 | ⟨j, h1, h2⟩, _⟩ | ⟨j, q, D2, L', h1, h2, h3, h4, h5, h6⟩
        · exact absurd h1 (neg_not hA)
        · exact absurd (same_n (show isN _ j from h1) hA) (by omega)
        · have := same_n (show isN _ j from h1) hA
          subst this
          rw [hq] at h2
          cases h2
          exact ⟨D2, L', h4, h5, h6⟩
      obtain ⟨D2, L', hL', hv1, hv2⟩ := hX
      subst hv1
      subst hv2
      have hcut := cutRow hI hW 0 (by omega)
      have hcl := cutLen hI hW 0 (by omega)
      rw [hwl] at hcl
      have hel : I.len (I.ext W 0 0) = 0 := by
        rw [hI]
        show ((W.take 0).drop 0).length = 0
        rw [List.drop_zero, List.length_take, hW.len]
        omega
      have hidc := hid.cut 0
      have hpl' : (ps.eraseIdx 0).length = i - (e + 1) := by rw [List.length_eraseIdx, hpl, if_pos hAR]; omega
      cbv
      refine .drawn [] ?_
      cbv
      refine br_f (by rw [hI]; rfl) ?_
      cbv
      refine br_f (by rw [hI]; rfl) ?_
      cbv
      refine .idx 0 hA (show 0 < I.len W from by rw [hWl, hpl]; exact hAR) (.nth _ hwq ?_)
      cbv
      refine br_f (by rw [hI]; simp [ints, rCmp]) ?_
      cbv
      refine .idx 0 hA (show 0 < I.len W from by rw [hWl, hpl]; exact hAR) (.nth _ hwq ?_)
      cbv
      refine br_f (by rw [hI]; simp [ints, rCmp]) ?_
      cbv
      refine .drawn [] ?_
      cbv
      refine .rng 0 0 rfl hA (Nat.zero_le _) (show 0 ≤ I.len W from by rw [hWl]; omega) ?_
      cbv
      refine .rng (0 + 1) (I.len W) hat1 rfl (show 0 + 1 ≤ I.len W from by rw [hWl]; omega) (Nat.le_refl _) ?_
      cbv
      refine .most (show I.len (I.ext W 0 0) * 8 ≤ _ from by rw [hel]; exact mostC hAR hR1) (show I.len (I.ext W 0 0) ≤ _ from by rw [hel]; exact mostD hAR hR1) ?_
      cbv
      refine .most (show I.len (I.app (I.ext W 0 0) (I.ext W (0 + 1) (I.add (0 + 1) (I.sub (I.len W) (0 + 1))))) * 8 ≤ _ from by rw [hcl]; exact mostA hR1) (show I.len (I.app (I.ext W 0 0) (I.ext W (0 + 1) (I.add (0 + 1) (I.sub (I.len W) (0 + 1))))) ≤ _ from by rw [hcl]; exact mostB hR1) ?_
      cbv
      obtain ⟨W', hW'⟩ : ∃ W', W' = I.app (I.ext W 0 0) (I.ext W (0 + 1) (I.add (0 + 1) (I.sub (I.len W) (0 + 1)))) := ⟨_, rfl⟩
      rw [← hW'] at hcut hcl
      have hps' : (ps.eraseIdx 0).length = i - (e + 1) := hpl'
      refine .loop_next (fun n ts m => ∃ (s : Nat) (z2 c : Int), n = i - (e + 1) - s ∧ isN z2 s ∧ isN c (i - (e + 1)) ∧ s ≤ i - (e + 1) ∧
          ts = fr 148 [(0, i64 rm), (1, .one (.c (.g (.rows 1 W0)))), (5, .one (.c (.ptr 0 (.lit 0) 2 0))), (6, .one (.c (.row 2 1 none))), (8, i64 z), (105, i64 c), (106, i64 z2)] ∧ m = [qu rm (.row 1 9 none), .sym 9 L', .sym 1 W'])
        (i - (e + 1)) _ _ [0, 5, 9] [] [0, 1, 5, 6, 8, 105, 106] (by decide) rfl rfl rfl ⟨0, 0, I.ofNat (I.len W'), rfl, rfl, by rw [hcl, hI]; show (((i - e - 1 : Nat) : Int)) = ((i - (e + 1) : Nat) : Int); rw [Nat.sub_add_eq], Nat.zero_le _, by rw [hW']; rfl, by rw [hW']; rfl⟩ ?_
      rintro next2 n2 hnext2 ts m ⟨s, z2, c, hn2, hz2, hc, hs, rfl, rfl⟩
      cbv
      refine .br (fun g6 => ?_) (fun g6 => ?_)
      · have hs1 : s < i - (e + 1) := by
          have : z2 < c := by simpa [hI, ints, rCmp] using g6
          unfold isN at hz2 hc
          omega
        have hz4 : isN (I.bin .add .i64 z2 1) (s + 1) := add1 hI hz2 (by omega)
        obtain ⟨q3, hq3⟩ : ∃ q, (ps.eraseIdx 0)[s]? = some q := ⟨_, List.getElem?_eq_getElem (ltB hps' hs1)⟩
        have hwq3 : W'[s]? = some [.int .i64 (.sym q3.i)] := by rw [hcut.get, hidc.get hq3]; rfl
        cbv
        refine .go [0, 1] [] [] (get hp (.sym z2) rm L' (ps.eraseIdx 0) hL' (fun q hq => by rw [hidc.2 q hq]; simp) (by rw [hL'.len]; exact mostE hps' hR1)) rfl rfl rfl rfl rfl rfl ?_
        rintro v m1 hm
        have hX : ∃ D, v = .tup [q3.told (.row 2 1 none), gb true] ∧ m1 = [qu rm (.row 1 9 none), .sym 9 L', .sym 1 D] := by
          rcases hm with ⟨h1 | ⟨j, h1, h2⟩, _⟩ | ⟨j, q, D, h1, h2, h3, h4, h5⟩
          · exact absurd h1 (neg_not hz2)
          · exact (absD hs1 (hps' ▸ h2) (same_n (show isN _ j from h1) hz2)).elim
          · have := same_n (show isN _ j from h1) hz2
            subst this
            rw [hq3] at h2
            cases h2
            exact ⟨D, h4, h5⟩
        obtain ⟨D3, hv1, hv2⟩ := hX
        subst hv1
        subst hv2
        obtain ⟨qk3, qf3, qt3, qi3, ql3, qp3, qs3, qb3, qd3⟩ := q3
        cbv
        refine .drawn [] ?_
        cbv
        refine br_f (by rw [hI]; rfl) ?_
        cbv
        refine .idx s hz2 (show s < I.len W' from by rw [hcl]; exact ltA hs1) (.nth _ hwq3 ?_)
        cbv
        refine br_f (by rw [hI]; simp [ints, rCmp]) ?_
        cbv
        exact hnext2 _ _ (i - (e + 1) - (s + 1)) [0, 1, 2] [] [0, 1, 5, 6, 8, 105, 106] _ _ (decA hn2 hs1) (by decide) rfl rfl rfl ⟨s + 1, _, c, rfl, hz4, hc, hs1, rfl, rfl⟩
      cbv
      exact hnext _ _ (i - (e + 1)) [0, 1, 2] [] [0, 1, 5, 6, 8] _ _ (decB hn he1) (by decide) rfl rfl rfl ⟨e + 1, _, L', W', _, _, rfl, hz1, he1, hL', hcut, hidc, hpl', rfl, rfl⟩
  have heR : e = i := by
    have : ¬ z < rm := by simpa [hI, ints, rCmp] using g1
    unfold isN at hz hR
    omega
  subst heR
  have hps0 : ps = [] := List.eq_nil_of_length_eq_zero (by omega)
  cbv
  refine .go [0, 1] [] [] (remove hp (.lit 0) rm L ps hL hd8 (by omega)) rfl rfl rfl rfl rfl rfl ?_
  rintro v m1 hm
  have hX : v = .tup [PK.nought.told (.g .nil), gb false] ∧ m1 = [qu rm (.row 1 9 none), .sym 9 L] := by
    rcases hm with ⟨_, h1, h2⟩ | ⟨j, q, D, L', _, h, _⟩
    · exact ⟨h1, h2⟩
    · rw [hps0] at h; simp at h
  obtain ⟨hv1, hv2⟩ := hX
  subst hv1
  subst hv2
  cbv
  refine br_t (by rw [hI]; rfl) ?_
  cbv
  refine .go [0, 1] [] [] (len_ hp rm L) rfl rfl rfl rfl rfl rfl ?_
  rintro v m1 ⟨t3, ht3, hv1, hv2⟩
  subst hv1
  subst hv2
  replace ht3 : t3 = 0 := by rw [ht3, hLl, Nat.sub_self]; rfl
  cbv
  refine br_t (by rw [hI, ht3]; rfl) ?_
  cbv
  refine .go [0, 1] [] [] (room_ hp rm L hrb.1 hrb.2 (by omega)) rfl rfl rfl rfl rfl rfl ?_
  rintro v m1 ⟨t4, ht4, hv1, hv2⟩
  subst hv1
  subst hv2
  replace ht4 : t4 = rm := by rw [ht4, hLl, Nat.sub_self]; exact Int.sub_zero rm
  cbv
  refine br_t (by rw [hI, ht4]; simp [ints, rCmp]) ?_
  cbv
  refine .go [] [] [] (wakes hp) rfl rfl rfl rfl rfl rfl ?_
  rintro r m1 ⟨rfl, rfl⟩
  cbv
  exact hP _ _ [] [] _ _ .nil rfl rfl rfl rfl rfl ⟨_, rfl, rfl⟩
end
end Go.Proofs.Ytioihcojooibmaa.E
