/- PoolTurns. -/
import Derived.Test.YtioihcojooibmaaQQ
namespace Go.Proofs.Ytioihcojooibmaa.E
open Go
set_option linter.unusedVariables false
set_option maxRecDepth 100000

/-- Packets of nothing but IDs, and their IDs. -/
def idw (ps : List PK) (ws : List Int) : Prop := ps.map PK.i = ws ∧ ∀ q ∈ ps, q.d = []
theorem idw.len {ps : List PK} {ws : List Int} (h : idw ps ws) : ws.length = ps.length := by rw [← h.1]; simp
theorem idw.get {ps : List PK} {ws : List Int} (h : idw ps ws) {i : Nat} {q : PK} (hq : ps[i]? = some q) : ws[i]? = some q.i := by rw [← h.1]; simp [hq]
theorem idw.put {ps : List PK} {ws : List Int} (h : idw ps ws) (z : Int) : idw (ps ++ [⟨0, 0, 0, z, 0, 0, 0, false, []⟩]) (ws ++ [z]) := by
  refine ⟨by rw [← h.1]; simp, fun q hq => ?_⟩
  rcases List.mem_append.1 hq with hq | hq
  · exact h.2 q hq
  · simp at hq; rw [hq]
theorem idw.cut {ps : List PK} {ws : List Int} (h : idw ps ws) (i : Nat) : idw (ps.eraseIdx i) (ws.eraseIdx i) := ⟨by rw [← h.1]; exact eraseIdx_map _ ps i, fun q hq => h.2 q (List.mem_of_mem_eraseIdx hq)⟩
theorem isL.app {k : IntKind} {l : List (List G)} {xs : List Int} (h : isL k l xs) (z : Int) : isL k (l ++ [[.int k (.sym z)]]) (xs ++ [z]) := by unfold isL at h ⊢; rw [h]; simp [nrow]
theorem isL.del {k : IntKind} {l : List (List G)} {xs : List Int} (h : isL k l xs) (i : Nat) : isL k ((l.take i).drop 0 ++ (l.take l.length).drop (i + 1)) (xs.eraseIdx i) := by
  unfold isL at h ⊢
  rw [List.drop_zero, List.take_length, List.eraseIdx_eq_take_drop_succ, h]
  simp [nrow, List.map_take, List.map_drop]
theorem sub1 {rm t : Int} {R l : Nat} (h : t = rm - (l : Nat)) (hl : l = R - 1) (hR : isN rm R) (h1 : 1 ≤ R) : t = 1 := by unfold isN at hR; omega
theorem add1 {I : Ints} (hI : I = ints) {z : Int} {i : Nat} (hz : isN z i) (hi : i ≤ 1000000) : isN (I.bin .add .i64 z 1) (i + 1) := by
  unfold isN at hz ⊢
  rw [hI]
  simp only [ints, rBin]
  rw [wrap_in] <;> omega
/-- One element less. -/
theorem cutRow {I : Ints} (hI : I = ints) {k : IntKind} {W : List (List G)} {ws : List Int} (h : isL k W ws) (A : Nat) (hA : A < ws.length) : isL k (I.app (I.ext W 0 A) (I.ext W (A + 1) (I.add (A + 1) (I.sub (I.len W) (A + 1))))) (ws.eraseIdx A) := by
  rw [hI]
  have h1 := h.del A
  have : A + 1 + (W.length - (A + 1)) = W.length := by rw [h.len]; omega
  show isL k ((W.take A).drop 0 ++ (W.take (A + 1 + (W.length - (A + 1)))).drop (A + 1)) _
  rw [this]
  exact h1
theorem cutLen {I : Ints} (hI : I = ints) {k : IntKind} {W : List (List G)} {ws : List Int} (h : isL k W ws) (A : Nat) (hA : A < ws.length) : I.len (I.app (I.ext W 0 A) (I.ext W (A + 1) (I.add (A + 1) (I.sub (I.len W) (A + 1))))) = ws.length - 1 := by
  have h1 := (cutRow hI h A hA).len
  rw [List.length_eraseIdx, if_pos hA] at h1
  subst hI
  exact h1
section
variable {P : Program} (hp : P = Try.prog)
include hp
set_option maxHeartbeats 8000000 in
theorem turns (n0 : Int) (W0 : List (List G)) (us : List Int) (h0 : isL .i64 W0 us) (hul : us.length ≤ 140737488355328) : LValid P 6 [gi .i64 n0, .c (.g (.rows 1 W0))] [] (fun v _ => ∃ b : BB, b.val = true ∧ v = .one (.c (.g (.bool b)))) := by
  obtain ⟨I, hI⟩ := ref
  have hle : I.len W0 = us.length := by rw [hI]; exact h0.len
  refine fn_sim hI (mo hp) (cc hp c6) fun Post hP => ?_
  cbv
  refine .go [] [] [] (within hp _ _) rfl rfl rfl rfl rfl rfl ?_
  rintro r m1 ⟨y, hy, rfl, rfl⟩
  have hyr : 0 ≤ y ∧ y < 6 := by rw [hy]; exact win_in n0 6 (by omega) (by omega)
  obtain ⟨rm, hrm⟩ : ∃ rm, rm = I.bin .add .i64 1 y := ⟨_, rfl⟩
  obtain ⟨R, hR, hR1⟩ : ∃ R : Nat, isN rm R ∧ 1 ≤ R ∧ R ≤ 6 := ⟨(y + 1).toNat, by
    unfold isN
    rw [hrm, hI]
    simp only [ints, rBin]
    rw [wrap_in] <;> omega, by omega, by omega⟩
  clear hyr hy
  cbv
  refine .go [] [] [] (new hp (.sym rm)) rfl rfl rfl rfl (by rw [hrm]; rfl) rfl ?_
  rintro r m1 ⟨rm2, hrm2, rfl, rfl⟩
  have hrm2 : rm2 = rm := by rw [hrm2]; show max 0 rm = rm; unfold isN at hR; omega
  subst hrm2
  have hrb : 0 ≤ rm2 ∧ rm2 ≤ 1000000 := by unfold isN at hR; omega
  cbv
  refine .own 6 1 rfl ?_
  refine .loop_next (fun n ts m => ∃ (i : Nat) (z za : Int) (L W : List (List G)) (ps : List PK) (ws : List Int), n = 30 - i ∧ isN z i ∧ i ≤ 30 ∧ isP L ps ∧ isL .i64 W ws ∧ idw ps ws ∧ ps.length ≤ R ∧
      ts = fr 107 [(0, i64 rm2), (1, .one (.c (.g (.rows 1 W0)))), (5, .one (.c (.ptr 0 (.lit 0) 2 0))), (6, .one (.c (.row 2 1 none))), (7, i64 za), (8, i64 z)] ∧ m = [qu rm2 (.row 1 9 none), .sym 9 L, .sym 1 W])
    30 _ _ [0, 1, 2] [] [0, 1, 5, 6, 7, 8] (by decide) rfl rfl rfl ⟨0, 0, 0, [], [], [], [], rfl, rfl, by omega, rfl, rfl, ⟨rfl, by simp⟩, by simp, by rw [hrm]; rfl, rfl⟩ ?_
  rintro next n hnext ts m ⟨i, z, za, L, W, ps, ws, hn, hz, hi, hL, hW, hid, hpl, rfl, rfl⟩
  cbv
  refine .br (fun g1 => ?_) (fun g1 => ?_)
  · have hi1 : i < us.length := by
      have h' : rCmp .lss z ((I.len W0 : Nat) : Int) = true := by rw [hI] at g1 ⊢; exact g1
      rw [hle] at h'
      have : z < (us.length : Nat) := by simpa [rCmp] using h'
      unfold isN at hz
      omega
    cbv
    refine .br (fun g2 => ?_) (fun g2 => ?_)
    · have hi2 : i < 30 := by
        have : z < 30 := by simpa [hI, ints, rCmp] using g2
        unfold isN at hz
        omega
      have hz1 : isN (I.bin .add .i64 z 1) (i + 1) := by unfold isN at hz ⊢; rw [hI]; simp only [ints, rBin]; rw [wrap_in] <;> omega
      obtain ⟨x, hx⟩ : ∃ x, us[i]? = some x := ⟨_, List.getElem?_eq_getElem hi1⟩
      have hr : W0[i]? = some [.int .i64 (.sym x)] := by rw [h0.get, hx]; rfl
      have hil : i < I.len W0 := by rw [hle]; exact hi1
      cbv
      refine .loop_next (fun n ts m => ∃ (za : Int) (L W : List (List G)) (ps : List PK) (ws : List Int), n = R - ps.length ∧ isP L ps ∧ isL .i64 W ws ∧ idw ps ws ∧ ps.length ≤ R ∧
          ts = fr 107 [(0, i64 rm2), (1, .one (.c (.g (.rows 1 W0)))), (5, .one (.c (.ptr 0 (.lit 0) 2 0))), (6, .one (.c (.row 2 1 none))), (7, i64 za), (8, i64 z)] ∧ m = [qu rm2 (.row 1 9 none), .sym 9 L, .sym 1 W])
        (R - ps.length) _ _ [0, 1, 2] [] [0, 1, 5, 6, 7, 8] (by decide) rfl rfl rfl ⟨za, L, W, ps, ws, rfl, hL, hW, hid, hpl, rfl, rfl⟩ ?_
      clear hL hW hid hpl
      rintro next2 n2 hnext2 ts m ⟨za, L, W, ps, ws, hn2, hL, hW, hid, hpl, rfl, rfl⟩
      have hLl : L.length = ps.length := hL.len
      have hWl : I.len W = ps.length := by rw [hI]; show W.length = _; rw [hW.len, hid.len]
      have hd8 : ∀ q ∈ ps, q.d.length * 8 ≤ 140737488355328 := fun q hq => by rw [hid.2 q hq]; simp
      cbv
      refine .br (fun g3 => ?_) (fun g3 => ?_)
      · have h3 : ps.length < R := by
          have h' : rCmp .lss ((I.len W : Nat) : Int) rm2 = true := by rw [hI] at g3 ⊢; exact g3
          rw [hWl] at h'
          have : (ps.length : Int) < rm2 := by simpa [rCmp] using h'
          unfold isN at hR
          omega
        cbv
        refine .go [0, 1] [] [.keep, .bor 1] (put hp ⟨_, _, _, _, _, _, _, _⟩ [] [] rfl (by simp) rm2 L hrb.1 hrb.2 (by omega)) rfl rfl rfl rfl rfl rfl ?_
        rintro v m1 ⟨t, rfl, hm⟩
        have hX : t = 0 ∧ ∃ L', isP L' (ps ++ [⟨0, 0, 0, za, 0, 0, 0, false, []⟩]) ∧ m1 = [qu rm2 (.row 2 9 none), .dead, .sym 9 L'] := by
          rcases hm with ⟨_, h, _⟩ | ⟨h1, _, L', h2, h3⟩
          · unfold isN at hR; omega
          · exact ⟨h1, L', by rw [h2]; exact hL.app ⟨0, 0, 0, za, 0, 0, 0, false, []⟩ [] rfl, h3⟩
        obtain ⟨ht, hX⟩ := hX
        obtain ⟨L', hX⟩ := hX
        obtain ⟨hL', hX⟩ := hX
        subst hX
        have hW2 : isL .i64 (I.app W [[.int .i64 (.sym za)]]) (ws ++ [za]) := by rw [hI]; exact hW.app za
        have hWl2 : I.len (I.app W [[.int .i64 (.sym za)]]) = ps.length + 1 := by
          have := hW2.len
          rw [hI] at this ⊢
          rw [show ints.len = List.length from rfl, this]
          simp [hid.len]
        have hid2 := hid.put za
        have hpl2 : (ps ++ [(⟨0, 0, 0, za, 0, 0, 0, false, []⟩ : PK)]).length = ps.length + 1 := by simp
        cbv
        refine br_f (by rw [hI, ht]; rfl) ?_
        cbv
        refine .most (show I.len (I.app W [[.int .i64 (.sym za)]]) * 8 ≤ _ from by rw [hWl2]; omega) (show I.len (I.app W [[.int .i64 (.sym za)]]) ≤ _ from by rw [hWl2]; omega) ?_
        cbv
        exact hnext2 _ _ (R - (ps.length + 1)) [0, 3, 5] [] [0, 1, 5, 6, 7, 8] _ _ (by omega) (by decide) rfl rfl rfl ⟨_, L', _, _, _, by rw [hpl2], hL', hW2, hid2, by omega, rfl, rfl⟩
      have h3 : ps.length = R := by
        have h' : rCmp .lss ((I.len W : Nat) : Int) rm2 = false := by rw [hI] at g3 ⊢; exact g3
        rw [hWl] at h'
        have : ¬ (ps.length : Int) < rm2 := by simpa [rCmp] using h'
        unfold isN at hR
        omega
      cbv
      refine .idx i hz hil (.nth _ hr ?_)
      cbv
      refine .go [] [] [] (within hp _ _) rfl rfl rfl rfl rfl rfl ?_
      rintro r m1 ⟨at0, hat, rfl, rfl⟩
      have hatr : 0 ≤ at0 ∧ at0 < rm2 := by rw [hat]; exact win_in x rm2 (by unfold isN at hR; omega) (by unfold isN at hR; omega)
      obtain ⟨A, hA, hAR⟩ : ∃ A : Nat, isN at0 A ∧ A < R := ⟨at0.toNat, by unfold isN; omega, by unfold isN at hR; omega⟩
      clear hatr hat
      cbv
      refine .go [0, 1] [] [] (remove hp (.sym at0) rm2 L ps hL hd8 (by omega)) rfl rfl rfl rfl rfl rfl ?_
      rintro v m1 hm
      have hX : ∃ q D L', ps[A]? = some q ∧ isL .i64 D q.d ∧ isP L' (ps.eraseIdx A) ∧ v = .tup [q.told (.row 3 1 none), gb true] ∧ m1 = [qu rm2 (.row 2 9 none), .dead, .sym 9 L', .sym 1 D] := by
        rcases hm with ⟨h1 | ⟨j, h1, h2⟩, _⟩ | ⟨j, q, D, L', h1, h⟩
        · exfalso; unfold isN at hA; have h1 : at0 < 0 := h1; omega
        · exfalso; unfold isN at hA h1; have h1 : at0 = (j : Int) := h1; omega
        · have : j = A := by unfold isN at hA h1; have h1 : at0 = (j : Int) := h1; omega
          subst this
          exact ⟨q, D, L', h⟩
      obtain ⟨q, D, L', hq, hD, hL', hv1, hv2⟩ := hX
      subst hv1
      subst hv2
      have hwq : W[A]? = some [.int .i64 (.sym q.i)] := by rw [hW.get, hid.get hq]; rfl
      have hL'l : L'.length = R - 1 := by rw [hL'.len, List.length_eraseIdx]; simp [h3, hAR]
      have hWl' : W.length = R := by rw [hW.len, hid.len, h3]
      obtain ⟨qk, qf, qt, qi, ql, qp, qs, qb, qd⟩ := q
      cbv
      refine .drawn [0, 3] ?_
      cbv
      refine br_f (by rw [hI]; rfl) ?_
      cbv
      refine .idx A hA (show A < I.len W from by rw [hWl, h3]; exact hAR) (.nth _ hwq ?_)
      cbv
      refine br_f (by rw [hI]; simp [ints, rCmp]) ?_
      cbv
      refine .go [0, 3] [] [] (room_ hp rm2 L' hrb.1 hrb.2 (by omega)) rfl rfl rfl rfl rfl rfl ?_
      rintro v m1 ⟨t4, ht4, rfl, rfl⟩
      replace ht4 : t4 = 1 := sub1 ht4 hL'l hR hR1.1
      cbv
      refine br_f (by rw [hI, ht4]; rfl) ?_
      cbv
      have hat1 : isN (I.bin .add .i64 at0 1) (A + 1) := add1 hI hA (by omega)
      have hwl : ws.length = R := by rw [hid.len, h3]
      have hcut := cutRow hI hW A (by omega)
      have hcl := cutLen hI hW A (by omega)
      rw [hwl] at hcl
      have hel : I.len (I.ext W 0 A) = A := by
        rw [hI]
        show ((W.take A).drop 0).length = A
        simp
        omega
      have hidc := hid.cut A
      have hpl' : (ps.eraseIdx A).length ≤ R := by rw [List.length_eraseIdx]; split <;> omega
      refine .drawn [] ?_
      cbv
      refine .rng 0 A rfl hA (Nat.zero_le _) (show A ≤ I.len W from by rw [hWl]; omega) ?_
      cbv
      refine .rng (A + 1) (I.len W) hat1 rfl (show A + 1 ≤ I.len W from by rw [hWl]; omega) (Nat.le_refl _) ?_
      cbv
      refine .most (show I.len (I.ext W 0 A) * 8 ≤ _ from by rw [hel]; omega) (show I.len (I.ext W 0 A) ≤ _ from by rw [hel]; omega) ?_
      cbv
      refine .most (show I.len (I.app (I.ext W 0 A) (I.ext W (A + 1) (I.add (A + 1) (I.sub (I.len W) (A + 1))))) * 8 ≤ _ from by rw [hcl]; omega) (show I.len (I.app (I.ext W 0 A) (I.ext W (A + 1) (I.add (A + 1) (I.sub (I.len W) (A + 1))))) ≤ _ from by rw [hcl]; omega) ?_
      cbv
      exact hnext _ _ (30 - (i + 1)) [0, 3, 7] [] [0, 1, 5, 6, 7, 8] _ _ (by omega) (by decide) rfl rfl rfl ⟨i + 1, _, _, L', _, _, _, rfl, hz1, hi2, hL', hcut, hidc, hpl', rfl, rfl⟩
    · cbv
      refine .go [0, 1] [] [] (all_ hp rm2 L ps hL (fun q hq => by rw [hid.2 q hq]; simp) (by rw [hL.len]; omega)) rfl rfl rfl rfl rfl rfl ?_
      rintro v m1 ⟨L4, hL4, hv1, hv2⟩
      subst hv1
      subst hv2
      have hL4n : I.len L4 = ps.length := by rw [hI]; exact hL4.len
      have hWl : I.len W = ps.length := by rw [hI]; show W.length = _; rw [hW.len, hid.len]
      cbv
      refine br_f (show I.cmp .neq (I.ofNat (I.len L4)) (I.ofNat (I.len W)) = false from by rw [hL4n, hWl, hI]; simp [ints, rCmp]) ?_
      cbv
      refine .loop_next (fun n ts m => ∃ (e : Nat) (z c : Int), n = ps.length - e ∧ isN z e ∧ isN c ps.length ∧ e ≤ ps.length ∧
          ts = fr 107 [(6, .one (.c (.row 1 1 none))), (12, .one (.c (.row 0 9 none))), (91, i64 c), (92, i64 z)] ∧ m = [.sym 9 L4, .sym 1 W])
        ps.length _ _ [3, 2] [] [6, 12, 91, 92] (by decide) rfl rfl rfl ⟨0, 0, I.ofNat (I.len L4), rfl, rfl, by rw [hL4n, hI]; rfl, by omega, rfl, rfl⟩ ?_
      rintro next3 n3 hnext3 ts m ⟨e, z3, c3, hn3, hz3, hc3, he, rfl, rfl⟩
      cbv
      refine .br (fun g6 => ?_) (fun g6 => ?_)
      · have he1 : e < ps.length := by
          have : z3 < c3 := by simpa [hI, ints, rCmp] using g6
          unfold isN at hz3 hc3
          omega
        have hz4 : isN (I.bin .add .i64 z3 1) (e + 1) := add1 hI hz3 (by omega)
        obtain ⟨q, hq⟩ : ∃ q, ps[e]? = some q := ⟨_, List.getElem?_eq_getElem he1⟩
        obtain ⟨D, hD, hr⟩ := hL4.get hq
        have hwq : W[e]? = some [.int .i64 (.sym q.i)] := by rw [hW.get, hid.get hq]; rfl
        obtain ⟨qk, qf, qt, qi, ql, qp, qs, qb, qd⟩ := q
        cbv
        refine .drawn [] ?_
        cbv
        refine .idx e hz3 (show e < I.len L4 from by rw [hL4n]; exact he1) ?_
        cbv
        refine .nth _ hr ?_
        cbv
        refine .idx e hz3 (show e < I.len W from by rw [hWl]; exact he1) (.nth _ hwq ?_)
        cbv
        refine br_f (by rw [hI]; simp [ints, rCmp]) ?_
        cbv
        exact hnext3 _ _ (ps.length - (e + 1)) [0, 1] [] [6, 12, 91, 92] _ _ (by omega) (by decide) rfl rfl rfl ⟨e + 1, _, c3, rfl, hz4, hc3, he1, rfl, rfl⟩
      cbv
      refine .go [] [] [] (wakes hp) rfl rfl rfl rfl rfl rfl ?_
      rintro r m1 ⟨rfl, rfl⟩
      cbv
      exact hP _ _ [] [] _ _ .nil rfl rfl rfl rfl rfl ⟨_, rfl, rfl⟩
  · cbv
    refine .go [0, 1] [] [] (all_ hp rm2 L ps hL (fun q hq => by rw [hid.2 q hq]; simp) (by rw [hL.len]; omega)) rfl rfl rfl rfl rfl rfl ?_
    rintro v m1 ⟨L4, hL4, hv1, hv2⟩
    subst hv1
    subst hv2
    have hL4n : I.len L4 = ps.length := by rw [hI]; exact hL4.len
    have hWl : I.len W = ps.length := by rw [hI]; show W.length = _; rw [hW.len, hid.len]
    cbv
    refine br_f (show I.cmp .neq (I.ofNat (I.len L4)) (I.ofNat (I.len W)) = false from by rw [hL4n, hWl, hI]; simp [ints, rCmp]) ?_
    cbv
    refine .loop_next (fun n ts m => ∃ (e : Nat) (z c : Int), n = ps.length - e ∧ isN z e ∧ isN c ps.length ∧ e ≤ ps.length ∧
        ts = fr 107 [(6, .one (.c (.row 1 1 none))), (12, .one (.c (.row 0 9 none))), (91, i64 c), (92, i64 z)] ∧ m = [.sym 9 L4, .sym 1 W])
      ps.length _ _ [3, 2] [] [6, 12, 91, 92] (by decide) rfl rfl rfl ⟨0, 0, I.ofNat (I.len L4), rfl, rfl, by rw [hL4n, hI]; rfl, by omega, rfl, rfl⟩ ?_
    rintro next3 n3 hnext3 ts m ⟨e, z3, c3, hn3, hz3, hc3, he, rfl, rfl⟩
    cbv
    refine .br (fun g6 => ?_) (fun g6 => ?_)
    · have he1 : e < ps.length := by
        have : z3 < c3 := by simpa [hI, ints, rCmp] using g6
        unfold isN at hz3 hc3
        omega
      have hz4 : isN (I.bin .add .i64 z3 1) (e + 1) := add1 hI hz3 (by omega)
      obtain ⟨q, hq⟩ : ∃ q, ps[e]? = some q := ⟨_, List.getElem?_eq_getElem he1⟩
      obtain ⟨D, hD, hr⟩ := hL4.get hq
      have hwq : W[e]? = some [.int .i64 (.sym q.i)] := by rw [hW.get, hid.get hq]; rfl
      obtain ⟨qk, qf, qt, qi, ql, qp, qs, qb, qd⟩ := q
      cbv
      refine .drawn [] ?_
      cbv
      refine .idx e hz3 (show e < I.len L4 from by rw [hL4n]; exact he1) ?_
      cbv
      refine .nth _ hr ?_
      cbv
      refine .idx e hz3 (show e < I.len W from by rw [hWl]; exact he1) (.nth _ hwq ?_)
      cbv
      refine br_f (by rw [hI]; simp [ints, rCmp]) ?_
      cbv
      exact hnext3 _ _ (ps.length - (e + 1)) [0, 1] [] [6, 12, 91, 92] _ _ (by omega) (by decide) rfl rfl rfl ⟨e + 1, _, c3, rfl, hz4, hc3, he1, rfl, rfl⟩
    cbv
    refine .go [] [] [] (wakes hp) rfl rfl rfl rfl rfl rfl ?_
    rintro r m1 ⟨rfl, rfl⟩
    cbv
    exact hP _ _ [] [] _ _ .nil rfl rfl rfl rfl rfl ⟨_, rfl, rfl⟩
end
end Go.Proofs.Ytioihcojooibmaa.E
