/- PoolPlays. -/
import Derived.Test.YtioihcojooibmaaQR
namespace Go.Proofs.Ytioihcojooibmaa.E
open Go
set_option linter.unusedVariables false
set_option maxRecDepth 100000

theorem neqf {I : Ints} (hI : I = ints) {a b : Int} {n m : Nat} (ha : isN a n) (hb : isN b m) (h : n = m) : I.cmp .neq a b = false := by
  unfold isN at ha hb
  rw [ha, hb, h, hI]
  simp [ints, rCmp]
theorem roomf {I : Ints} (hI : I = ints) {t rm mx len : Int} {l p : Nat} (ht : t = rm - (l : Int)) (hmx : mx = rm) (hlen : isN len p) (hlp : l = p) (h0 : 0 ≤ rm) (h1 : rm ≤ 1000) (hp : p ≤ 1000) : I.cmp .neq t (I.bin .sub .i64 mx len) = false := by
  unfold isN at hlen
  subst hlp
  have e : IntKind.i64.wrap (rm - (l : Int)) = rm - (l : Int) := by rw [wrap_in] <;> omega
  have h : (t != IntKind.i64.wrap (mx - len)) = false := by rw [ht, hmx, hlen, e]; simp
  rw [hI]
  exact h
section
variable {P : Program} {I : Ints} {p : Nat}
theorem isb_t {at_ : Int} {j n : Nat} (hj : isN at_ j) (h : j < n) : decide (0 ≤ at_ ∧ at_ < n) = true := by
  unfold isN at hj
  exact decide_eq_true (by omega)
theorem isb_f {at_ : Int} {n : Nat} (h : at_ < 0 ∨ ∃ j, isN at_ j ∧ n ≤ j) : decide (0 ≤ at_ ∧ at_ < n) = false := by
  refine decide_eq_false ?_
  rcases h with h | ⟨j, hj, hjl⟩
  · omega
  · unfold isN at hj
    omega
theorem br2 {b : Bool} {t e : Unit → Tree} {Q : Prop} (h1 : b = true → Q → Holds P I p (t ())) (h2 : b = false → Q → Holds P I p (e ())) (h : Q) : Holds P I p (.br b t e) := .br (fun g => h1 g h) (fun g => h2 g h)
end
section
variable {P : Program} (hp : P = Try.prog)
include hp
set_option maxHeartbeats 100000000 in
theorem plays (room0 : Int) (A0 B0 D0 : List (List G)) (as0 bs0 ds : List Int) (h0 : isL .i64 A0 as0) (hB : isL .i64 B0 bs0) (hD : isL .i64 D0 ds) (hD8 : ds.length * 8 ≤ 140737488355328) : LValid P 5 [gi .i64 room0, .c (.g (.rows 1 A0)), .c (.g (.rows 1 B0)), .c (.g (.rows 1 D0))] [] (fun v _ => ∃ b : BB, b.val = true ∧ v = .one (.c (.g (.bool b)))) := by
  obtain ⟨I, hI⟩ := ref
  have hle : I.len A0 = as0.length := by rw [hI]; exact h0.len
  have hbe : I.len B0 = bs0.length := by rw [hI]; exact hB.len
  have hDl : I.len D0 = ds.length := by rw [hI]; exact hD.len
  have hDn : isN (I.ofNat (I.len D0)) ds.length := by rw [hDl, hI]; rfl
  have hD8r : D0.length * 8 ≤ 140737488355328 := by rw [hD.len]; exact hD8
  have happ : ∀ (x y : List (List G)), I.app x y = x ++ y := fun x y => by rw [hI]; rfl
  refine fn_sim hI (mo hp) (ccj hp c5) fun Post hP => ?_
  cbv
  refine .join_next (fun ts m => ∃ r1 : Int, ts = fr 208 [(0, i64 r1), (1, .one (.c (.g (.rows 1 A0)))), (2, .one (.c (.g (.rows 1 B0)))), (3, .one (.c (.g (.rows 1 D0))))] ∧ m = []) ?_ ?_
  · intro next hnx
    cbv
    refine .br (fun g0 => ?_) (fun g0 => ?_)
    · cbv
      refine .go [] [] [] (within hp _ _) rfl rfl rfl rfl rfl rfl ?_
      rintro r m1 ⟨y, hy, rfl, rfl⟩
      cbv
      exact hnx _ _ [] [] [0, 1, 2, 3] _ _ (by decide) rfl rfl rfl ⟨_, rfl, rfl⟩
    · cbv
      exact hnx _ _ [] [] [0, 1, 2, 3] _ _ (by decide) rfl rfl rfl ⟨_, rfl, rfl⟩
  rintro ts m ⟨r1, rfl, rfl⟩
  cbv
  refine .go [] [] [] (new hp (.sym (I.mn r1 30))) rfl rfl rfl rfl rfl rfl ?_
  rintro r m1 ⟨rm, hrm, rfl, rfl⟩
  have hrm : rm = max 0 (I.mn r1 30) := hrm
  have hmn : I.mn r1 30 ≤ 30 := by
    rw [hI]
    show (if (30 : Int) < r1 then 30 else r1) ≤ 30
    split <;> omega
  have h9 : ∃ room, room = I.mn r1 30 := ⟨_, rfl⟩
  obtain ⟨room, hroom⟩ := h9
  rw [← hroom] at hrm hmn
  have hmx : I.mx room 0 = rm := by
    rw [hrm, hI]
    show (if 0 > room then 0 else room) = _
    split <;> omega
  have hrm0 : 0 ≤ rm := by omega
  have hrm30 : rm ≤ 30 := by omega
  clear hrm hmn
  cbv
  refine .own 10 9 rfl ?_
  refine .loop_next (fun n ts m => ∃ (i : Nat) (z : Int) (L RR : List (List G)) (ps : List PK), n = 20 - i ∧ isN z i ∧ i ≤ 20 ∧ isP L ps ∧ isP RR ps ∧ (ps.length : Int) ≤ rm ∧ (∀ q ∈ ps, q.d = ds) ∧
      ts = fr 208 [(0, i64 room), (1, .one (.c (.g (.rows 1 A0)))), (2, .one (.c (.g (.rows 1 B0)))), (3, .one (.c (.g (.rows 1 D0)))), (9, .one (.c (.ptr 0 (.lit 0) 2 0))), (10, .one (.c (.row 2 9 none))), (11, i64 z)] ∧ m = [qu rm (.row 1 9 none), .sym 9 L, .sym 9 RR])
    20 _ _ [0, 1, 2] [] [0, 1, 2, 3, 9, 10, 11] (by decide) rfl (by rw [hroom]; rfl) rfl ⟨0, 0, [], [], [], rfl, rfl, by omega, rfl, rfl, by simpa using hrm0, by simp, rfl, rfl⟩ ?_
  clear hroom
  rintro next n hnext ts m ⟨i, z, L, RR, ps, hn, hz, hi, hL, hV, hple, hds, rfl, rfl⟩
  have hple : (ps.length : Int) ≤ rm := hple
  have hpl30 : ps.length ≤ 30 := by omega
  have hge : ∀ (q : Bool) (len : Int), isN len ps.length → I.cmp .geq len (I.mx room 0) = true → (ps.length : Int) = rm := fun q len h1 h2 => by
    unfold isN at h1
    rw [h1, hmx, hI] at h2
    have h2 : decide ((ps.length : Int) ≥ rm) = true := h2
    have := of_decide_eq_true h2
    omega
  have hlt : ∀ (q : Bool) (len : Int), isN len ps.length → I.cmp .geq len (I.mx room 0) = false → (ps.length : Int) < rm := fun q len h1 h2 => by
    unfold isN at h1
    rw [h1, hmx, hI] at h2
    have h2 : decide ((ps.length : Int) ≥ rm) = false := h2
    have := of_decide_eq_false h2
    omega
  have hRl : I.len RR = ps.length := by rw [hI]; exact hV.len
  have hLEN : isN (I.ofNat (I.len RR)) ps.length := by rw [hRl, hI]; rfl
  cbv
  refine .br (fun g1 => ?_) (fun g1 => ?_)
  · have hi1 : i < as0.length := by
      have h' : rCmp .lss z ((I.len A0 : Nat) : Int) = true := by rw [hI] at g1 ⊢; exact g1
      rw [hle] at h'
      have : z < (as0.length : Nat) := by simpa [rCmp] using h'
      unfold isN at hz
      omega
    cbv
    refine .br (fun g2 => ?_) (fun g2 => ?_)
    · have hi2 : i < 20 := by
        have : z < 20 := by simpa [hI, ints, rCmp] using g2
        unfold isN at hz
        omega
      have hz1 : isN (I.bin .add .i64 z 1) (i + 1) := by unfold isN at hz ⊢; rw [hI]; simp only [ints, rBin]; rw [wrap_in] <;> omega
      have h9 : ∃ x, as0[i]? = some x := ⟨_, List.getElem?_eq_getElem hi1⟩
      obtain ⟨x, hx⟩ := h9
      have hr : A0[i]? = some [.int .i64 (.sym x)] := by rw [h0.get, hx]; rfl
      have hil : i < I.len A0 := by rw [hle]; exact hi1
      clear g1 g2
      cbv
      refine .join_next (fun ts m => ∃ at_ : Int, ts = fr 208 [(0, i64 room), (1, .one (.c (.g (.rows 1 A0)))), (2, .one (.c (.g (.rows 1 B0)))), (3, .one (.c (.g (.rows 1 D0)))), (9, .one (.c (.ptr 0 (.lit 0) 2 0))), (10, .one (.c (.row 2 9 none))), (11, i64 z), (12, i64 at_)] ∧ m = [qu rm (.row 1 9 none), .sym 9 L, .sym 9 RR]) ?_ ?_
      · intro next hnx
        cbv
        refine .br (fun g3 => ?_) (fun g3 => ?_)
        · have hib : i < bs0.length := by
            have h' : rCmp .lss z ((I.len B0 : Nat) : Int) = true := by rw [hI] at g3 ⊢; exact g3
            rw [hbe] at h'
            have : z < (bs0.length : Nat) := by simpa [rCmp] using h'
            unfold isN at hz
            omega
          have h9 : ∃ x, bs0[i]? = some x := ⟨_, List.getElem?_eq_getElem hib⟩
          obtain ⟨xb, hxb⟩ := h9
          have hrb : B0[i]? = some [.int .i64 (.sym xb)] := by rw [hB.get, hxb]; rfl
          have hibl : i < I.len B0 := by rw [hbe]; exact hib
          clear g3
          cbv
          refine .idx i hz hibl (.nth _ hrb ?_)
          cbv
          refine .go [] [] [] (within hp _ _) rfl rfl rfl rfl rfl rfl ?_
          rintro r m1 ⟨y, hy, rfl, rfl⟩
          clear hy
          cbv
          refine .idx i hz hibl (.nth _ hrb ?_)
          cbv
          refine .br (fun g4 => ?_) (fun g4 => ?_)
          · cbv
            refine .idx i hz hibl (.nth _ hrb ?_)
            cbv
            exact hnx _ _ [0, 1, 2] [] [0, 1, 2, 3, 9, 10, 11, 12] _ _ (by decide) rfl rfl rfl ⟨_, rfl, rfl⟩
          · cbv
            exact hnx _ _ [0, 1, 2] [] [0, 1, 2, 3, 9, 10, 11, 12] _ _ (by decide) rfl rfl rfl ⟨_, rfl, rfl⟩
        · cbv
          exact hnx _ _ [0, 1, 2] [] [0, 1, 2, 3, 9, 10, 11, 12] _ _ (by decide) rfl rfl rfl ⟨_, rfl, rfl⟩
      rintro ts m ⟨at_, rfl, rfl⟩
      cbv
      apply br2
      case h1 =>
        intro g3 hq
        have h0a : 0 ≤ at_ := by simpa [hI, ints, rCmp] using g3
        have hisb : I.cmp .lss at_ (I.ofNat (I.len RR)) = decide (0 ≤ at_ ∧ at_ < ps.length) := by
          rw [hRl, hI]
          show decide (at_ < ((ps.length : Nat) : Int)) = _
          by_cases h : at_ < (ps.length : Int)
          · rw [decide_eq_true h, decide_eq_true ⟨h0a, h⟩]
          · rw [decide_eq_false h, decide_eq_false (fun h' => h h'.2)]
        clear g3
        cbv
        refine .idx i hz hil (.nth _ hr ?_)
        cbv
        refine .go [] [] [] (within hp _ _) rfl rfl rfl rfl rfl rfl ?_
        rintro r m1 ⟨y, hy, rfl, rfl⟩
        clear hy
        cbv
        refine .join_next (fun ts m => ∃ (q isb : Bool) (y at_ : Int), isb = decide (0 ≤ at_ ∧ at_ < ps.length) ∧ ts = fr 208 [(0, i64 room), (1, .one (.c (.g (.rows 1 A0)))), (2, .one (.c (.g (.rows 1 B0)))), (3, .one (.c (.g (.rows 1 D0)))), (9, .one (.c (.ptr 0 (.lit 0) 2 0))), (10, .one (.c (.row 2 9 none))), (11, i64 z), (12, i64 at_), (13, boo isb), (78, i64 y), (120, boo q)] ∧ m = [qu rm (.row 1 9 none), .sym 9 L, .sym 9 RR]) ?_ hq
        intro next hnx
        cbv
        refine .br (fun g4 => ?_) (fun g4 => ?_)
        · cbv
          exact hnx _ _ [0, 1, 2] [] [0, 1, 2, 3, 9, 10, 11, 12, 13, 78, 120] _ _ (by decide) rfl rfl rfl ⟨_, _, _, _, hisb, rfl, rfl⟩
        · cbv
          exact hnx _ _ [0, 1, 2] [] [0, 1, 2, 3, 9, 10, 11, 12, 13, 78, 120] _ _ (by decide) rfl rfl rfl ⟨_, _, _, _, hisb, rfl, rfl⟩
      case h2 =>
        intro g3 hq
        have h0a : ¬ 0 ≤ at_ := by simpa [hI, ints, rCmp] using g3
        have hisb : false = decide (0 ≤ at_ ∧ at_ < ps.length) := (decide_eq_false (fun h' => h0a h'.1)).symm
        clear g3
        cbv
        refine .idx i hz hil (.nth _ hr ?_)
        cbv
        refine .go [] [] [] (within hp _ _) rfl rfl rfl rfl rfl rfl ?_
        rintro r m1 ⟨y, hy, rfl, rfl⟩
        clear hy
        cbv
        refine .join_next (fun ts m => ∃ (q isb : Bool) (y at_ : Int), isb = decide (0 ≤ at_ ∧ at_ < ps.length) ∧ ts = fr 208 [(0, i64 room), (1, .one (.c (.g (.rows 1 A0)))), (2, .one (.c (.g (.rows 1 B0)))), (3, .one (.c (.g (.rows 1 D0)))), (9, .one (.c (.ptr 0 (.lit 0) 2 0))), (10, .one (.c (.row 2 9 none))), (11, i64 z), (12, i64 at_), (13, boo isb), (78, i64 y), (120, boo q)] ∧ m = [qu rm (.row 1 9 none), .sym 9 L, .sym 9 RR]) ?_ hq
        intro next hnx
        cbv
        refine .br (fun g4 => ?_) (fun g4 => ?_)
        · cbv
          exact hnx _ _ [0, 1, 2] [] [0, 1, 2, 3, 9, 10, 11, 12, 13, 78, 120] _ _ (by decide) rfl rfl rfl ⟨_, _, _, _, hisb, rfl, rfl⟩
        · cbv
          exact hnx _ _ [0, 1, 2] [] [0, 1, 2, 3, 9, 10, 11, 12, 13, 78, 120] _ _ (by decide) rfl rfl rfl ⟨_, _, _, _, hisb, rfl, rfl⟩
      case h =>
        clear at_
        rintro ts m ⟨q, isb, y, at_, hisb, rfl, rfl⟩
        cbv
        refine .join_next (fun ts m => ∃ (L RR : List (List G)) (ps : List PK), isP L ps ∧ isP RR ps ∧ (ps.length : Int) ≤ rm ∧ (∀ q ∈ ps, q.d = ds) ∧ ts = fr 208 [(0, i64 room), (1, .one (.c (.g (.rows 1 A0)))), (2, .one (.c (.g (.rows 1 B0)))), (3, .one (.c (.g (.rows 1 D0)))), (9, .one (.c (.ptr 0 (.lit 0) 2 0))), (10, .one (.c (.row 2 9 none))), (11, i64 z)] ∧ m = [qu rm (.row 1 9 none), .sym 9 L, .sym 9 RR]) ?_ ?_
        · intro next nextB
          cbv
          refine .br (fun g3 => ?_) (fun g3 => ?_)
          · cbv
            refine .go [] [] [.bor 1] (copy hp D0 hD8r) rfl rfl rfl rfl rfl rfl ?_
            rintro r m1 ⟨rfl, rfl⟩
            cbv
            refine .join_next (fun ts m => ∃ (RR : List (List G)) (ps2 : List PK) (e : Int), isP RR ps2 ∧ ((e = 5 ∧ ps2 = ps ∧ (ps.length : Int) = rm) ∨ (e = 0 ∧ ps2 = ps ++ [⟨I.bin .add .i64 1 (I.bin .rem .i64 z 9), 0, 0, z, 0, 0, 0, false, ds⟩] ∧ (ps.length : Int) < rm)) ∧ ts = fr 208 [(0, i64 room), (1, .one (.c (.g (.rows 1 A0)))), (2, .one (.c (.g (.rows 1 B0)))), (3, .one (.c (.g (.rows 1 D0)))), (9, .one (.c (.ptr 0 (.lit 0) 2 0))), (10, .one (.c (.row 2 9 none))), (11, i64 z), (14, .one (.c (.row 3 1 none))), (15, .one (.c (.ptr 4 (.lit 0) 9 0))), (16, i64 e)] ∧ m = [qu rm (.row 1 9 none), .sym 9 L, .sym 9 RR, .sym 1 D0, .lit 9 [[.g (.int .i64 (.sym (I.bin .add .i64 1 (I.bin .rem .i64 z 9)))), .g (.int .i64 (.sym 0)), .g (.int .i64 (.sym 0)), .g (.int .i64 (.sym z)), .g (.int .i64 (.sym 0)), .g (.int .i64 (.sym 0)), .g (.int .i64 (.sym 0)), .g (.bool (.sym false)), .row 3 1 none]]]) ?_ ?_
            · as_aux_lemma =>
                intro next hnx
                cbv
                refine .br (fun g4 => ?_) (fun g4 => ?_)
                · have hfull : (ps.length : Int) = rm := hge true (I.ofNat (I.len RR)) hLEN g4
                  cbv
                  exact hnx _ _ [0, 1, 2, 3, 4] [] [0, 1, 2, 3, 9, 10, 11, 14, 15, 16] _ _ (by decide) rfl rfl rfl ⟨RR, ps, _, hV, .inl ⟨rfl, rfl, hfull⟩, rfl, rfl⟩
                · have hnf : (ps.length : Int) < rm := hlt true (I.ofNat (I.len RR)) hLEN g4
                  have hV2 : isP (I.app RR [PK.row ⟨I.bin .add .i64 1 (I.bin .rem .i64 z 9), 0, 0, z, 0, 0, 0, false, ds⟩ D0]) (ps ++ [⟨I.bin .add .i64 1 (I.bin .rem .i64 z 9), 0, 0, z, 0, 0, 0, false, ds⟩]) := by rw [happ]; exact hV.app ⟨I.bin .add .i64 1 (I.bin .rem .i64 z 9), 0, 0, z, 0, 0, 0, false, ds⟩ D0 hD
                  have hR2l : I.len (I.app RR [PK.row ⟨I.bin .add .i64 1 (I.bin .rem .i64 z 9), 0, 0, z, 0, 0, 0, false, ds⟩ D0]) = ps.length + 1 := by rw [hI]; rw [hI] at hV2; exact hV2.len.trans (by rw [List.length_append]; rfl)
                  cbv
                  refine .most (show I.len (I.app RR [PK.row ⟨I.bin .add .i64 1 (I.bin .rem .i64 z 9), 0, 0, z, 0, 0, 0, false, ds⟩ D0]) * 88 ≤ 140737488355328 from by rw [hR2l]; omega) (show I.len (I.app RR [PK.row ⟨I.bin .add .i64 1 (I.bin .rem .i64 z 9), 0, 0, z, 0, 0, 0, false, ds⟩ D0]) ≤ 140737488355328 from by rw [hR2l]; omega) ?_
                  cbv
                  exact hnx _ _ [0, 1, 6, 3, 4] [] [0, 1, 2, 3, 9, 10, 11, 14, 15, 16] _ _ (by decide) rfl rfl rfl ⟨_, _, _, hV2, .inr ⟨rfl, rfl, hnf⟩, rfl, rfl⟩
            · clear hLEN hge hlt hV
              rintro ts m ⟨RR, ps2, e, hV, he, rfl, rfl⟩
              cbv
              refine .go [0, 1] [] [.keep, .bor 1] (put hp ⟨_, _, _, _, _, _, _, _⟩ D0 ds hD hD8r rm L hrm0 (by omega) (by rw [hL.len]; omega)) rfl rfl rfl rfl rfl rfl ?_
              rintro v m1 ⟨t, rfl, hm⟩
              rcases he with ⟨rfl, rfl, hfull⟩ | ⟨rfl, hps2, hnf⟩
              · as_aux_lemma =>
                  have h9 : t = 5 ∧ m1 = [qu rm (.row 1 9 none), .sym 9 L] := by
                    rcases hm with ⟨h1, _, h3⟩ | ⟨_, h, _⟩
                    · exact ⟨h1, h3⟩
                    · exact absurd (by rw [hL.len]; exact hfull) h
                  obtain ⟨ht, hm9⟩ := h9
                  clear hm
                  subst hm9
                  cbv
                  refine br_f (by rw [ht, hI]; rfl) ?_
                  cbv
                  refine .loop_next (fun n ts m => ∃ (k : Nat) (u c : Int) (X : List (List G)) (xs : List Int), n = ds.length - k ∧ isN u k ∧ isN c ds.length ∧ k ≤ ds.length ∧ isL .i64 X xs ∧ xs.length = ds.length ∧
                      ts = fr 208 [(0, i64 room), (1, .one (.c (.g (.rows 1 A0)))), (2, .one (.c (.g (.rows 1 B0)))), (3, .one (.c (.g (.rows 1 D0)))), (9, .one (.c (.ptr 0 (.lit 0) 2 0))), (10, .one (.c (.row 2 9 none))), (11, i64 z), (14, .one (.c (.row 3 1 none))), (151, i64 c), (152, i64 u)] ∧ m = [qu rm (.row 1 9 none), .sym 9 L, .sym 9 RR, .sym 1 X])
                    ds.length _ _ [0, 1, 2, 3] [] [0, 1, 2, 3, 9, 10, 11, 14, 151, 152] (by decide) rfl rfl rfl ⟨0, 0, I.ofNat (I.len D0), D0, ds, rfl, rfl, hDn, Nat.zero_le _, hD, rfl, rfl, rfl⟩ ?_
                  rintro next2 n2 hnext2 ts m ⟨k, u, c, X, xs, hn2, hu, hc, hk, hX, hxl, rfl, rfl⟩
                  cbv
                  refine .br (fun g7 => ?_) (fun g7 => ?_)
                  · have hk1 : k < ds.length := by
                      have : u < c := by simpa [hI, ints, rCmp] using g7
                      unfold isN at hu hc
                      omega
                    have hu1 : isN (I.bin .add .i64 u 1) (k + 1) := by unfold isN at hu ⊢; rw [hI]; simp only [ints, rBin]; rw [wrap_in] <;> omega
                    have h9 : ∃ x, xs[k]? = some x := ⟨_, List.getElem?_eq_getElem (by omega)⟩
                    obtain ⟨x, hx⟩ := h9
                    have hrx : X[k]? = some [.int .i64 (.sym x)] := by rw [hX.get, hx]; rfl
                    have hkl : k < I.len X := by rw [hI]; show k < X.length; rw [hX.len]; omega
                    have hX2 : isL .i64 (I.set X k [.int .i64 (.sym (I.bin .xor .i64 x 1))]) (xs.set k (I.bin .xor .i64 x 1)) := by
                      rw [hI]
                      unfold isL at hX ⊢
                      rw [hX]
                      simp [nrow, ints, List.map_set]
                    cbv
                    refine .idx k hu hkl (.nth _ hrx ?_)
                    cbv
                    refine .idx k hu hkl ?_
                    cbv
                    refine .nth _ hrx ?_
                    cbv
                    exact hnext2 _ _ (ds.length - (k + 1)) [0, 1, 2, 3] [] [0, 1, 2, 3, 9, 10, 11, 14, 151, 152] _ _ (by omega) (by decide) rfl rfl rfl ⟨k + 1, _, c, _, _, rfl, hu1, hc, hk1, hX2, by rw [List.length_set]; exact hxl, rfl, rfl⟩
                  cbv
                  exact nextB _ _ [0, 1, 2] [] [0, 1, 2, 3, 9, 10, 11] _ _ (by decide) rfl rfl rfl ⟨L, RR, _, hL, hV, hple, hds, rfl, rfl⟩
              · as_aux_lemma =>
                  have h9 : t = 0 ∧ ∃ L3, isP L3 ps2 ∧ m1 = [qu rm (.row 2 9 none), .dead, .sym 9 L3] := by
                    rcases hm with ⟨_, h, _⟩ | ⟨h1, _, L3, h2, h3⟩
                    · exact absurd ((congrArg (fun n : Nat => (n : Int)) hL.len.symm).trans h) (Int.ne_of_lt hnf)
                    · exact ⟨h1, L3, by rw [h2, hps2]; exact hL.app ⟨I.bin .add .i64 1 (I.bin .rem .i64 z 9), 0, 0, z, 0, 0, 0, false, ds⟩ D0 hD, h3⟩
                  obtain ⟨ht, L3, hL3, hm9⟩ := h9
                  clear hm
                  subst hm9
                  have hds2 : ∀ q ∈ ps2, q.d = ds := fun q hq => by
                    rw [hps2] at hq
                    rcases List.mem_append.1 hq with hq | hq
                    · exact hds q hq
                    · simp at hq; rw [hq]
                  have hple2 : (ps2.length : Int) ≤ rm := by rw [hps2, List.length_append]; exact (show ((ps.length : Int) + 1 ≤ rm) from hnf)
                  cbv
                  refine br_f (by rw [ht, hI]; rfl) ?_
                  cbv
                  refine .loop_next (fun n ts m => ∃ (k : Nat) (u c : Int) (X : List (List G)) (xs : List Int), n = ds.length - k ∧ isN u k ∧ isN c ds.length ∧ k ≤ ds.length ∧ isL .i64 X xs ∧ xs.length = ds.length ∧
                      ts = fr 208 [(0, i64 room), (1, .one (.c (.g (.rows 1 A0)))), (2, .one (.c (.g (.rows 1 B0)))), (3, .one (.c (.g (.rows 1 D0)))), (9, .one (.c (.ptr 0 (.lit 0) 2 0))), (10, .one (.c (.row 2 9 none))), (11, i64 z), (14, .one (.c (.row 3 1 none))), (151, i64 c), (152, i64 u)] ∧ m = [qu rm (.row 1 9 none), .sym 9 L3, .sym 9 RR, .sym 1 X])
                    ds.length _ _ [0, 5, 2, 3] [] [0, 1, 2, 3, 9, 10, 11, 14, 151, 152] (by decide) rfl rfl rfl ⟨0, 0, I.ofNat (I.len D0), D0, ds, rfl, rfl, hDn, Nat.zero_le _, hD, rfl, rfl, rfl⟩ ?_
                  rintro next2 n2 hnext2 ts m ⟨k, u, c, X, xs, hn2, hu, hc, hk, hX, hxl, rfl, rfl⟩
                  cbv
                  refine .br (fun g7 => ?_) (fun g7 => ?_)
                  · have hk1 : k < ds.length := by
                      have : u < c := by simpa [hI, ints, rCmp] using g7
                      unfold isN at hu hc
                      omega
                    have hu1 : isN (I.bin .add .i64 u 1) (k + 1) := by unfold isN at hu ⊢; rw [hI]; simp only [ints, rBin]; rw [wrap_in] <;> omega
                    have h9 : ∃ x, xs[k]? = some x := ⟨_, List.getElem?_eq_getElem (by omega)⟩
                    obtain ⟨x, hx⟩ := h9
                    have hrx : X[k]? = some [.int .i64 (.sym x)] := by rw [hX.get, hx]; rfl
                    have hkl : k < I.len X := by rw [hI]; show k < X.length; rw [hX.len]; omega
                    have hX2 : isL .i64 (I.set X k [.int .i64 (.sym (I.bin .xor .i64 x 1))]) (xs.set k (I.bin .xor .i64 x 1)) := by
                      rw [hI]
                      unfold isL at hX ⊢
                      rw [hX]
                      simp [nrow, ints, List.map_set]
                    cbv
                    refine .idx k hu hkl (.nth _ hrx ?_)
                    cbv
                    refine .idx k hu hkl ?_
                    cbv
                    refine .nth _ hrx ?_
                    cbv
                    exact hnext2 _ _ (ds.length - (k + 1)) [0, 1, 2, 3] [] [0, 1, 2, 3, 9, 10, 11, 14, 151, 152] _ _ (by omega) (by decide) rfl rfl rfl ⟨k + 1, _, c, _, _, rfl, hu1, hc, hk1, hX2, by rw [List.length_set]; exact hxl, rfl, rfl⟩
                  cbv
                  exact nextB _ _ [0, 1, 2] [] [0, 1, 2, 3, 9, 10, 11] _ _ (by decide) rfl rfl rfl ⟨L3, RR, ps2, hL3, hV, hple2, hds2, rfl, rfl⟩
          · cbv
            refine .br (fun g4 => ?_) (fun g4 => ?_)
            · cbv
              refine .go [0, 1] [] [] (get hp (.sym at_) rm L ps hL (fun q hq => by rw [hds q hq]; exact hD8) (by rw [hL.len]; omega)) rfl rfl rfl rfl rfl rfl ?_
              rintro v m1 (⟨hno, rfl, rfl⟩ | ⟨j, q, D, hj, hq0, hDq, rfl, rfl⟩)
              · as_aux_lemma =>
                  have hb : isb = false := hisb.trans (isb_f hno)
                  cbv
                  refine .drawn [] ?_
                  cbv
                  refine br_f (show I.not (I.beq false isb) = false from by rw [hb, hI]; rfl) ?_
                  cbv
                  refine br_f rfl ?_
                  cbv
                  exact nextB _ _ [0, 1, 2] [] [0, 1, 2, 3, 9, 10, 11] _ _ (by decide) rfl rfl rfl ⟨L, RR, ps, hL, hV, hple, hds, rfl, rfl⟩
              · as_aux_lemma =>
                  have h9 : isN at_ j := hj
                  have hjl : j < ps.length := (List.getElem?_eq_some_iff.1 hq0).1
                  have hb : isb = true := hisb.trans (isb_t hj hjl)
                  have hqd : q.d = ds := hds q (List.mem_of_getElem? hq0)
                  have h9 : ∃ Dr, isL .i64 Dr q.d ∧ RR[j]? = some (q.row Dr) := hV.get hq0
                  obtain ⟨Dr, hDr, hrow⟩ := h9
                  have hidx : j < I.len RR := by rw [hRl]; exact hjl

                  obtain ⟨qk, qf, qt, qi, ql, qp, qs, qb, qd⟩ := q
                  have hqd : qd = ds := hqd
                  have hj : isN at_ j := hj
                  cbv
                  refine .drawn [] ?_
                  cbv
                  refine br_f (show I.not (I.beq true isb) = false from by rw [hb, hI]; rfl) ?_
                  cbv
                  refine br_t rfl ?_
                  cbv
                  refine .idx j hj hidx ?_
                  cbv
                  refine .nth _ hrow ?_
                  cbv
                  refine .go [] [] [.bor 1, .bor 1] (refsame hp ⟨.sym qk, .sym qf, .sym qt, .sym qi, .sym ql, .sym qp, .sym qs, .sym qb⟩ ⟨.sym qk, .sym qf, .sym qt, .sym qi, .sym ql, .sym qp, .sym qs, .sym qb⟩ D Dr qd qd hDq hDr (by rw [hqd]; omega)) rfl rfl rfl rfl rfl rfl ?_
                  rintro v m1 ⟨t, ht, rfl, rfl⟩
                  have ht : t = true := by rw [ht]; simp
                  cbv
                  refine br_f (by rw [ht, hI]; rfl) ?_
                  cbv
                  exact nextB _ _ [0, 1, 2] [] [0, 1, 2, 3, 9, 10, 11] _ _ (by decide) rfl rfl rfl ⟨L, RR, ps, hL, hV, hple, hds, rfl, rfl⟩
            · cbv
              refine .go [0, 1] [] [] (remove hp (.sym at_) rm L ps hL (fun q hq => by rw [hds q hq]; exact hD8) (by rw [hL.len]; omega)) rfl rfl rfl rfl rfl rfl ?_
              rintro v m1 (⟨hno, rfl, rfl⟩ | ⟨j, q, D, L3, hj, hq0, hDq, hL3, rfl, rfl⟩)
              · as_aux_lemma =>
                  have hb : isb = false := hisb.trans (isb_f hno)
                  cbv
                  refine .drawn [] ?_
                  cbv
                  refine br_f (show I.not (I.beq false isb) = false from by rw [hb, hI]; rfl) ?_
                  cbv
                  refine br_f rfl ?_
                  cbv
                  refine br_t (show I.not false = true from by rw [hI]; rfl) ?_
                  cbv
                  refine .go [] [] [.bor 1, .bor 1] (refsame hp ⟨_, _, _, _, _, _, _, _⟩ ⟨_, _, _, _, _, _, _, _⟩ [] [] [] [] rfl rfl (by simp)) rfl rfl rfl rfl rfl rfl ?_
                  rintro v m1 ⟨t, ht, rfl, rfl⟩
                  have ht : t = true := ht
                  cbv
                  refine br_f (by rw [ht, hI]; rfl) ?_
                  cbv
                  refine br_f hb ?_
                  cbv
                  exact nextB _ _ [0, 1, 2] [] [0, 1, 2, 3, 9, 10, 11] _ _ (by decide) rfl rfl rfl ⟨L, RR, ps, hL, hV, hple, hds, rfl, rfl⟩
              · as_aux_lemma =>
                  have h9 : isN at_ j := hj
                  have hjl : j < ps.length := (List.getElem?_eq_some_iff.1 hq0).1
                  have hb : isb = true := hisb.trans (isb_t hj hjl)
                  have hqd : q.d = ds := hds q (List.mem_of_getElem? hq0)
                  have h9 : ∃ Dr, isL .i64 Dr q.d ∧ RR[j]? = some (q.row Dr) := hV.get hq0
                  obtain ⟨Dr, hDr, hrow⟩ := h9
                  have hidx : j < I.len RR := by rw [hRl]; exact hjl
                  have hL3 : isP L3 (ps.eraseIdx j) := hL3
                  have hds3 : ∀ q ∈ ps.eraseIdx j, q.d = ds := fun q hq => hds q (List.mem_of_mem_eraseIdx hq)
                  have hle3 : (ps.eraseIdx j).length ≤ ps.length := by rw [List.length_eraseIdx]; split <;> omega
                  have hple3 : ((ps.eraseIdx j).length : Int) ≤ rm := Int.le_trans (Int.ofNat_le.2 hle3) hple
                  have hj1 : I.bin .add .i64 at_ 1 = ((j + 1 : Nat) : Int) := by
                    have hj : isN at_ j := hj
                    unfold isN at hj
                    rw [hI, hj]
                    simp only [ints, rBin]
                    rw [wrap_in] <;> omega
                  have hER : I.app (I.ext RR 0 j) (I.ext RR (j + 1) (I.add (j + 1) (I.sub (I.len RR) (j + 1)))) = RR.eraseIdx j := by
                    rw [hI]
                    show (RR.take j).drop 0 ++ (RR.take (j + 1 + (RR.length - (j + 1)))).drop (j + 1) = _
                    have hlr : j < RR.length := by rw [hV.len]; exact hjl
                    rw [show j + 1 + (RR.length - (j + 1)) = RR.length from by omega, List.take_length, List.drop_zero, List.eraseIdx_eq_take_drop_succ]
                  have hV3 : isP (RR.eraseIdx j) (ps.eraseIdx j) := hV.del j
                  have hm1 : I.len (I.ext RR 0 j) * 88 ≤ 140737488355328 ∧ I.len (I.ext RR 0 j) ≤ 140737488355328 := by
                    have : I.len (I.ext RR 0 j) ≤ 30 := by
                      rw [hI]
                      show ((RR.take j).drop 0).length ≤ 30
                      rw [List.drop_zero, List.length_take, hV.len]
                      omega
                    omega
                  have hm2 : I.len (RR.eraseIdx j) * 88 ≤ 140737488355328 ∧ I.len (RR.eraseIdx j) ≤ 140737488355328 := by
                    have : I.len (RR.eraseIdx j) ≤ 30 := by
                      rw [hI]
                      exact Nat.le_trans (Nat.le_of_eq hV3.len) (by omega)
                    omega
                  have h9 : ∃ RR3, RR3 = RR.eraseIdx j := ⟨_, rfl⟩
                  obtain ⟨RR3, hR3⟩ := h9
                  have h9 : ∃ ps3, ps3 = ps.eraseIdx j := ⟨_, rfl⟩
                  obtain ⟨ps3, hp3⟩ := h9
                  rw [← hp3] at hL3 hds3 hple3 hV3
                  rw [← hR3] at hER hV3 hm2
                  have hV4 : isP (I.app (I.ext RR 0 j) (I.ext RR (j + 1) (I.add (j + 1) (I.sub (I.len RR) (j + 1))))) ps3 := by rw [hER]; exact hV3
                  obtain ⟨qk, qf, qt, qi, ql, qp, qs, qb, qd⟩ := q
                  have hqd : qd = ds := hqd
                  have hj : isN at_ j := hj
                  cbv
                  refine .drawn [] ?_
                  cbv
                  refine br_f (show I.not (I.beq true isb) = false from by rw [hb, hI]; rfl) ?_
                  cbv
                  refine br_t rfl ?_
                  cbv
                  refine .idx j hj hidx ?_
                  cbv
                  refine .nth _ hrow ?_
                  cbv
                  refine .go [] [] [.bor 1, .bor 1] (refsame hp ⟨.sym qk, .sym qf, .sym qt, .sym qi, .sym ql, .sym qp, .sym qs, .sym qb⟩ ⟨.sym qk, .sym qf, .sym qt, .sym qi, .sym ql, .sym qp, .sym qs, .sym qb⟩ D Dr qd qd hDq hDr (by rw [hqd]; omega)) rfl rfl rfl rfl rfl rfl ?_
                  rintro v m1 ⟨t, ht, rfl, rfl⟩
                  have ht : t = true := by rw [ht]; simp
                  cbv
                  refine br_f (by rw [ht, hI]; rfl) ?_
                  cbv
                  refine br_f (show I.not true = false from by rw [hI]; rfl) ?_
                  cbv
                  refine br_t hb ?_
                  cbv
                  refine .drawn [] ?_
                  cbv
                  refine .rng 0 j rfl hj (Nat.zero_le _) (Nat.le_of_lt hidx) ?_
                  cbv
                  refine .rng (j + 1) (I.len RR) hj1 rfl (show j + 1 ≤ I.len RR from hidx) (Nat.le_refl _) ?_
                  cbv
                  refine .most hm1.1 hm1.2 ?_
                  cbv
                  refine .most (show I.len (I.app (I.ext RR 0 j) (I.ext RR (j + 1) (I.add (j + 1) (I.sub (I.len RR) (j + 1))))) * 88 ≤ 140737488355328 from by rw [hER]; exact hm2.1) (show I.len (I.app (I.ext RR 0 j) (I.ext RR (j + 1) (I.add (j + 1) (I.sub (I.len RR) (j + 1))))) ≤ 140737488355328 from by rw [hER]; exact hm2.2) ?_
                  cbv
                  exact nextB _ _ [0, 3, 7] [] [0, 1, 2, 3, 9, 10, 11] _ _ (by decide) rfl rfl rfl ⟨L3, _, ps3, hL3, hV4, hple3, hds3, rfl, rfl⟩
        · clear hLEN hRl hge hlt hpl30 hple hds hL hV
          rintro ts m ⟨L, RR, ps, hL, hV, hple, hds, rfl, rfl⟩
          have hple : (ps.length : Int) ≤ rm := hple
          have hpl30 : ps.length ≤ 30 := by omega
          as_aux_lemma =>
            have hLEN : isN (I.ofNat (I.len RR)) ps.length := by rw [show I.len RR = ps.length from by rw [hI]; exact hV.len, hI]; rfl
            cbv
            refine .go [0, 1] [] [] (len_ hp rm L) rfl rfl rfl rfl rfl rfl ?_
            rintro r m1 ⟨t1, ht1, rfl, rfl⟩
            have ht1 : isN t1 L.length := ht1
            cbv
            refine br_f (neqf hI ht1 hLEN (hL.len)) ?_
            cbv
            refine .go [0, 1] [] [] (room_ hp rm L hrm0 (by omega) (by rw [hL.len]; omega)) rfl rfl rfl rfl rfl rfl ?_
            rintro r m1 ⟨t2, ht2, rfl, rfl⟩
            cbv
            refine br_f (roomf hI ht2 hmx hLEN (hL.len) hrm0 (by omega) (by omega)) ?_
            cbv
            refine .go [0, 1] [] [] (all_ hp rm L ps hL (fun q hq => by rw [hds q hq]; exact hD8) (by rw [hL.len]; omega)) rfl rfl rfl rfl rfl rfl ?_
            rintro r m1 ⟨L2, hL2, rfl, rfl⟩
            cbv
            refine .go [] [] [.bor 9, .bor 9] (refall hp L2 RR ps ps hL2 hV (by omega) (fun q hq => by rw [hds q hq]; omega)) rfl rfl rfl rfl rfl rfl ?_
            rintro r m1 ⟨t3, ht3, rfl, rfl⟩
            have ht3 : t3 = true := by rw [ht3]; simp
            cbv
            refine br_f (by rw [ht3, hI]; rfl) ?_
            cbv
            exact hnext _ _ (20 - (i + 1)) [0, 1, 2] [] [0, 1, 2, 3, 9, 10, 11] _ _ (by omega) (by decide) rfl rfl rfl ⟨i + 1, _, L, RR, ps, rfl, hz1, hi2, hL, hV, hple, hds, rfl, rfl⟩
    · cbv
      refine .go [] [] [] (wakes hp) rfl rfl rfl rfl rfl rfl ?_
      rintro v m1 ⟨rfl, rfl⟩
      cbv
      exact hP _ _ [] [] _ _ .nil rfl rfl rfl rfl rfl ⟨_, rfl, rfl⟩
  · cbv
    refine .go [] [] [] (wakes hp) rfl rfl rfl rfl rfl rfl ?_
    rintro v m1 ⟨rfl, rfl⟩
    cbv
    exact hP _ _ [] [] _ _ .nil rfl rfl rfl rfl rfl ⟨_, rfl, rfl⟩
end
end Go.Proofs.Ytioihcojooibmaa.E
