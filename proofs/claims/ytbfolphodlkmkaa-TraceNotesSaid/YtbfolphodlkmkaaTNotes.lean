/- TraceNotes: what is noted is told, in order; whether any events may be a trace. -/
import Derived.Test.YtbfolphodlkmkaaTR
namespace Go.Proofs.Ytbfolphodlkmkaa.E
open Go
set_option linter.unusedVariables false
set_option maxRecDepth 100000

/-- An event that is noted. -/
structure AC where
  n : Int
  i : Int
  v : Int
  d : Bool
def AC.row (a : AC) : List G := [.int .i64 (.sym a.n), .int .i64 (.sym a.i), .int .i64 (.sym a.v), .bool (.sym a.d)]
def isAC (L : List (List G)) (l : List AC) : Prop := L = l.map AC.row
theorem isAC.len {L : List (List G)} {l : List AC} (h : isAC L l) : L.length = l.length := by rw [h]; simp
theorem isAC.get {L : List (List G)} {l : List AC} (h : isAC L l) {i : Nat} {e : AC} (he : l[i]? = some e) : L[i]? = some e.row := by rw [h]; simp [he]
/-- What the maps have. -/
def isFA (M : List (List G)) (f : Int → Int) : Prop := ∀ y, (mfind M y = none ∧ f y = 0) ∨ mfind M y = some [.int .i64 (.sym y), .int .i64 (.sym (f y))]
def isFB (M : List (List G)) (f : Int → Bool) : Prop := ∀ y, (mfind M y = none ∧ f y = false) ∨ mfind M y = some [.int .i64 (.sym y), .bool (.sym (f y))]
theorem isFA_nil : isFA [] (fun _ => 0) := fun y => .inl ⟨rfl, rfl⟩
theorem isFB_nil : isFB [] (fun _ => false) := fun y => .inl ⟨rfl, rfl⟩
theorem isFA_put {M : List (List G)} {f : Int → Int} (h : isFA M f) (z v : Int) : isFA (mset M z [.int .i64 (.sym z), .int .i64 (.sym v)]) (fun y => if y = z then v else f y) := fun y => by
  rw [mfind_mset z _ rfl y M]
  dsimp only
  by_cases e : y = z
  · rw [if_pos e, if_pos e, e]
    exact .inr rfl
  · rw [if_neg e, if_neg e]
    exact h y
theorem isFB_put {M : List (List G)} {f : Int → Bool} (h : isFB M f) (z : Int) (v : Bool) : isFB (mset M z [.int .i64 (.sym z), .bool (.sym v)]) (fun y => if y = z then v else f y) := fun y => by
  rw [mfind_mset z _ rfl y M]
  dsimp only
  by_cases e : y = z
  · rw [if_pos e, if_pos e, e]
    exact .inr rfl
  · rw [if_neg e, if_neg e]
    exact h y
theorem rightL_app (N : Int) (x : EV) : ∀ (es pre : List EV), rightL N pre (es ++ [x]) = (rightL N pre es && okAt N (pre ++ es) x)
  | [], pre => by simp [rightL]
  | e :: es, pre => by
    show (okAt N pre e && rightL N (pre ++ [e]) (es ++ [x])) = ((okAt N pre e && rightL N (pre ++ [e]) es) && okAt N (pre ++ e :: es) x)
    rw [rightL_app N x es (pre ++ [e]), List.append_assoc, Bool.and_assoc]
    rfl
/-- Where each event is the next one of its node, the maps are the trace's. -/
def fits_ (es : List EV) (fa : Int → Int) (fb : Int → Bool) : Prop := (∀ y, fa y = ((cnt es y / 2 : Nat) : Int) ∧ fb y = (cnt es y % 2 == 1)) ∧ rightL 4 [] es = true
theorem fits_nil : fits_ [] (fun _ => 0) (fun _ => false) := ⟨fun y => ⟨by rw [cnt_nil]; rfl, by rw [cnt_nil]; rfl⟩, rfl⟩
theorem fits_step {es : List EV} {fa fa2 : Int → Int} {fb : Int → Bool} (h : fits_ es fa fb) (hl : es.length ≤ 1000) (en vv : Int) (dn : Bool) (he : 0 ≤ en ∧ en < 4) (hd : dn = fb en) (hv : dn = true ∨ vv = 0)
    (h1 : dn = true → fa2 = fun y => if y = en then fa en + 1 else fa y) (h0 : dn = false → fa2 = fa) : fits_ (es ++ [⟨en, fa en, dn, vv⟩]) fa2 (fun y => if y = en then !dn else fb y) := by
  obtain ⟨h2, h3⟩ := h
  have hc : cnt es en ≤ 1000 := Nat.le_trans (cnt_le es en) hl
  refine ⟨fun y => ?_, ?_⟩
  · rw [cnt_app]
    show fa2 y = (((if en = y then cnt es y + 1 else cnt es y) / 2 : Nat) : Int) ∧ (if y = en then !dn else fb y) = ((if en = y then cnt es y + 1 else cnt es y) % 2 == 1)
    by_cases e : y = en
    · subst e
      rw [if_pos rfl, if_pos rfl]
      have hf := (h2 y).2
      rw [← hd] at hf
      cases dn with
      | true =>
        have hf := eq_of_beq hf.symm
        rw [h1 rfl]
        refine ⟨?_, ?_⟩
        · show (if y = y then fa y + 1 else fa y) = _
          rw [if_pos rfl, (h2 y).1]
          omega
        · have : (cnt es y + 1) % 2 = 0 := by omega
          rw [this]; rfl
      | false =>
        have hf : cnt es y % 2 ≠ 1 := fun e => by rw [e] at hf; cases hf
        rw [h0 rfl]
        refine ⟨?_, ?_⟩
        · rw [(h2 y).1]
          omega
        · have : (cnt es y + 1) % 2 = 1 := by omega
          rw [this]; rfl
    · rw [if_neg (fun q => e q.symm), if_neg e]
      refine ⟨?_, (h2 y).2⟩
      rw [← (h2 y).1]
      cases dn with
      | true => rw [h1 rfl]; show (if y = en then _ else _) = _; rw [if_neg e]
      | false => rw [h0 rfl]
  · rw [rightL_app, h3]
    show (true && okAt 4 es ⟨en, fa en, dn, vv⟩) = true
    unfold okAt
    have e1 : (fa en == ((cnt es en / 2 : Nat) : Int)) = true := by rw [(h2 en).1]; simp
    have e2 : (dn == (cnt es en % 2 == 1)) = true := by rw [hd, (h2 en).2]; simp
    have e3 : (dn || vv == 0) = true := by rcases hv with h | h <;> simp [h]
    show (true && (decide (0 ≤ en) && decide (en < 4) && (fa en == ((cnt es en / 2 : Nat) : Int)) && (dn == (cnt es en % 2 == 1)) && (dn || vv == 0))) = true
    rw [e1, e2, e3, decide_eq_true he.1, decide_eq_true he.2]
    rfl
section
variable {P : Program} {I : Ints} {p : Nat}
theorem br3 {b : Bool} {t e : Unit → Tree} {Q : Prop} (h1 : b = true → Q → Holds P I p (t ())) (h2 : b = false → Q → Holds P I p (e ())) (h : Q) : Holds P I p (.br b t e) := .br (fun g => h1 g h) (fun g => h2 g h)
end
section
variable {P : Program} (hp : P = Try.prog)
include hp
set_option maxHeartbeats 16000000 in
theorem notes (zn0 : Int) (rt : Bool) (AL : List (List G)) (l : List AC) (hAL : isAC AL l) : LValid P 5 [gi .i64 zn0, .c (.g (.rows 4 AL)), gb rt] [] (fun v _ => ∃ b : BB, b.val = true ∧ v = .one (.c (.g (.bool b)))) := by
  obtain ⟨I, hI⟩ := ref
  have hle : I.len AL = l.length := by rw [hI]; exact hAL.len
  refine fn_sim hI (mo hp) (ccj hp c5) fun Post hP => ?_
  cbv
  refine .go [] [] [] (new hp) rfl rfl rfl rfl rfl rfl ?_
  rintro v m1 ⟨rfl, rfl⟩
  cbv
  refine .go [] [] [] (within hp _ _) rfl rfl rfl rfl rfl rfl ?_
  rintro v m1 ⟨zn, hzn, rfl, rfl⟩
  have h9 : ∃ N : Nat, isN zn N ∧ N ≤ 1000 := by
    have h1 := win_in zn0 5 (by omega) (by omega)
    rw [← show zn = win zn0 5 from hzn] at h1
    exact ⟨zn.toNat, by unfold isN; omega, by omega⟩
  obtain ⟨N, hN, hN1⟩ := h9
  clear hzn
  cbv
  refine .join_next (fun ts m => ∃ (TL WL : List (List G)) (es : List EV), isE TL es ∧ isE WL es ∧ es.length ≤ 20 ∧ (rt = true → rightL 4 [] es = true) ∧
      ts = fr 145 [(0, i64 zn), (2, boo rt), (7, .one (.c (.ptr 0 (.lit 0) 1 0))), (10, .one (.c (.row 2 4 none)))] ∧ m = [tr (.row 1 4 none), .sym 4 TL, .sym 4 WL]) ?_ ?_
  · intro nextJ hnJ
    cbv
    refine .own 10 4 rfl ?_
    refine .loop_next (fun n' ts m => ∃ (i : Nat) (z : Int) (TL M1 M2 WL : List (List G)) (es : List EV) (fa : Int → Int) (fb : Int → Bool), n' = 20 - i ∧ isN z i ∧ i ≤ 20 ∧ isE TL es ∧ isE WL es ∧ es.length = i ∧ isFA M1 fa ∧ isFB M2 fb ∧ (rt = true → fits_ es fa fb) ∧ ts = fr 145 [(0, i64 zn), (1, .one (.c (.g (.rows 4 AL)))), (2, boo rt), (7, .one (.c (.ptr 0 (.lit 0) 1 0))), (8, .one (.c (.map 2))), (9, .one (.c (.map 3))), (10, .one (.c (.row 4 4 none))), (11, i64 z)] ∧ m = [tr (.row 1 4 none), .sym 4 TL, .mp none M1, .mp none M2, .sym 4 WL])
      20 _ _ [0, 1, 2, 3, 4] [] [0, 1, 2, 7, 8, 9, 10, 11] (by decide) rfl rfl rfl ⟨0, 0, [], [], [], [], [], _, _, rfl, rfl, by omega, rfl, rfl, rfl, isFA_nil, isFB_nil, fun _ => fits_nil, rfl, rfl⟩ ?_
    rintro next n hnext ts m ⟨i, z, TL, M1, M2, WL, es, fa, fb, hn, hz, hi, hT, hWL, hel, hfa, hfb, hfit, rfl, rfl⟩
    cbv
    refine .br (fun g1 => ?_) (fun g1 => ?_)
    rotate_left
    · cbv
      exact hnJ _ _ [0, 1, 4] [] [0, 2, 7, 10] _ _ (by decide) rfl rfl rfl ⟨TL, WL, es, hT, hWL, by omega, fun h => (hfit h).2, rfl, rfl⟩
    cbv
    refine .br (fun g2 => ?_) (fun g2 => ?_)
    rotate_left
    · cbv
      exact hnJ _ _ [0, 1, 4] [] [0, 2, 7, 10] _ _ (by decide) rfl rfl rfl ⟨TL, WL, es, hT, hWL, by omega, fun h => (hfit h).2, rfl, rfl⟩
    have hi1 : i < l.length := by
      have g1 : I.cmp .lss z (I.ofNat (I.len AL)) = true := g1
      rw [hle, hI] at g1
      have := of_decide_eq_true (show decide (z < ((l.length : Nat) : Int)) = true from g1)
      unfold isN at hz
      omega
    have hi2 : i < 20 := by
      have g2 : I.cmp .lss z 20 = true := g2
      rw [hI] at g2
      have := of_decide_eq_true (show decide (z < 20) = true from g2)
      unfold isN at hz
      omega
    have hz1 : isN (I.bin .add .i64 z 1) (i + 1) := by unfold isN at hz ⊢; rw [hI]; simp only [ints, rBin]; rw [wrap_in] <;> omega
    have h9 : ∃ x, l[i]? = some x := ⟨_, List.getElem?_eq_getElem hi1⟩
    obtain ⟨x, hx⟩ := h9
    have hr := hAL.get hx
    have hil : i < I.len AL := by rw [hle]; exact hi1
    obtain ⟨xn, xi, xv, xd⟩ := x
    have hw4 := fun t : Int => (within hp (.sym t) (.lit 4)).mono (R' := fun v m1 => ∃ y : Int, (0 ≤ y ∧ y < 4) ∧ v = i64 y ∧ m1 = []) (fun v m1 ⟨y, hy, h2, h3⟩ => ⟨y, by rw [show y = win t 4 from hy]; exact win_in t 4 (by omega) (by omega), h2, h3⟩)
    have hw3 := fun t : Int => (within hp (.sym t) (.lit 3)).mono (R' := fun v m1 => ∃ y : Int, v = i64 y ∧ m1 = []) (fun v m1 ⟨y, hy, h2, h3⟩ => ⟨y, h2, h3⟩)
    clear g1 g2 hx
    cbv
    refine .idx i hz hil (.nth _ hr ?_)
    cbv
    refine .join_next (fun ts m => ∃ en ei : Int, (0 ≤ en ∧ en < 4) ∧ ts = fr 145 [(0, i64 zn), (1, .one (.c (.g (.rows 4 AL)))), (2, boo rt), (7, .one (.c (.ptr 0 (.lit 0) 1 0))), (8, .one (.c (.map 2))), (9, .one (.c (.map 3))), (10, .one (.c (.row 4 4 none))), (11, i64 z), (12, .one (.c (.ptr 5 (.lit 0) 4 0))), (13, .one (.c (.ptr 6 (.lit 0) 4 0)))] ∧ m = [tr (.row 1 4 none), .sym 4 TL, .mp none M1, .mp none M2, .sym 4 WL, .lit 4 [[.g (.int .i64 (.sym xn)), .g (.int .i64 (.sym xi)), .g (.int .i64 (.sym xv)), .g (.bool (.sym xd))]], .lit 4 [[.g (.int .i64 (.sym en)), .g (.int .i64 (.sym ei)), .g (.bool (.sym xd)), .g (.int .i64 (.sym 0))]]]) ?_ ?_
    · intro next2 hnx
      cbv
      refine .drawn [] ?_
      cbv
      repeat' first
        | (refine .both ?_ ?_ <;> cbv)
        | (refine .go [] [] [] (hw4 _) rfl rfl rfl rfl rfl rfl ?_; rintro v m1 ⟨en, hen, rfl, rfl⟩; cbv)
        | (refine .go [] [] [] (hw3 _) rfl rfl rfl rfl rfl rfl ?_; rintro v m1 ⟨ei, rfl, rfl⟩; cbv)
      all_goals exact hnx _ _ [0, 1, 2, 3, 4, 5, 6] [] [0, 1, 2, 7, 8, 9, 10, 11, 12, 13] _ _ (by decide) rfl rfl rfl ⟨en, ei, hen, rfl, rfl⟩
    rintro ts m ⟨en, ei0, hen, rfl, rfl⟩
    clear hw4 hw3 hr hil
    have hfa1 := hfa en
    have hfb1 := hfb en
    cbv
    apply br3
    case h1 =>
      intro g hq
      cbv
      refine .join_next (fun ts m => ∃ (ei : Int) (dn : Bool), (rt = true → ei = fa en ∧ dn = fb en) ∧ ts = fr 145 [(0, i64 zn), (1, .one (.c (.g (.rows 4 AL)))), (2, boo rt), (7, .one (.c (.ptr 0 (.lit 0) 1 0))), (8, .one (.c (.map 2))), (9, .one (.c (.map 3))), (10, .one (.c (.row 4 4 none))), (11, i64 z), (12, .one (.c (.ptr 5 (.lit 0) 4 0))), (13, .one (.c (.ptr 6 (.lit 0) 4 0)))] ∧ m = [tr (.row 1 4 none), .sym 4 TL, .mp none M1, .mp none M2, .sym 4 WL, .lit 4 [[.g (.int .i64 (.sym xn)), .g (.int .i64 (.sym xi)), .g (.int .i64 (.sym xv)), .g (.bool (.sym xd))]], .lit 4 [[.g (.int .i64 (.sym en)), .g (.int .i64 (.sym ei)), .g (.bool (.sym dn)), .g (.int .i64 (.sym 0))]]]) ?_ hq
      intro next2 hnx
      cbv
      refine .join_next (fun ts m => ∃ (ei : Int) (dn : Bool), (rt = true → ei = fa en ∧ dn = fb en) ∧ ts = fr 145 [(0, i64 zn), (1, .one (.c (.g (.rows 4 AL)))), (2, boo rt), (7, .one (.c (.ptr 0 (.lit 0) 1 0))), (8, .one (.c (.map 2))), (9, .one (.c (.map 3))), (10, .one (.c (.row 4 4 none))), (11, i64 z), (12, .one (.c (.ptr 5 (.lit 0) 4 0))), (13, .one (.c (.ptr 6 (.lit 0) 4 0)))] ∧ m = [tr (.row 1 4 none), .sym 4 TL, .mp none M1, .mp none M2, .sym 4 WL, .lit 4 [[.g (.int .i64 (.sym xn)), .g (.int .i64 (.sym xi)), .g (.int .i64 (.sym xv)), .g (.bool (.sym xd))]], .lit 4 [[.g (.int .i64 (.sym en)), .g (.int .i64 (.sym ei)), .g (.bool (.sym dn)), .g (.int .i64 (.sym 0))]]]) ?_ ?_
      · intro next3 hnx3
        cbv
        refine .drawn [6] ?_
        cbv
        rcases hfa1 with ⟨q1, q2⟩ | q1 <;> rcases hfb1 with ⟨q3, q4⟩ | q3
        all_goals
          repeat' first
            | (refine .both ?_ ?_ <;> cbv)
            | (refine .find _ q1 ?_; cbv)
            | (refine .find _ q3 ?_; cbv)
          all_goals first
            | exact hnx3 _ _ [0, 1, 2, 3, 4, 5, 6] [] [0, 1, 2, 7, 8, 9, 10, 11, 12, 13] _ _ (by decide) rfl rfl rfl ⟨_, _, fun _ => ⟨q2.symm, q4.symm⟩, rfl, rfl⟩
            | exact hnx3 _ _ [0, 1, 2, 3, 4, 5, 6] [] [0, 1, 2, 7, 8, 9, 10, 11, 12, 13] _ _ (by decide) rfl rfl rfl ⟨_, _, fun _ => ⟨q2.symm, rfl⟩, rfl, rfl⟩
            | exact hnx3 _ _ [0, 1, 2, 3, 4, 5, 6] [] [0, 1, 2, 7, 8, 9, 10, 11, 12, 13] _ _ (by decide) rfl rfl rfl ⟨_, _, fun _ => ⟨rfl, q4.symm⟩, rfl, rfl⟩
            | exact hnx3 _ _ [0, 1, 2, 3, 4, 5, 6] [] [0, 1, 2, 7, 8, 9, 10, 11, 12, 13] _ _ (by decide) rfl rfl rfl ⟨_, _, fun _ => ⟨rfl, rfl⟩, rfl, rfl⟩
      rintro ts m ⟨ei, dn, hed, rfl, rfl⟩
      cbv
      exact hnx _ _ [0, 1, 2, 3, 4, 5, 6] [] [0, 1, 2, 7, 8, 9, 10, 11, 12, 13] _ _ (by decide) rfl rfl rfl ⟨_, _, hed, rfl, rfl⟩
    case h2 =>
      intro g hq
      have hnrt : rt = true → False := fun h => by rw [h] at g; cases g
      clear g
      cbv
      refine .join_next (fun ts m => ∃ (ei : Int) (dn : Bool), (rt = true → ei = fa en ∧ dn = fb en) ∧ ts = fr 145 [(0, i64 zn), (1, .one (.c (.g (.rows 4 AL)))), (2, boo rt), (7, .one (.c (.ptr 0 (.lit 0) 1 0))), (8, .one (.c (.map 2))), (9, .one (.c (.map 3))), (10, .one (.c (.row 4 4 none))), (11, i64 z), (12, .one (.c (.ptr 5 (.lit 0) 4 0))), (13, .one (.c (.ptr 6 (.lit 0) 4 0)))] ∧ m = [tr (.row 1 4 none), .sym 4 TL, .mp none M1, .mp none M2, .sym 4 WL, .lit 4 [[.g (.int .i64 (.sym xn)), .g (.int .i64 (.sym xi)), .g (.int .i64 (.sym xv)), .g (.bool (.sym xd))]], .lit 4 [[.g (.int .i64 (.sym en)), .g (.int .i64 (.sym ei)), .g (.bool (.sym dn)), .g (.int .i64 (.sym 0))]]]) ?_ hq
      intro next2 hnx
      cbv
      refine .br (fun g => ?_) (fun g => ?_)
      · clear g
        cbv
        refine .join_next (fun ts m => ∃ (ei : Int) (dn : Bool), (rt = true → ei = fa en ∧ dn = fb en) ∧ ts = fr 145 [(0, i64 zn), (1, .one (.c (.g (.rows 4 AL)))), (2, boo rt), (7, .one (.c (.ptr 0 (.lit 0) 1 0))), (8, .one (.c (.map 2))), (9, .one (.c (.map 3))), (10, .one (.c (.row 4 4 none))), (11, i64 z), (12, .one (.c (.ptr 5 (.lit 0) 4 0))), (13, .one (.c (.ptr 6 (.lit 0) 4 0)))] ∧ m = [tr (.row 1 4 none), .sym 4 TL, .mp none M1, .mp none M2, .sym 4 WL, .lit 4 [[.g (.int .i64 (.sym xn)), .g (.int .i64 (.sym xi)), .g (.int .i64 (.sym xv)), .g (.bool (.sym xd))]], .lit 4 [[.g (.int .i64 (.sym en)), .g (.int .i64 (.sym ei)), .g (.bool (.sym dn)), .g (.int .i64 (.sym 0))]]]) ?_ ?_
        · intro next3 hnx3
          cbv
          refine .drawn [6] ?_
          cbv
          rcases hfa1 with ⟨q1, q2⟩ | q1 <;> rcases hfb1 with ⟨q3, q4⟩ | q3
          all_goals
            repeat' first
              | (refine .both ?_ ?_ <;> cbv)
              | (refine .find _ q1 ?_; cbv)
              | (refine .find _ q3 ?_; cbv)
            all_goals exact hnx3 _ _ [0, 1, 2, 3, 4, 5, 6] [] [0, 1, 2, 7, 8, 9, 10, 11, 12, 13] _ _ (by decide) rfl rfl rfl ⟨_, _, fun h => (hnrt h).elim, rfl, rfl⟩
        rintro ts m ⟨ei, dn, hed, rfl, rfl⟩
        cbv
        exact hnx _ _ [0, 1, 2, 3, 4, 5, 6] [] [0, 1, 2, 7, 8, 9, 10, 11, 12, 13] _ _ (by decide) rfl rfl rfl ⟨_, _, hed, rfl, rfl⟩
      · clear g
        cbv
        exact hnx _ _ [0, 1, 2, 3, 4, 5, 6] [] [0, 1, 2, 7, 8, 9, 10, 11, 12, 13] _ _ (by decide) rfl rfl rfl ⟨_, _, fun h => (hnrt h).elim, rfl, rfl⟩
    rintro ts m ⟨ei, dn, hed, rfl, rfl⟩
    have hTl : TL.length ≤ 1000000 := by rw [hT.len]; omega
    have hend := end_ hp (.sym en) (.sym ei) (.sym xv) TL hTl
    have hbeg := begin_ hp (.sym en) (.sym ei) TL hTl
    have hend := hend.mono (R' := fun v m1 => ∃ L', isE L' (es ++ [⟨en, ei, true, xv⟩]) ∧ v = .tup [] ∧ m1 = [tr (.row 2 4 none), .dead, .sym 4 L']) (fun v m1 ⟨L', h1, h2, h3⟩ => ⟨L', by rw [h1]; exact hT.app _, h2, h3⟩)
    have hbeg := hbeg.mono (R' := fun v m1 => ∃ L', isE L' (es ++ [⟨en, ei, false, 0⟩]) ∧ v = .tup [] ∧ m1 = [tr (.row 2 4 none), .dead, .sym 4 L']) (fun v m1 ⟨L', h1, h2, h3⟩ => ⟨L', by rw [h1]; exact hT.app _, h2, h3⟩)
    have hput : ∀ v, isFA (I.mset M1 en [.int .i64 (.sym en), .int .i64 (.sym v)]) (fun y => if y = en then v else fa y) := fun v => by rw [hI]; exact isFA_put hfa en v
    clear hTl hfb1
    cbv
    refine .join_next (fun ts m => ∃ (TL2 M12 : List (List G)) (fa2 : Int → Int) (vv : Int), (dn = true ∨ vv = 0) ∧ (dn = true → fa2 = fun y => if y = en then I.bin .add .i64 (fa en) 1 else fa y) ∧ (dn = false → fa2 = fa) ∧ isE TL2 (es ++ [⟨en, ei, dn, vv⟩]) ∧ isFA M12 fa2 ∧ ts = fr 145 [(0, i64 zn), (1, .one (.c (.g (.rows 4 AL)))), (2, boo rt), (7, .one (.c (.ptr 0 (.lit 0) 1 0))), (8, .one (.c (.map 2))), (9, .one (.c (.map 3))), (10, .one (.c (.row 4 4 none))), (11, i64 z), (13, .one (.c (.ptr 5 (.lit 0) 4 0)))] ∧ m = [tr (.row 1 4 none), .sym 4 TL2, .mp none M12, .mp none M2, .sym 4 WL, .lit 4 [[.g (.int .i64 (.sym en)), .g (.int .i64 (.sym ei)), .g (.bool (.sym dn)), .g (.int .i64 (.sym vv))]]]) ?_ ?_
    · intro next2 hnx
      cbv
      refine .br (fun g => ?_) (fun g => ?_)
      · have g : dn = true := g
        subst g
        cbv
        refine .go [0, 1] [] [] hend rfl rfl rfl rfl rfl rfl ?_
        rintro v m1 ⟨T2, hT2, rfl, rfl⟩
        clear hend hbeg
        cbv
        rcases hfa1 with ⟨q1, q2⟩ | q1
        · have hput := hput 1
          have e01 : I.bin .add .i64 0 1 = 1 := by rw [hI]; rfl
          cbv
          refine .find _ q1 ?_
          cbv
          exact hnx _ _ [0, 7, 2, 3, 4, 6] [] [0, 1, 2, 7, 8, 9, 10, 11, 13] _ _ (by decide) rfl rfl rfl ⟨T2, _, _, xv, .inl rfl, fun _ => by rw [q2, e01], fun h => (by cases h), hT2, hput, rfl, rfl⟩
        · have hput := hput (I.bin .add .i64 (fa en) 1)
          cbv
          refine .find _ q1 ?_
          cbv
          exact hnx _ _ [0, 7, 2, 3, 4, 6] [] [0, 1, 2, 7, 8, 9, 10, 11, 13] _ _ (by decide) rfl rfl rfl ⟨T2, _, _, xv, .inl rfl, fun _ => rfl, fun h => (by cases h), hT2, hput, rfl, rfl⟩
      · have g : dn = false := g
        subst g
        cbv
        refine .go [0, 1] [] [] hbeg rfl rfl rfl rfl rfl rfl ?_
        rintro v m1 ⟨T2, hT2, rfl, rfl⟩
        clear hend hbeg
        cbv
        exact hnx _ _ [0, 7, 2, 3, 4, 6] [] [0, 1, 2, 7, 8, 9, 10, 11, 13] _ _ (by decide) rfl rfl rfl ⟨T2, M1, fa, 0, .inr rfl, fun h => (by cases h), fun _ => rfl, hT2, hfa, rfl, rfl⟩
    rintro ts m ⟨TL2, M12, fa2, vv, hvv, hf1, hf0, hT2, hfa2, rfl, rfl⟩
    have hnd : I.not dn = !dn := by rw [hI]; rfl
    have hfb2 : isFB (I.mset M2 en [.int .i64 (.sym en), .bool (.sym (I.not dn))]) (fun y => if y = en then !dn else fb y) := by rw [hnd, hI]; exact isFB_put hfb en _
    have hW2 : isE (I.app WL [[.int .i64 (.sym en), .int .i64 (.sym ei), .bool (.sym dn), .int .i64 (.sym vv)]]) (es ++ [⟨en, ei, dn, vv⟩]) := by
      rw [hI]
      show isE (WL ++ [EV.row ⟨en, ei, dn, vv⟩]) _
      exact hWL.app _
    have hWl : I.len (I.app WL [[.int .i64 (.sym en), .int .i64 (.sym ei), .bool (.sym dn), .int .i64 (.sym vv)]]) ≤ 21 := by
      have h3 := hW2.len
      have h4 : I.len (I.app WL [[.int .i64 (.sym en), .int .i64 (.sym ei), .bool (.sym dn), .int .i64 (.sym vv)]]) = (I.app WL [[.int .i64 (.sym en), .int .i64 (.sym ei), .bool (.sym dn), .int .i64 (.sym vv)]]).length := by rw [hI]; rfl
      have h5 : (es ++ [(⟨en, ei, dn, vv⟩ : EV)]).length = i + 1 := by simp [hel]
      omega
    have hel2 : (es ++ [(⟨en, ei, dn, vv⟩ : EV)]).length = i + 1 := by simp [hel]
    have hfit2 : rt = true → fits_ (es ++ [⟨en, ei, dn, vv⟩]) fa2 (fun y => if y = en then !dn else fb y) := fun h => by
      obtain ⟨e1, e2⟩ := hed h
      have hfe : I.bin .add .i64 (fa en) 1 = fa en + 1 := by
        have h1 := ((hfit h).1 en).1
        have h2 := cnt_le es en
        rw [hI]
        simp only [ints, rBin]
        rw [wrap_in] <;> omega
      rw [e1]
      exact fits_step (hfit h) (by omega) en vv dn hen e2 hvv (by rw [← hfe]; exact hf1) hf0
    clear hnd hf1 hf0 hvv hed hput hend hbeg hfa1 hfit hfa hfb hT hWL hel
    cbv
    refine .most (show I.len (I.app WL [[.int .i64 (.sym en), .int .i64 (.sym ei), .bool (.sym dn), .int .i64 (.sym vv)]]) * 32 ≤ 140737488355328 from by omega) (show I.len (I.app WL [[.int .i64 (.sym en), .int .i64 (.sym ei), .bool (.sym dn), .int .i64 (.sym vv)]]) ≤ 140737488355328 from by omega) ?_
    cbv
    exact hnext _ _ (20 - (i + 1)) [0, 1, 2, 3, 7] [] [0, 1, 2, 7, 8, 9, 10, 11] _ _ (by omega) (by decide) rfl rfl rfl ⟨i + 1, _, TL2, M12, _, _, _, fa2, _, rfl, hz1, hi2, hT2, hW2, hel2, hfa2, hfb2, hfit2, rfl, rfl⟩
  rintro ts m ⟨TL, WL, es, hT, hWL, hel, hright, rfl, rfl⟩
  have hTl : TL.length ≤ 1000000 := by rw [hT.len]; omega
  have hev := events hp TL hTl
  have hsm := (sameE hp TL WL es es hT hWL (by omega)).mono (R' := fun v m1 => v = boo true ∧ m1 = []) (fun v m1 ⟨t, h1, h2, h3⟩ => ⟨by rw [h2, h1]; simp, h3⟩)
  have hlen := (len_ hp TL).mono (R' := fun v m1 => ∃ t, isN t es.length ∧ v = i64 t ∧ m1 = [tr (.row 1 4 none), .sym 4 TL]) (fun v m1 ⟨t, h1, h2, h3⟩ => ⟨t, by rw [← hT.len]; exact h1, h2, h3⟩)
  have hr1 := (right_ hp (.sym zn) WL es hWL (by omega)).mono (R' := fun v m1 => ∃ t, t = rightL zn [] es ∧ v = boo t ∧ m1 = []) (fun v m1 h => h)
  have hr2 := (rright hp N hN1 (.sym zn) hN WL es hWL (by omega)).mono (R' := fun v m1 => ∃ t, t = rightL zn [] es ∧ v = boo t ∧ m1 = []) (fun v m1 h => h)
  have hr4 := (right_ hp (.lit 4) WL es hWL (by omega)).mono (R' := fun v m1 => ∃ t, t = rightL 4 [] es ∧ v = boo t ∧ m1 = []) (fun v m1 h => h)
  generalize rightL zn [] es = rz at hr1 hr2
  generalize rightL 4 [] es = r4 at hr4 hright
  have hWn : isN (I.ofNat (I.len WL)) es.length := by
    have : I.len WL = es.length := by rw [hI]; exact hWL.len
    rw [this, hI]; rfl
  have hnt : ∀ t, t = true → I.not t = false := fun t h => by rw [h, hI]; rfl
  have hnn : ∀ t u : Int, isN t es.length → isN u es.length → I.cmp .neq t u = false := fun t u h1 h2 => by
    unfold isN at h1 h2
    rw [h1, h2, hI]
    show (_ != _) = false
    simp
  have hnb : ∀ t u : Bool, t = rz → u = rz → I.not (I.beq t u) = false := fun t u h1 h2 => by
    rw [h1, h2, hI]
    cases rz <;> rfl
  have hEn : I.len TL ≤ 20 := by
    have : I.len TL = TL.length := by rw [hI]; rfl
    rw [this, hT.len]; exact hel
  have hEc : isN (I.ofNat (I.len TL)) TL.length := by rw [hI]; rfl
  have hTg : ∀ j, j < TL.length → ∃ en ei ed ev, TL[j]? = some [.int .i64 (.sym en), .int .i64 (.sym ei), .bool (.sym ed), .int .i64 (.sym ev)] := fun j hj => by
    rw [hT.len] at hj
    have h9 : ∃ x, es[j]? = some x := ⟨_, List.getElem?_eq_getElem hj⟩
    obtain ⟨x, hx⟩ := h9
    exact ⟨_, _, _, _, hT.get hx⟩
  have hTll : I.len TL = TL.length := by rw [hI]; rfl
  clear hT hWL hTl hN
  cbv
  refine .go [0, 1] [] [] hev rfl rfl rfl rfl rfl rfl ?_
  rintro v m1 ⟨rfl, rfl⟩
  cbv
  refine .go [] [] [.bor 4, .bor 4] hsm rfl rfl rfl rfl rfl rfl ?_
  rintro v m1 ⟨rfl, rfl⟩
  cbv
  refine br_f (hnt true rfl) ?_
  cbv
  refine .go [0, 1] [] [] hlen rfl rfl rfl rfl rfl rfl ?_
  rintro v m1 ⟨tl, htl, rfl, rfl⟩
  have hnn := hnn tl _ htl hWn
  clear hlen htl hWn
  cbv
  refine br_f hnn ?_
  cbv
  refine .go [] [] [.keep, .bor 4] hr1 rfl rfl rfl rfl rfl rfl ?_
  rintro v m1 ⟨t1, ht1, rfl, rfl⟩
  cbv
  refine .go [] [] [.keep, .bor 4] hr2 rfl rfl rfl rfl rfl rfl ?_
  rintro v m1 ⟨t2, ht2, rfl, rfl⟩
  have hnb := hnb t1 t2 ht1 ht2
  clear hr1 hr2 hnn
  cbv
  refine br_f hnb ?_
  clear hnb ht1 ht2
  cbv
  refine .go [0, 1] [] [] hev rfl rfl rfl rfl rfl rfl ?_
  rintro v m1 ⟨rfl, rfl⟩
  cbv
  refine .loop_next (fun n' ts m => ∃ (i : Nat) (z c : Int), n' = TL.length - i ∧ isN z i ∧ isN c TL.length ∧ i ≤ TL.length ∧
      ts = fr 145 [(2, boo rt), (7, .one (.c (.ptr 0 (.lit 0) 1 0))), (10, .one (.c (.row 2 4 none))), (119, .one (.c (.row 3 4 none))), (120, i64 c), (121, i64 z)] ∧ m = [tr (.row 1 4 none), .sym 4 TL, .sym 4 WL, .sym 4 TL])
    TL.length _ _ [0, 1, 2, 4] [] [2, 7, 10, 119, 120, 121] (by decide) rfl rfl rfl ⟨0, 0, _, rfl, rfl, hEc, Nat.zero_le _, rfl, rfl⟩ ?_
  clear hEc
  rintro next n hnext ts m ⟨i, z, c, hn, hz, hc, hi, rfl, rfl⟩
  cbv
  refine .br (fun g => ?_) (fun g => ?_)
  · have hi1 : i < TL.length := by
      have g : I.cmp .lss z c = true := g
      rw [hI] at g
      have := of_decide_eq_true (show decide (z < c) = true from g)
      unfold isN at hz hc
      omega
    have hz1 : isN (I.bin .add .i64 z 1) (i + 1) := by unfold isN at hz ⊢; rw [hI]; simp only [ints, rBin]; rw [wrap_in] <;> omega
    obtain ⟨en, ei, ed, ev, hrow⟩ := hTg i hi1
    have hil : i < I.len TL := by rw [hTll]; exact hi1
    clear g hTg
    cbv
    refine .idx i hz hil (.nth _ hrow ?_)
    cbv
    exact hnext _ _ (TL.length - (i + 1)) [0, 1, 2, 3] [] [2, 7, 10, 119, 120, 121] _ _ (by omega) (by decide) rfl rfl rfl ⟨i + 1, _, c, rfl, hz1, hc, hi1, rfl, rfl⟩
  · clear g hTg
    have hrt0 : I.not rt = !rt := by rw [hI]; rfl
    cbv
    refine .br (fun g => ?_) (fun g => ?_)
    · clear g
      cbv
      refine .go [0, 1] [] [] hev rfl rfl rfl rfl rfl rfl ?_
      rintro v m1 ⟨rfl, rfl⟩
      cbv
      refine .go [] [] [.bor 4, .bor 4] hsm rfl rfl rfl rfl rfl rfl ?_
      rintro v m1 ⟨rfl, rfl⟩
      cbv
      refine .br (fun _ => ?_) (fun g => (by cases g))
      cbv
      refine .go [] [] [] (wakes hp) rfl rfl rfl rfl rfl rfl ?_
      rintro v m1 ⟨rfl, rfl⟩
      cbv
      exact hP _ _ [] [] _ _ .nil rfl rfl rfl rfl rfl ⟨_, rfl, rfl⟩
    · have hrt : rt = true := by
        have g : I.not rt = false := g
        rw [hrt0] at g
        simpa using g
      have hr4t := hright hrt
      clear g hright hrt0
      cbv
      refine .go [] [] [.keep, .bor 4] hr4 rfl rfl rfl rfl rfl rfl ?_
      rintro v m1 ⟨t4, ht4, rfl, rfl⟩
      have ht4 := ht4.trans hr4t
      clear hr4
      cbv
      refine br_t ht4 ?_
      cbv
      refine .go [0, 1] [] [] hev rfl rfl rfl rfl rfl rfl ?_
      rintro v m1 ⟨rfl, rfl⟩
      cbv
      refine .go [] [] [.bor 4, .bor 4] hsm rfl rfl rfl rfl rfl rfl ?_
      rintro v m1 ⟨rfl, rfl⟩
      cbv
      refine .br (fun _ => ?_) (fun g => (by cases g))
      cbv
      refine .go [] [] [] (wakes hp) rfl rfl rfl rfl rfl rfl ?_
      rintro v m1 ⟨rfl, rfl⟩
      cbv
      exact hP _ _ [] [] _ _ .nil rfl rfl rfl rfl rfl ⟨_, rfl, rfl⟩
end
end Go.Proofs.Ytbfolphodlkmkaa.E
