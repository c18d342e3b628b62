/- Contract: programs of a setup of 2 nodes. -/
import Derived.Test.YtdfbpdbfiffpbaaPW
namespace Go.Proofs.Ytdfbpdbfiffpbaa.E
open Go
set_option linter.unusedVariables false
set_option maxRecDepth 100000

section
variable {P : Program} (hp : P = Try.prog)
include hp
set_option maxHeartbeats 16000000 in
theorem programs2 (s1 s2 s3 s4 s5 s6 s7 : Int) (l0 W0 K0 A0 V0 : List (List G)) (xs ws ks ax vs : List Int) (h0 : isL .i64 l0 xs) (hW : isL .i64 W0 ws) (hK : isL .i64 K0 ks) (hA : isL .i64 A0 ax) (hV : isL .i64 V0 vs) (zl : Z) (hzl : zl.val ≤ 100) (hn : (CFof s1 s2 s3 s4 s5 s6 s7 xs).a = 2) :
    LValid P 20 [.agg [.g (.int .i64 (.sym s1)), .g (.int .i64 (.sym s2)), .g (.int .i64 (.sym s3)), .g (.int .i64 (.sym s4)), .g (.int .i64 (.sym s5)), .g (.int .i64 (.sym s6)), .g (.int .i64 (.sym s7)), .g (.rows 1 l0), .g (.rows 1 W0), .g (.rows 1 K0), .g (.rows 1 A0), .g (.rows 1 V0)], .c (.g (.int .i64 zl))] [] (fun v m1 => ∃ (L0 L1 : List (List G)) (o0 o1 : List OP), isP L0 o0 (okOp (CFof s1 s2 s3 s4 s5 s6 s7 xs)) ∧ isP L1 o1 (okOp (CFof s1 s2 s3 s4 s5 s6 s7 xs)) ∧ v = .one (.c (.row 0 1 (some (.lit 2)))) ∧ m1 = [.lit 1 [[.row 1 3 none], [.row 2 3 none]], .sym 3 L0, .sym 3 L1]) := by
  refine LValid.sy ?_
  show LValid P 20 [.agg [.g (.int .i64 (.sym s1)), .g (.int .i64 (.sym s2)), .g (.int .i64 (.sym s3)), .g (.int .i64 (.sym s4)), .g (.int .i64 (.sym s5)), .g (.int .i64 (.sym s6)), .g (.int .i64 (.sym s7)), .g (.rows 1 l0), .g (.rows 1 W0), .g (.rows 1 K0), .g (.rows 1 A0), .g (.rows 1 V0)], .c (.g (.int .i64 (.sym zl.val)))] [] _
  generalize zl.val = zm at hzl ⊢
  obtain ⟨I, hI⟩ := ref
  have hcE := configE hp s1 s2 s3 s4 s5 s6 s7 l0 W0 K0 A0 V0 xs h0
  have hq1 := CFof_in s1 s2 s3 s4 s5 s6 s7 xs
  generalize CFof s1 s2 s3 s4 s5 s6 s7 xs = q at hcE hn hq1 ⊢
  have hok0 := okOp_is q
  generalize okOp q = ok at hok0 ⊢
  obtain ⟨qa, qb, qc, qd, qe, qf, qg, ini⟩ := q
  have hn : qa = 2 := hn
  have hq1 : (1 ≤ qb ∧ qb ≤ 4) ∧ (1 ≤ qc ∧ qc ≤ 2) := hq1
  have hok : ∀ k a v : Int, (1 ≤ k ∧ k ≤ 4) → (0 ≤ a ∧ a < qb * qc) → (v = 0 ∨ k = 2 ∨ k = 3) → ok ⟨k, a, v⟩ = true := hok0
  clear hok0
  subst hn
  have hcE := hcE.known (R' := fun v m1 => ∃ L : List (List G), v = .one (.agg (cfg (.lit 2) (.sym qb) (.sym qc) (.sym qd) (.sym qe) (.sym qf) (.sym qg) (.g (.rows 1 L)))) ∧ m1 = []) (fun v m1 ⟨_, L, _, h3, h4⟩ => ⟨_, by rw [h3]; rfl, L, rfl, h4⟩)
  have hbc : I.bin .mul .i64 qb qc = qb * qc := by
    rw [hI]
    exact inB_prod 0 qb qc hq1.1 hq1.2
  have hbc8 : 0 < qb * qc ∧ qb * qc ≤ 8 := by
    obtain ⟨⟨b1, b2⟩, c1, c2⟩ := hq1
    have e : qc = 1 ∨ qc = 2 := by omega
    rcases e with rfl | rfl <;> constructor <;> omega
  have hw7 := fun t : Int => (within hp (.sym t) (.lit 7)).mono (R' := fun v m1 => ∃ (y : Int) (iy : Nat) (kd : Int), isN y iy ∧ iy < 7 ∧ (1 ≤ kd ∧ kd ≤ 4) ∧ seven[iy]? = some [.int .i64 (.lit kd)] ∧ v = i64 y ∧ m1 = []) (fun v m1 ⟨y, hy, h2, h3⟩ => let ⟨iy, kd, e1, e2, e3, e4⟩ := seven_in t; ⟨y, iy, kd, by rw [show y = win t 7 from hy]; exact e1, e2, e3, e4, h2, h3⟩)
  have hwb := fun t : Int => (within hp (.sym t) (.sym (I.bin .mul .i64 qb qc))).mono (R' := fun v m1 => ∃ ad : Int, (0 ≤ ad ∧ ad < qb * qc) ∧ v = i64 ad ∧ m1 = []) (fun v m1 ⟨y, hy, h2, h3⟩ => ⟨y, by rw [show y = win t (I.bin .mul .i64 qb qc) from hy, hbc]; exact win_in t (qb * qc) hbc8.1 (by omega), h2, h3⟩)
  have hwn := fun t : Int => (within hp (.sym t) (.sym 2)).known (R' := fun v m1 => (v = .one (.c (.g (.int .i64 (.lit 0)))) ∨ v = .one (.c (.g (.int .i64 (.lit 1))))) ∧ m1 = []) (fun v m1 ⟨y, hy, h2, h3⟩ => by
    have h4 := win_in t 2 (by omega) (by omega)
    rw [← show y = win t 2 from hy] at h4
    have h5 : y = 0 ∨ y = 1 := by omega
    rw [h2]
    rcases h5 with rfl | rfl
    · exact ⟨.one (.c (.g (.int .i64 (.lit 0)))), rfl, .inl rfl, h3⟩
    · exact ⟨.one (.c (.g (.int .i64 (.lit 1)))), rfl, (.inr (rfl)), h3⟩)
  have hatK := fun (z : Int) i (h : isN z i) => pat_ hp K0 ks hK (.sym z) i h
  have hatA := fun (z : Int) i (h : isN z i) => pat_ hp A0 ax hA (.sym z) i h
  have hatV := fun (z : Int) i (h : isN z i) => pat_ hp V0 vs hV (.sym z) i h
  have hle : I.len W0 = ws.length := by rw [hI]; exact hW.len
  have hbc0 := hbc
  clear hbc hbc8 hq1
  refine fn_sim hI (mo hp) (ccj hp c20) fun Post hP => ?_
  cbv
  refine .go [] [] [.bor 1] hcE rfl rfl rfl rfl rfl rfl ?_
  rintro v m1 ⟨L, rfl, rfl⟩
  clear hcE
  cbv
  refine .ownc 2 1 0 0 3 _ _ rfl rfl rfl ?_
  refine .ownc 2 1 1 0 3 _ _ rfl rfl rfl ?_
  refine .loop_next (fun n ts m => ∃ (i : Nat) (z : Int) (L0 L1 : List (List G)) (o0 o1 : List OP), n = ws.length - i ∧ isN z i ∧ i ≤ ws.length ∧ isP L0 o0 ok ∧ isP L1 o1 ok ∧ ts = fr 84 [(1, i64 zm), (2, .one (.c (.ptr 0 (.lit 0) 12 0))), (5, .one (.c (.ptr 1 (.lit 0) 8 0))), (6, .one (.c (.row 2 1 (some (.lit 2))))), (7, i64 z)] ∧ m = [.lit 12 [[.g (.int .i64 (.sym s1)), .g (.int .i64 (.sym s2)), .g (.int .i64 (.sym s3)), .g (.int .i64 (.sym s4)), .g (.int .i64 (.sym s5)), .g (.int .i64 (.sym s6)), .g (.int .i64 (.sym s7)), .g (.rows 1 l0), .g (.rows 1 W0), .g (.rows 1 K0), .g (.rows 1 A0), .g (.rows 1 V0)]], .lit 8 [cfg (.sym 2) (.sym qb) (.sym qc) (.sym qd) (.sym qe) (.sym qf) (.sym qg) (.g (.rows 1 L))], .lit 1 [[.row 3 3 none], [.row 4 3 none]], .sym 3 L0, .sym 3 L1])
    ws.length _ _ [0, 1, 2, 3, 4] [] [1, 2, 5, 6, 7] (by decide) rfl rfl rfl ⟨0, 0, [], [], [], [], rfl, rfl, Nat.zero_le _, isP_nil ok, isP_nil ok, rfl, rfl⟩ ?_
  rintro next n hnext ts m ⟨i, z, L0, L1, o0, o1, hn, hz, hi, h0, h1, rfl, rfl⟩
  cbv
  refine .br (fun g1 => ?_) (fun g1 => ?_)
  rotate_left
  · cbv
    exact hP _ _ [2, 3, 4] [] _ _ (by decide) rfl rfl rfl rfl rfl ⟨L0, L1, o0, o1, h0, h1, rfl, rfl⟩
  cbv
  refine .br (fun g2 => ?_) (fun g2 => ?_)
  rotate_left
  · cbv
    exact hP _ _ [2, 3, 4] [] _ _ (by decide) rfl rfl rfl rfl rfl ⟨L0, L1, o0, o1, h0, h1, rfl, rfl⟩
  have hi1 : i < ws.length := by
    have g1 : I.cmp .lss z (I.ofNat (I.len W0)) = true := g1
    rw [hle, hI] at g1
    have := of_decide_eq_true (show decide (z < ((ws.length : Nat) : Int)) = true from g1)
    unfold isN at hz
    omega
  have hi100 : i < 100 := by
    have g2 : I.cmp .lss z zm = true := g2
    rw [hI] at g2
    have := of_decide_eq_true (show decide (z < zm) = true from g2)
    unfold isN at hz
    omega
  have hz1 : isN (I.bin .add .i64 z 1) (i + 1) := by unfold isN at hz ⊢; rw [hI]; simp only [ints, rBin]; rw [wrap_in] <;> omega
  have h9 : ∃ x, ws[i]? = some x := ⟨_, List.getElem?_eq_getElem hi1⟩
  obtain ⟨x, hx⟩ := h9
  have hr : W0[i]? = some [.int .i64 (.sym x)] := by rw [hW.get, hx]; rfl
  have hil : i < I.len W0 := by rw [hle]; exact hi1
  have haK := hatK z i hz
  have haA := hatA z i hz
  have haV := hatV z i hz
  clear g1 g2 hx hatK hatA hatV hle
  cbv
  refine .join_next (fun ts m => ∃ kd ad : Int, (1 ≤ kd ∧ kd ≤ 4) ∧ (0 ≤ ad ∧ ad < qb * qc) ∧ ts = fr 84 [(1, i64 zm), (2, .one (.c (.ptr 0 (.lit 0) 12 0))), (5, .one (.c (.ptr 1 (.lit 0) 8 0))), (6, .one (.c (.row 2 1 (some (.lit 2))))), (7, i64 z), (8, .one (.c (.ptr 5 (.lit 0) 3 0)))] ∧ m = [.lit 12 [[.g (.int .i64 (.sym s1)), .g (.int .i64 (.sym s2)), .g (.int .i64 (.sym s3)), .g (.int .i64 (.sym s4)), .g (.int .i64 (.sym s5)), .g (.int .i64 (.sym s6)), .g (.int .i64 (.sym s7)), .g (.rows 1 l0), .g (.rows 1 W0), .g (.rows 1 K0), .g (.rows 1 A0), .g (.rows 1 V0)]], .lit 8 [cfg (.sym 2) (.sym qb) (.sym qc) (.sym qd) (.sym qe) (.sym qf) (.sym qg) (.g (.rows 1 L))], .lit 1 [[.row 3 3 none], [.row 4 3 none]], .sym 3 L0, .sym 3 L1, .lit 3 [[.g (.int .i64 (.sym kd)), .g (.int .i64 (.sym ad)), .g (.int .i64 (.sym 0))]]]) ?_ ?_
  · intro next2 hnx
    cbv
    refine .drawn [] ?_
    cbv
    repeat' first
      | (refine .both ?_ ?_ <;> cbv)
      | (refine .go [] [] [.bor 1] haK rfl rfl rfl rfl rfl rfl ?_; rintro r m1 ⟨tK, -, rfl, rfl⟩; cbv)
      | (refine .go [] [] [.bor 1] haA rfl rfl rfl rfl rfl rfl ?_; rintro r m1 ⟨tA, -, rfl, rfl⟩; cbv)
      | (refine .go [] [] [] (hw7 _) rfl rfl rfl rfl rfl rfl ?_; rintro r m1 ⟨y, iy, kd, hy, hy7, hkd, hrow, rfl, rfl⟩; cbv)
      | (refine .go [] [] [] (hwb _) rfl rfl rfl rfl rfl rfl ?_; rintro r m1 ⟨ad, had, rfl, rfl⟩; cbv)
      | (refine .idx iy hy hy7 ?_; cbv)
      | (refine .nth _ hrow ?_; cbv)
    all_goals first
      | exact hnx _ _ [0, 1, 2, 3, 4, 5] [] [1, 2, 5, 6, 7, 8] _ _ (by decide) rfl rfl rfl ⟨kd, ad, hkd, had, rfl, rfl⟩
      | exact hnx _ _ [0, 1, 2, 3, 4, 6] [] [1, 2, 5, 6, 7, 8] _ _ (by decide) rfl rfl rfl ⟨kd, ad, hkd, had, rfl, rfl⟩
  rintro ts m ⟨kd, ad, hkd, had, rfl, rfl⟩
  clear haK haA hw7 hwb
  cbv
  apply br3
  case h1 =>
    intro g hq
    have hk2 : kd = 2 := by
      have g : I.cmp .eql kd 2 = true := g
      rw [hI] at g
      exact of_decide_eq_true (show decide (kd = 2) = true from by simpa [ints, rCmp] using g)
    clear g
    cbv
    refine .join_next (fun ts m => ∃ vl : Int, (vl = 0 ∨ kd = 2 ∨ kd = 3) ∧ ts = fr 84 [(1, i64 zm), (2, .one (.c (.ptr 0 (.lit 0) 12 0))), (5, .one (.c (.ptr 1 (.lit 0) 8 0))), (6, .one (.c (.row 2 1 (some (.lit 2))))), (7, i64 z), (8, .one (.c (.ptr 5 (.lit 0) 3 0)))] ∧ m = [.lit 12 [[.g (.int .i64 (.sym s1)), .g (.int .i64 (.sym s2)), .g (.int .i64 (.sym s3)), .g (.int .i64 (.sym s4)), .g (.int .i64 (.sym s5)), .g (.int .i64 (.sym s6)), .g (.int .i64 (.sym s7)), .g (.rows 1 l0), .g (.rows 1 W0), .g (.rows 1 K0), .g (.rows 1 A0), .g (.rows 1 V0)]], .lit 8 [cfg (.sym 2) (.sym qb) (.sym qc) (.sym qd) (.sym qe) (.sym qf) (.sym qg) (.g (.rows 1 L))], .lit 1 [[.row 3 3 none], [.row 4 3 none]], .sym 3 L0, .sym 3 L1, .lit 3 [[.g (.int .i64 (.sym kd)), .g (.int .i64 (.sym ad)), .g (.int .i64 (.sym vl))]]]) ?_ hq
    intro next2 hnx
    cbv
    refine .go [] [] [.bor 1] haV rfl rfl rfl rfl rfl rfl ?_
    rintro r m1 ⟨vl, -, rfl, rfl⟩
    cbv
    exact hnx _ _ [0, 1, 2, 3, 4, 5] [] [1, 2, 5, 6, 7, 8] _ _ (by decide) rfl rfl rfl ⟨vl, .inr (.inl hk2), rfl, rfl⟩
  case h2 =>
    intro g hq
    clear g
    cbv
    refine .join_next (fun ts m => ∃ vl : Int, (vl = 0 ∨ kd = 2 ∨ kd = 3) ∧ ts = fr 84 [(1, i64 zm), (2, .one (.c (.ptr 0 (.lit 0) 12 0))), (5, .one (.c (.ptr 1 (.lit 0) 8 0))), (6, .one (.c (.row 2 1 (some (.lit 2))))), (7, i64 z), (8, .one (.c (.ptr 5 (.lit 0) 3 0)))] ∧ m = [.lit 12 [[.g (.int .i64 (.sym s1)), .g (.int .i64 (.sym s2)), .g (.int .i64 (.sym s3)), .g (.int .i64 (.sym s4)), .g (.int .i64 (.sym s5)), .g (.int .i64 (.sym s6)), .g (.int .i64 (.sym s7)), .g (.rows 1 l0), .g (.rows 1 W0), .g (.rows 1 K0), .g (.rows 1 A0), .g (.rows 1 V0)]], .lit 8 [cfg (.sym 2) (.sym qb) (.sym qc) (.sym qd) (.sym qe) (.sym qf) (.sym qg) (.g (.rows 1 L))], .lit 1 [[.row 3 3 none], [.row 4 3 none]], .sym 3 L0, .sym 3 L1, .lit 3 [[.g (.int .i64 (.sym kd)), .g (.int .i64 (.sym ad)), .g (.int .i64 (.sym vl))]]]) ?_ hq
    intro next2 hnx
    cbv
    refine .br (fun g => ?_) (fun g => ?_)
    · have hk3 : kd = 3 := by
        have g : I.cmp .eql kd 3 = true := g
        rw [hI] at g
        exact of_decide_eq_true (show decide (kd = 3) = true from by simpa [ints, rCmp] using g)
      clear g
      cbv
      refine .go [] [] [.bor 1] haV rfl rfl rfl rfl rfl rfl ?_
      rintro r m1 ⟨vl, -, rfl, rfl⟩
      cbv
      exact hnx _ _ [0, 1, 2, 3, 4, 5] [] [1, 2, 5, 6, 7, 8] _ _ (by decide) rfl rfl rfl ⟨vl, .inr (.inr hk3), rfl, rfl⟩
    · clear g
      cbv
      exact hnx _ _ [0, 1, 2, 3, 4, 5] [] [1, 2, 5, 6, 7, 8] _ _ (by decide) rfl rfl rfl ⟨0, .inl rfl, rfl, rfl⟩
  rintro ts m ⟨vl, hvl, rfl, rfl⟩
  have hrow := hok kd ad vl hkd had hvl
  clear haV hkd had hvl
  cbv
  refine .drawn [] ?_
  cbv
  refine .idx i hz hil (.nth _ hr ?_)
  cbv
  refine .go [] [] [] (hwn _) rfl rfl rfl rfl rfl rfl ?_
  clear hr hil hwn
  rintro r m1 ⟨(rfl | rfl), rfl⟩
  · cbv
    refine .br (fun g => ?_) (fun g => ?_)
    · have h9 := isP_app hI h0 g ⟨kd, ad, vl⟩ hrow
      obtain ⟨hnw, hnl⟩ := h9
      clear g
      have hnw : isP (I.app L0 [[.int .i64 (.sym kd), .int .i64 (.sym ad), .int .i64 (.sym vl)]]) (o0 ++ [⟨kd, ad, vl⟩]) ok := hnw
      have hnl : I.len (I.app L0 [[.int .i64 (.sym kd), .int .i64 (.sym ad), .int .i64 (.sym vl)]]) ≤ 24 := hnl
      cbv
      refine .drawn [2, 3] ?_
      cbv
      refine .both ?_ ?_ <;> cbv
      all_goals
        refine .most (show I.len (I.app L0 [[.int .i64 (.sym kd), .int .i64 (.sym ad), .int .i64 (.sym vl)]]) * 24 ≤ 140737488355328 from by omega) (show I.len (I.app L0 [[.int .i64 (.sym kd), .int .i64 (.sym ad), .int .i64 (.sym vl)]]) ≤ 140737488355328 from by omega) ?_
        cbv
        exact hnext _ _ (ws.length - (i + 1)) [0, 1, 2, 7, 4] [] [1, 2, 5, 6, 7] _ _ (by omega) (by decide) rfl rfl rfl ⟨i + 1, _, _, L1, _, o1, rfl, hz1, hi1, hnw, h1, rfl, rfl⟩
    · clear g
      cbv
      exact hnext _ _ (ws.length - (i + 1)) [0, 1, 2, 3, 4] [] [1, 2, 5, 6, 7] _ _ (by omega) (by decide) rfl rfl rfl ⟨i + 1, _, L0, L1, o0, o1, rfl, hz1, hi1, h0, h1, rfl, rfl⟩
  · cbv
    refine .br (fun g => ?_) (fun g => ?_)
    · have h9 := isP_app hI h1 g ⟨kd, ad, vl⟩ hrow
      obtain ⟨hnw, hnl⟩ := h9
      clear g
      have hnw : isP (I.app L1 [[.int .i64 (.sym kd), .int .i64 (.sym ad), .int .i64 (.sym vl)]]) (o1 ++ [⟨kd, ad, vl⟩]) ok := hnw
      have hnl : I.len (I.app L1 [[.int .i64 (.sym kd), .int .i64 (.sym ad), .int .i64 (.sym vl)]]) ≤ 24 := hnl
      cbv
      refine .drawn [2, 4] ?_
      cbv
      refine .both ?_ ?_ <;> cbv
      all_goals
        refine .most (show I.len (I.app L1 [[.int .i64 (.sym kd), .int .i64 (.sym ad), .int .i64 (.sym vl)]]) * 24 ≤ 140737488355328 from by omega) (show I.len (I.app L1 [[.int .i64 (.sym kd), .int .i64 (.sym ad), .int .i64 (.sym vl)]]) ≤ 140737488355328 from by omega) ?_
        cbv
        exact hnext _ _ (ws.length - (i + 1)) [0, 1, 2, 3, 7] [] [1, 2, 5, 6, 7] _ _ (by omega) (by decide) rfl rfl rfl ⟨i + 1, _, L0, _, o0, _, rfl, hz1, hi1, h0, hnw, rfl, rfl⟩
    · clear g
      cbv
      exact hnext _ _ (ws.length - (i + 1)) [0, 1, 2, 3, 4] [] [1, 2, 5, 6, 7] _ _ (by omega) (by decide) rfl rfl rfl ⟨i + 1, _, L0, L1, o0, o1, rfl, hz1, hi1, h0, h1, rfl, rfl⟩
end
end Go.Proofs.Ytdfbpdbfiffpbaa.E
