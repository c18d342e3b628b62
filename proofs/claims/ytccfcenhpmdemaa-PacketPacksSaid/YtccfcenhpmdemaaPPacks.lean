/- PacketPacks. -/
import Derived.Test.YtccfcenhpmdemaaPPk
namespace Go.Proofs.Ytccfcenhpmdemaa.E
open Go
set_option linter.unusedVariables false
set_option maxRecDepth 100000

section
variable {P : Program} (hp : P = Try.prog)
include hp
set_option maxHeartbeats 32000000 in
theorem packs (xk xf xt xi xl xp xs yk yf yt yi yl yp ys how kd : Int) (xb yb : Bool) (LX LY : List (List G)) (dx dy : List Int) (hX : isL .i64 LX dx) (hY : isL .i64 LY dy) : LValid P 7 [.agg [.g (.int .i64 (.sym xk)), .g (.int .i64 (.sym xf)), .g (.int .i64 (.sym xt)), .g (.int .i64 (.sym xi)), .g (.int .i64 (.sym xl)), .g (.int .i64 (.sym xp)), .g (.int .i64 (.sym xs)), .g (.bool (.sym xb)), .g (.rows 1 LX)], .agg [.g (.int .i64 (.sym yk)), .g (.int .i64 (.sym yf)), .g (.int .i64 (.sym yt)), .g (.int .i64 (.sym yi)), .g (.int .i64 (.sym yl)), .g (.int .i64 (.sym yp)), .g (.int .i64 (.sym ys)), .g (.bool (.sym yb)), .g (.rows 1 LY)], gi .i64 how, gi .i64 kd] [] (fun v _ => ∃ b : BB, b.val = true ∧ v = .one (.c (.g (.bool b)))) := by
  obtain ⟨I, hI⟩ := ref
  have hpx := pplay hp xk xf xt xi xl xp xs how xb LX dx hX (.sym how) rfl
  have hpy := fun h => pplay hp yk yf yt yi yl yp ys h yb LY dy hY (.sym h) rfl
  refine fn_sim hI (mo hp) (ccj hp c7) fun Post hP => ?_
  cbv
  refine .join_next (fun ts m => ∃ (pk pf pt pi pl pp ps qk qf qt qi ql qp qs : Int) (pb qb : Bool) (DP DQ : List (List G)) (dp dq : List Int), isL .i64 DP dp ∧ isL .i64 DQ dq ∧ dp.length ≤ 6 ∧ dq.length ≤ 6 ∧
      ts = fr 91 [(3, i64 kd), (9, .one (.c (.ptr 0 (.lit 0) 9 0))), (10, .one (.c (.ptr 1 (.lit 0) 9 0)))] ∧
      m = [.lit 9 [[.g (.int .i64 (.sym pk)), .g (.int .i64 (.sym pf)), .g (.int .i64 (.sym pt)), .g (.int .i64 (.sym pi)), .g (.int .i64 (.sym pl)), .g (.int .i64 (.sym pp)), .g (.int .i64 (.sym ps)), .g (.bool (.sym pb)), .row 2 1 none]], .lit 9 [[.g (.int .i64 (.sym qk)), .g (.int .i64 (.sym qf)), .g (.int .i64 (.sym qt)), .g (.int .i64 (.sym qi)), .g (.int .i64 (.sym ql)), .g (.int .i64 (.sym qp)), .g (.int .i64 (.sym qs)), .g (.bool (.sym qb)), .row 3 1 none]], .sym 1 DP, .sym 1 DQ]) ?_ ?_
  · intro next hnx
    clear hP
    cbv
    refine .drawn [] ?_
    cbv
    repeat' first
      | (refine .both ?_ ?_)
      | (refine .go [] [] [.bor 1] hpx rfl rfl rfl rfl rfl rfl ?_; rintro r m1 ⟨q, D', hD', hl, rfl, rfl⟩; cases q; clear hpx; cbv)
      | (refine .go [] [] [.bor 1] (hpy _) rfl rfl rfl rfl rfl rfl ?_; rintro r m1 ⟨q2, D2, hD2, hl2, rfl, rfl⟩; cases q2; clear hpy; cbv)
    all_goals first
      | exact hnx _ _ [4, 5, 2, 3] [] [3, 9, 10] _ _ (by decide) rfl rfl rfl ⟨_, _, _, _, _, _, _, _, _, _, _, _, _, _, _, _, D', D2, _, _, hD', hD2, hl, hl2, rfl, rfl⟩
      | exact hnx _ _ [3, 5, 2, 4] [] [3, 9, 10] _ _ (by decide) rfl rfl rfl ⟨_, _, _, _, _, _, _, _, _, _, _, _, _, _, _, _, D', D2, _, _, hD', hD2, hl, hl2, rfl, rfl⟩
      | exact hnx _ _ [5, 3, 2, 4] [] [3, 9, 10] _ _ (by decide) rfl rfl rfl ⟨_, _, _, _, _, _, _, _, _, _, _, _, _, _, _, _, D', D2, _, _, hD', hD2, hl, hl2, rfl, rfl⟩
      | exact hnx _ _ [5, 4, 2, 3] [] [3, 9, 10] _ _ (by decide) rfl rfl rfl ⟨_, _, _, _, _, _, _, _, _, _, _, _, _, _, _, _, D', D2, _, _, hD', hD2, hl, hl2, rfl, rfl⟩
      | exact hnx _ _ [3, 4, 2, 5] [] [3, 9, 10] _ _ (by decide) rfl rfl rfl ⟨_, _, _, _, _, _, _, _, _, _, _, _, _, _, _, _, D', D2, _, _, hD', hD2, hl, hl2, rfl, rfl⟩
      | exact hnx _ _ [4, 3, 2, 5] [] [3, 9, 10] _ _ (by decide) rfl rfl rfl ⟨_, _, _, _, _, _, _, _, _, _, _, _, _, _, _, _, D', D2, _, _, hD', hD2, hl, hl2, rfl, rfl⟩
      | exact hnx _ _ [2, 5, 3, 4] [] [3, 9, 10] _ _ (by decide) rfl rfl rfl ⟨_, _, _, _, _, _, _, _, _, _, _, _, _, _, _, _, D', D2, _, _, hD', hD2, hl, hl2, rfl, rfl⟩
      | exact hnx _ _ [5, 2, 3, 4] [] [3, 9, 10] _ _ (by decide) rfl rfl rfl ⟨_, _, _, _, _, _, _, _, _, _, _, _, _, _, _, _, D', D2, _, _, hD', hD2, hl, hl2, rfl, rfl⟩
      | exact hnx _ _ [2, 4, 3, 5] [] [3, 9, 10] _ _ (by decide) rfl rfl rfl ⟨_, _, _, _, _, _, _, _, _, _, _, _, _, _, _, _, D', D2, _, _, hD', hD2, hl, hl2, rfl, rfl⟩
      | exact hnx _ _ [4, 2, 3, 5] [] [3, 9, 10] _ _ (by decide) rfl rfl rfl ⟨_, _, _, _, _, _, _, _, _, _, _, _, _, _, _, _, D', D2, _, _, hD', hD2, hl, hl2, rfl, rfl⟩
      | exact hnx _ _ [2, 3, 4, 5] [] [3, 9, 10] _ _ (by decide) rfl rfl rfl ⟨_, _, _, _, _, _, _, _, _, _, _, _, _, _, _, _, D', D2, _, _, hD', hD2, hl, hl2, rfl, rfl⟩
      | exact hnx _ _ [3, 2, 4, 5] [] [3, 9, 10] _ _ (by decide) rfl rfl rfl ⟨_, _, _, _, _, _, _, _, _, _, _, _, _, _, _, _, D', D2, _, _, hD', hD2, hl, hl2, rfl, rfl⟩
  rintro ts m ⟨pk, pf, pt, pi, pl, pp, ps, qk, qf, qt, qi, ql, qp, qs, pb, qb, DP, DQ, dp, dq, hDP, hDQ, hlp, hlq, rfl, rfl⟩
  clear hpx hpy
  have hbb : ∀ t : Bool, I.beq t t = true := fun t => by rw [hI]; show (t == t) = true; simp
  have hz9 : ∀ t : Int, I.cmp .eql t t = true := fun t => by rw [hI]; show (t == t) = true; simp
  have hpa := pack hp ⟨.sym pk, .sym pf, .sym pt, .sym pi, .sym pl, .sym pp, .sym ps, .sym pb⟩ DP dp hDP
  have hrp := rpack hp ⟨.sym pk, .sym pf, .sym pt, .sym pi, .sym pl, .sym pp, .sym ps, .sym pb⟩ DP dp hDP
  have hck := check hp ⟨.sym pk, .sym pf, .sym pt, .sym pi, .sym pl, .sym pp, .sym ps, .sym pb⟩ DP dp hDP
  have hs1 := psame hp ⟨.sym pk, .sym pf, .sym pt, .sym pi, .sym pl, .sym pp, .sym ps, .sym pb⟩ ⟨.sym qk, .sym qf, .sym qt, .sym qi, .sym ql, .sym qp, .sym qs, .sym qb⟩ DP DQ dp dq hDP hDQ (by omega)
  have hs2 := refsame hp ⟨.sym pk, .sym pf, .sym pt, .sym pi, .sym pl, .sym pp, .sym ps, .sym pb⟩ ⟨.sym qk, .sym qf, .sym qt, .sym qi, .sym ql, .sym qp, .sym qs, .sym qb⟩ DP DQ dp dq hDP hDQ (by omega)
  have hs3 := psame hp ⟨.sym pk, .sym pf, .sym pt, .sym pi, .sym pl, .sym pp, .sym ps, .sym pb⟩ ⟨.sym pk, .sym pf, .sym pt, .sym pi, .sym pl, .sym pp, .sym ps, .sym pb⟩ DP DP dp dp hDP hDP (by omega)
  have hlen : (sealB (packB (PZ.pk ⟨.sym pk, .sym pf, .sym pt, .sym pi, .sym pl, .sym pp, .sym ps, .sym pb⟩ dp))).length ≤ 1000 := by
    rw [sealB_len, packB_len]
    show 10 + 8 * dp.length + 2 ≤ _
    omega
  generalize checkB (PZ.pk ⟨.sym pk, .sym pf, .sym pt, .sym pi, .sym pl, .sym pp, .sym ps, .sym pb⟩ dp) = ok at hpa hrp hck
  generalize sealB (packB (PZ.pk ⟨.sym pk, .sym pf, .sym pt, .sym pi, .sym pl, .sym pp, .sym ps, .sym pb⟩ dp)) = bs at hpa hrp hlen
  have hs3 := hs3.mono (R' := fun v m1 => ∃ t, t = true ∧ v = boo t ∧ m1 = []) fun v m1 ⟨t, h1, h2⟩ => ⟨t, by rw [h1]; simp, h2⟩
  generalize (PZ.pk ⟨.sym pk, .sym pf, .sym pt, .sym pi, .sym pl, .sym pp, .sym ps, .sym pb⟩ dp == PZ.pk ⟨.sym qk, .sym qf, .sym qt, .sym qi, .sym ql, .sym qp, .sym qs, .sym qb⟩ dq) = sm at hs1 hs2
  cbv
  refine .go [] [] [.bor 1] hpa rfl rfl rfl rfl rfl rfl ?_
  rintro v m1 (⟨hok, rfl, rfl⟩ | ⟨hok, l1, hl1, rfl, rfl⟩)
  · clear hpa
    cbv
    refine .go [] [] [.bor 1] hrp rfl rfl rfl rfl rfl rfl ?_
    rintro v m1 (⟨_, rfl, rfl⟩ | ⟨h, _⟩)
    · clear hrp
      cbv
      refine br_f (by rw [hI]; rfl) ?_
      cbv
      refine .go [] [] [.bor 1, .bor 1] (same2 hp [] [] [] [] rfl rfl (by decide)) rfl rfl rfl rfl rfl rfl ?_
      rintro v m1 ⟨t, ht, rfl, rfl⟩
      have ht : t = true := by rw [ht]; rfl
      cbv
      refine br_f (show I.not t = false from by rw [ht, hI]; rfl) ?_
      cbv
      refine br_f (by rw [hI]; rfl) ?_
      cbv
      refine .go [] [] [.bor 1] hck rfl rfl rfl rfl rfl rfl ?_
      rintro v m1 ⟨e, he, rfl, rfl⟩
      clear hck
      rw [hok] at he
      have he : e = 1 := he
      cbv
      refine br_f (show I.cmp .neq e 1 = false from by rw [he, hI]; rfl) ?_
      cbv
      refine .join_next (fun ts m => ∃ y : Int, ts = fr 91 [(3, i64 y), (9, .one (.c (.ptr 0 (.lit 0) 9 0))), (10, .one (.c (.ptr 1 (.lit 0) 9 0)))] ∧ m = [.lit 9 [[.g (.int .i64 (.sym pk)), .g (.int .i64 (.sym pf)), .g (.int .i64 (.sym pt)), .g (.int .i64 (.sym pi)), .g (.int .i64 (.sym pl)), .g (.int .i64 (.sym pp)), .g (.int .i64 (.sym ps)), .g (.bool (.sym pb)), .row 2 1 none]], .lit 9 [[.g (.int .i64 (.sym qk)), .g (.int .i64 (.sym qf)), .g (.int .i64 (.sym qt)), .g (.int .i64 (.sym qi)), .g (.int .i64 (.sym ql)), .g (.int .i64 (.sym qp)), .g (.int .i64 (.sym qs)), .g (.bool (.sym qb)), .row 3 1 none]], .sym 1 DP, .sym 1 DQ]) ?_ ?_
      · intro next hnx
        cbv
        refine .br (fun g => ?_) (fun g => ?_)
        · cbv
          refine .go [] [] [] (within hp _ _) rfl rfl rfl rfl rfl rfl ?_
          rintro r m1 ⟨y, hy, rfl, rfl⟩
          cbv
          exact hnx _ _ [0, 1, 2, 3] [] [3, 9, 10] _ _ (by decide) rfl rfl rfl ⟨_, rfl, rfl⟩
        · cbv
          exact hnx _ _ [0, 1, 2, 3] [] [3, 9, 10] _ _ (by decide) rfl rfl rfl ⟨_, rfl, rfl⟩
      rintro ts m ⟨y, rfl, rfl⟩
      have ha1 := answer hp (.sym y)
      have ha2 := ranswer hp (.sym y)
      have hr1 := request hp (.sym y)
      have hr2 := rrequest hp (.sym y)
      rw [show (Z.sym y).val = y from rfl] at ha1 ha2 hr1 hr2
      generalize ansI y = an at ha1 ha2
      generalize reqB y = rq at hr1 hr2
      cbv
      refine .drawn [] ?_
      cbv
      refine .go [] [] [] ha1 rfl rfl rfl rfl rfl rfl ?_
      rintro v m1 ⟨a1, h1, rfl, rfl⟩
      cbv
      refine .go [] [] [] ha2 rfl rfl rfl rfl rfl rfl ?_
      rintro v m1 ⟨a2, h2, rfl, rfl⟩
      clear ha1 ha2
      cbv
      refine br_t (show I.cmp .eql a1 a2 = true from by rw [h1, h2]; exact hz9 an) ?_
      cbv
      refine .go [] [] [] hr1 rfl rfl rfl rfl rfl rfl ?_
      rintro v m1 ⟨r1, h3, rfl, rfl⟩
      cbv
      refine .go [] [] [] hr2 rfl rfl rfl rfl rfl rfl ?_
      rintro v m1 ⟨r2, h4, rfl, rfl⟩
      clear hr1 hr2
      cbv
      refine br_t (show I.beq r1 r2 = true from by rw [h3, h4]; exact hbb rq) ?_
      cbv
      refine .go [] [] [.bor 1, .bor 1] hs1 rfl rfl rfl rfl rfl rfl ?_
      rintro v m1 ⟨t1, h5, rfl, rfl⟩
      cbv
      refine .go [] [] [.bor 1, .bor 1] hs2 rfl rfl rfl rfl rfl rfl ?_
      rintro v m1 ⟨t2, h6, rfl, rfl⟩
      clear hs1 hs2
      cbv
      refine br_t (show I.beq t1 t2 = true from by rw [h5, h6]; exact hbb sm) ?_
      cbv
      refine .go [] [] [.bor 1, .bor 1] hs3 rfl rfl rfl rfl rfl rfl ?_
      rintro v m1 ⟨t3, h7, rfl, rfl⟩
      clear hs3
      cbv
      refine br_t h7 ?_
      cbv
      refine .go [] [] [] (wakes hp) rfl rfl rfl rfl rfl rfl ?_
      rintro v m1 ⟨rfl, rfl⟩
      cbv
      exact hP _ _ [] [] _ _ .nil rfl rfl rfl rfl rfl ⟨_, rfl, rfl⟩
    · rw [hok] at h
      cases h
  · clear hpa
    cbv
    refine .go [] [] [.bor 1] hrp rfl rfl rfl rfl rfl rfl ?_
    rintro v m1 (⟨h, _⟩ | ⟨_, l2, hl2, rfl, rfl⟩)
    · rw [hok] at h
      cases h
    · clear hrp
      cbv
      refine br_f (by rw [hI]; rfl) ?_
      cbv
      refine .go [] [] [.bor 1, .bor 1] (same2 hp l1 l2 _ _ hl1 hl2 (by omega)) rfl rfl rfl rfl rfl rfl ?_
      rintro v m1 ⟨t, ht, rfl, rfl⟩
      have ht : t = true := by rw [ht]; simp
      cbv
      refine br_f (show I.not t = false from by rw [ht, hI]; rfl) ?_
      cbv
      refine .go [] [] [.bor 1] hck rfl rfl rfl rfl rfl rfl ?_
      rintro v m1 ⟨e, he, rfl, rfl⟩
      clear hck
      rw [hok] at he
      have he : e = 0 := he
      cbv
      refine br_f (show I.cmp .neq e 0 = false from by rw [he, hI]; rfl) ?_
      cbv
      refine .join_next (fun ts m => ∃ y : Int, ts = fr 91 [(3, i64 y), (9, .one (.c (.ptr 0 (.lit 0) 9 0))), (10, .one (.c (.ptr 1 (.lit 0) 9 0)))] ∧ m = [.lit 9 [[.g (.int .i64 (.sym pk)), .g (.int .i64 (.sym pf)), .g (.int .i64 (.sym pt)), .g (.int .i64 (.sym pi)), .g (.int .i64 (.sym pl)), .g (.int .i64 (.sym pp)), .g (.int .i64 (.sym ps)), .g (.bool (.sym pb)), .row 2 1 none]], .lit 9 [[.g (.int .i64 (.sym qk)), .g (.int .i64 (.sym qf)), .g (.int .i64 (.sym qt)), .g (.int .i64 (.sym qi)), .g (.int .i64 (.sym ql)), .g (.int .i64 (.sym qp)), .g (.int .i64 (.sym qs)), .g (.bool (.sym qb)), .row 3 1 none]], .sym 1 DP, .sym 1 DQ]) ?_ ?_
      · intro next hnx
        cbv
        refine .br (fun g => ?_) (fun g => ?_)
        · cbv
          refine .go [] [] [] (within hp _ _) rfl rfl rfl rfl rfl rfl ?_
          rintro r m1 ⟨y, hy, rfl, rfl⟩
          cbv
          exact hnx _ _ [0, 1, 2, 3] [] [3, 9, 10] _ _ (by decide) rfl rfl rfl ⟨_, rfl, rfl⟩
        · cbv
          exact hnx _ _ [0, 1, 2, 3] [] [3, 9, 10] _ _ (by decide) rfl rfl rfl ⟨_, rfl, rfl⟩
      rintro ts m ⟨y, rfl, rfl⟩
      have ha1 := answer hp (.sym y)
      have ha2 := ranswer hp (.sym y)
      have hr1 := request hp (.sym y)
      have hr2 := rrequest hp (.sym y)
      rw [show (Z.sym y).val = y from rfl] at ha1 ha2 hr1 hr2
      generalize ansI y = an at ha1 ha2
      generalize reqB y = rq at hr1 hr2
      cbv
      refine .drawn [] ?_
      cbv
      refine .go [] [] [] ha1 rfl rfl rfl rfl rfl rfl ?_
      rintro v m1 ⟨a1, h1, rfl, rfl⟩
      cbv
      refine .go [] [] [] ha2 rfl rfl rfl rfl rfl rfl ?_
      rintro v m1 ⟨a2, h2, rfl, rfl⟩
      clear ha1 ha2
      cbv
      refine br_t (show I.cmp .eql a1 a2 = true from by rw [h1, h2]; exact hz9 an) ?_
      cbv
      refine .go [] [] [] hr1 rfl rfl rfl rfl rfl rfl ?_
      rintro v m1 ⟨r1, h3, rfl, rfl⟩
      cbv
      refine .go [] [] [] hr2 rfl rfl rfl rfl rfl rfl ?_
      rintro v m1 ⟨r2, h4, rfl, rfl⟩
      clear hr1 hr2
      cbv
      refine br_t (show I.beq r1 r2 = true from by rw [h3, h4]; exact hbb rq) ?_
      cbv
      refine .go [] [] [.bor 1, .bor 1] hs1 rfl rfl rfl rfl rfl rfl ?_
      rintro v m1 ⟨t1, h5, rfl, rfl⟩
      cbv
      refine .go [] [] [.bor 1, .bor 1] hs2 rfl rfl rfl rfl rfl rfl ?_
      rintro v m1 ⟨t2, h6, rfl, rfl⟩
      clear hs1 hs2
      cbv
      refine br_t (show I.beq t1 t2 = true from by rw [h5, h6]; exact hbb sm) ?_
      cbv
      refine .go [] [] [.bor 1, .bor 1] hs3 rfl rfl rfl rfl rfl rfl ?_
      rintro v m1 ⟨t3, h7, rfl, rfl⟩
      clear hs3
      cbv
      refine br_t h7 ?_
      cbv
      refine .go [] [] [] (wakes hp) rfl rfl rfl rfl rfl rfl ?_
      rintro v m1 ⟨rfl, rfl⟩
      cbv
      exact hP _ _ [] [] _ _ .nil rfl rfl rfl rfl rfl ⟨_, rfl, rfl⟩
end
end Go.Proofs.Ytccfcenhpmdemaa.E
