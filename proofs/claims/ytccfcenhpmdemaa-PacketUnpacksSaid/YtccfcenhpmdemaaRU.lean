/- The reference: the packet of bytes. -/
import Derived.Test.YtccfcenhpmdemaaPU
import Derived.Test.YtccfcenhpmdemaaRO
namespace Go.Proofs.Ytccfcenhpmdemaa.E
open Go
set_option linter.unusedVariables false
set_option maxRecDepth 100000

def wordR (x : List (BitVec 8)) (j : Nat) : Int := numB ((x.drop (10 + 8 * j)).take 8)
theorem wordsR (x : List (BitVec 8)) (K : Nat) : (List.range K).map (wordR x) = wordsAt K (x.drop 10) := by
  unfold wordsAt
  apply List.map_congr_left
  intro j hj
  have hj := List.mem_range.1 hj
  unfold wordR wordAt
  rw [show min j (K - 1) = j by omega, List.drop_take, List.drop_drop, show 8 * j + 8 - 8 * j = 8 by omega]
def isV2 (v : Int) (x : List (BitVec 8)) (j k : Nat) : Prop := v = ((x.drop (10 + 8 * j)).take k).foldl numStep 0
theorem isV2_step {v : Int} {x : List (BitVec 8)} {j k : Nat} (h : isV2 v x j k) (hl : 10 + 8 * j + k < x.length) : isV2 (numStep v (x.getD (10 + 8 * j + k) 0#8)) x j (k + 1) := by
  unfold isV2 at h ⊢
  rw [List.take_add_one, List.getElem?_drop, List.getElem?_eq_getElem hl, List.foldl_append, ← h, List.getD_eq_getElem?_getD, List.getElem?_eq_getElem hl]
  rfl
section
variable {P : Program} (hp : P = Try.prog)
include hp
set_option maxHeartbeats 8000000 in
theorem runpack (l : List (List G)) (bs : List (BitVec 8)) (hl : isB l bs) (hn : bs.length ≤ 140737488351250) : LValid P 29 [.c (.bor 1 l)] []
    (fun v m1 => (isPkB bs = true ∧ ∃ (q : PK) (D : List (List G)), q = pkOf (opened bs) ∧ isL .i64 D q.d ∧ v = .tup [q.told (.g (.rows 1 D)), gb true] ∧ m1 = []) ∨ (isPkB bs = false ∧ v = .tup [PK.nought.told (.g .nil), gb false] ∧ m1 = [])) := by
  refine LValid.syv (R := fun v m1 => (isPkB bs = true ∧ ∃ (q : PK) (D : List (List G)), q = pkOf (opened bs) ∧ isL .i64 D q.d ∧ v = .tup [q.told (.g (.rows 1 D)), .c (.g (.bool (.lit true)))] ∧ m1 = []) ∨ (isPkB bs = false ∧ v = .tup [noughtL, .c (.g (.bool (.lit false)))] ∧ m1 = [])) ?_
    (fun v m1 h => h.imp (fun ⟨h1, q, D, h2, h3, h4, h5⟩ => ⟨h1, q, D, h2, h3, by rw [h4]; rfl, h5⟩) (fun ⟨h1, h2, h3⟩ => ⟨h1, by rw [h2]; rfl, h3⟩))
  obtain ⟨I, hI⟩ := ref
  refine fn_sim hI (mo hp) (cc hp c29) fun Post hP => ?_
  cbv
  refine .go [] [] [] (ropen hp l bs hl hn) rfl rfl rfl rfl rfl rfl ?_
  rintro v m1 (⟨h1, h2, l', hl', rfl, rfl⟩ | ⟨h1, rfl, rfl⟩)
  · have hx : isB l' (opened bs) := hl'
    have hlx : I.len l' = (opened bs).length := by rw [hI]; exact hx.len
    have hlen : (opened bs).length ≤ 140737488351250 := by unfold opened; rw [List.length_take]; omega
    have hpk : isPkB bs = (shapeB (opened bs) && checkB (pkOf (opened bs)) && (sealB (packB (pkOf (opened bs))) == bs)) := by unfold isPkB; rw [h2, decide_eq_true h1]; simp
    generalize ho : opened bs = x at hx hlx hlen hpk
    have c1 : (I.cmp .lss (I.ofNat (I.len l')) 10 = true → shapeB x = false) ∧ (I.cmp .lss (I.ofNat (I.len l')) 10 = false → 10 ≤ x.length) := by
      rw [hlx, hI]
      unfold shapeB
      simp only [ints, rCmp, decide_eq_true_eq, decide_eq_false_iff_not]
      refine ⟨fun h => by rw [decide_eq_false (by omega)]; rfl, fun h => by omega⟩
    clear h1 h2 hl' hn
    cbv
    refine br_f (show I.not true = false from by rw [hI]; rfl) ?_
    cbv
    refine .br (fun g1 => ?_) (fun g1 => ?_)
    · have s1 := c1.1 g1
      clear c1 g1
      cbv
      exact hP _ _ [] [] _ _ .nil rfl rfl rfl rfl rfl (.inr ⟨by rw [hpk, s1]; rfl, rfl, rfl⟩)
    · have s1 := c1.2 g1
      clear c1 g1
      have at_ : ∀ i, i < 10 → ∃ z, hb x i = z ∧ l'[i]? = some [.int .u8 (.sym z)] := fun i hi => ⟨_, rfl, hx.at (by omega)⟩
      obtain ⟨z0, e0, r0⟩ := at_ 0 (by decide)
      obtain ⟨z1, e1, r1⟩ := at_ 1 (by decide)
      obtain ⟨z2, e2, r2⟩ := at_ 2 (by decide)
      obtain ⟨z3, e3, r3⟩ := at_ 3 (by decide)
      obtain ⟨z4, e4, r4⟩ := at_ 4 (by decide)
      obtain ⟨z5, e5, r5⟩ := at_ 5 (by decide)
      obtain ⟨z6, e6, r6⟩ := at_ 6 (by decide)
      obtain ⟨z7, e7, r7⟩ := at_ 7 (by decide)
      obtain ⟨z8, e8, r8⟩ := at_ 8 (by decide)
      obtain ⟨z9, e9, r9⟩ := at_ 9 (by decide)
      clear at_
      have hlt : ∀ i, i < 10 → i < I.len l' := fun i hi => by rw [hlx]; omega
      have c2 : (I.cmp .neq (I.ofNat (I.len l')) (I.bin .add .i64 10 (I.bin .mul .i64 8 (I.conv .i64 z9))) = true → shapeB x = false) ∧ (I.cmp .neq (I.ofNat (I.len l')) (I.bin .add .i64 10 (I.bin .mul .i64 8 (I.conv .i64 z9))) = false → shapeB x = true ∧ x.length = 10 + 8 * (x.getD 9 0#8).toNat) := by
        rw [hlx, hI, ← e9]
        have f1 := hb_in x 9
        have f2 : hb x 9 = ((x.getD 9 0#8).toNat : Int) := rfl
        have f3 : rBin .mul .i64 8 (hb x 9) = 8 * hb x 9 := by show IntKind.i64.wrap (8 * hb x 9) = _; rw [wrap_in] <;> omega
        have f4 : rBin .add .i64 10 (8 * hb x 9) = 10 + 8 * hb x 9 := by show IntKind.i64.wrap (10 + 8 * hb x 9) = _; rw [wrap_in] <;> omega
        show (rCmp .neq (x.length : Int) (rBin .add .i64 10 (rBin .mul .i64 8 (IntKind.i64.wrap (hb x 9)))) = true → _) ∧ _
        show _ ∧ (rCmp .neq (x.length : Int) (rBin .add .i64 10 (rBin .mul .i64 8 (IntKind.i64.wrap (hb x 9)))) = false → _)
        rw [hb_conv, f3, f4, f2]
        unfold shapeB
        generalize (x.getD 9 0#8).toNat = n9
        refine ⟨fun h => ?_, fun h => ?_⟩
        · have : (x.length : Int) ≠ 10 + 8 * (n9 : Int) := by simpa [rCmp] using h
          rw [decide_eq_false (p := x.length = 10 + 8 * n9) (by omega)]
          simp
        · have : (x.length : Int) = 10 + 8 * (n9 : Int) := by simpa [rCmp] using h
          have : x.length = 10 + 8 * n9 := by omega
          exact ⟨by rw [decide_eq_true s1, decide_eq_true this]; rfl, this⟩
      cbv
      refine .idx 9 rfl (hlt 9 (by decide)) (.nth _ r9 ?_)
      cbv
      refine .br (fun g2 => ?_) (fun g2 => ?_)
      · have s2 := c2.1 g2
        clear c2 g2
        cbv
        exact hP _ _ [] [] _ _ .nil rfl rfl rfl rfl rfl (.inr ⟨by rw [hpk, s2]; rfl, rfl, rfl⟩)
      · obtain ⟨s2, s3⟩ := c2.2 g2
        clear c2 g2
        rw [s2] at hpk
        cbv
        refine .drawn [] ?_
        cbv
        refine .idx 0 rfl (hlt 0 (by decide)) (.nth _ r0 ?_)
        cbv
        refine .idx 1 rfl (hlt 1 (by decide)) (.nth _ r1 ?_)
        cbv
        refine .idx 2 rfl (hlt 2 (by decide)) (.nth _ r2 ?_)
        cbv
        refine .idx 3 rfl (hlt 3 (by decide)) (.nth _ r3 ?_)
        cbv
        refine .idx 4 rfl (hlt 4 (by decide)) (.nth _ r4 ?_)
        cbv
        refine .idx 5 rfl (hlt 5 (by decide)) (.nth _ r5 ?_)
        cbv
        refine .idx 6 rfl (hlt 6 (by decide)) (.nth _ r6 ?_)
        cbv
        refine .idx 7 rfl (hlt 7 (by decide)) (.nth _ r7 ?_)
        cbv
        refine .idx 8 rfl (hlt 8 (by decide)) (.nth _ r8 ?_)
        cbv
        have hq : pkOf x = ⟨I.conv .i64 z0, I.conv .i64 z1, I.conv .i64 z2, I.bin .or .i64 (I.bin .shl .i64 (I.conv .i64 z3) 8) (I.conv .i64 z4), I.conv .i64 z5, I.bin .sub .i64 (I.conv .i64 z6) 1, I.conv .i64 z7, I.cmp .eql z8 1, wordsAt (x.getD 9 0#8).toNat (x.drop 10)⟩ := by
          rw [hI, ← e0, ← e1, ← e2, ← e3, ← e4, ← e5, ← e6, ← e7, ← e8]
          simp only [ints, hb_conv]
          rfl
        obtain ⟨K, hK⟩ : ∃ K, K = (x.getD 9 0#8).toNat := ⟨_, rfl⟩
        have hK9 : K ≤ 255 := by have := (x.getD 9 0#8).isLt; omega
        have hz9 : isN (I.conv .i64 z9) K := by
          unfold isN
          rw [hI, ← e9, hK]
          exact hb_conv x 9
        have hW := wordsR x K
        rw [← hK] at s3 hq
        rw [← hW] at hq
        have hxl : I.len l' = 10 + 8 * K := by rw [hlx, s3]
        have hbyte : ∀ n, n < 10 + 8 * K → ∃ c : BitVec 8, x.getD n 0#8 = c ∧ l'[n]? = some [.int .u8 (.sym (w8 c))] := fun n hn => ⟨_, rfl, hx.at (by omega)⟩
        clear hK hW hlx e0 e1 e2 e3 e4 e5 e6 e7 e8 e9 hlen
        refine .ownc 2 9 0 8 1 _ _ rfl rfl rfl ?_
        cbv
        refine .loop_next (fun n ts m => ∃ (j : Nat) (z : Int) (D : List (List G)), n = K - j ∧ isN z j ∧ j ≤ K ∧ isL .i64 D ((List.range j).map (wordR x)) ∧ ts = fr 122 [(0, .one (.c (.bor 1 l))), (2, .one (.c (.ptr 0 (.lit 0) 9 0))), (3, boo false), (4, .one (.c (.row 1 1 none))), (6, .one (.c (.ptr 2 (.lit 0) 9 0))), (7, i64 z)] ∧ m = [.lit 9 [[.g (.int .i64 (.sym 0)), .g (.int .i64 (.sym 0)), .g (.int .i64 (.sym 0)), .g (.int .i64 (.sym 0)), .g (.int .i64 (.sym 0)), .g (.int .i64 (.sym 0)), .g (.int .i64 (.sym 0)), .g (.bool (.sym false)), .g .nil]], .sym 1 l', .lit 9 [pkC (I.conv .i64 z0) (I.conv .i64 z1) (I.conv .i64 z2) (I.bin .or .i64 (I.bin .shl .i64 (I.conv .i64 z3) 8) (I.conv .i64 z4)) (I.conv .i64 z5) (I.bin .sub .i64 (I.conv .i64 z6) 1) (I.conv .i64 z7) (I.cmp .eql z8 1) (.row 3 1 none)], .sym 1 D])
          K _ _ [0, 1, 2, 3] [] [0, 2, 3, 4, 6, 7] (by decide) rfl rfl rfl ⟨0, 0, [], rfl, rfl, Nat.zero_le _, rfl, rfl, rfl⟩ ?_
        rintro next n hnext ts m ⟨j, z, D, hnn, hz, hj, hD, rfl, rfl⟩
        have hz1 : isN (I.bin .add .i64 z 1) (j + 1) := by unfold isN at hz ⊢; rw [hI]; simp only [ints, rBin]; rw [wrap_in] <;> omega
        have hcm : (I.cmp .lss z (I.conv .i64 z9) = true → j < K) ∧ (I.cmp .lss z (I.conv .i64 z9) = false → j = K) := by
          unfold isN at hz hz9
          rw [hz9, hI]
          simp only [ints, rCmp, decide_eq_true_eq, decide_eq_false_iff_not]
          omega
        have hwr : ∀ v : Int, isV2 v x j 8 → isL .i64 (I.app D [[.int .i64 (.sym (I.conv .i64 v))]]) ((List.range (j + 1)).map (wordR x)) := fun v hv => by
          unfold isV2 at hv
          unfold isL at hD ⊢
          rw [List.range_succ, List.map_append, hI, hD]
          have : IntKind.i64.wrap v = wordR x j := by rw [hv]; rfl
          simp [ints, nrow, this]
        have hDl : I.len D = j := by rw [hI]; show D.length = j; have := hD.len; simpa using this
        cbv
        refine .idx 9 rfl (hlt 9 (by decide)) (.nth _ r9 ?_)
        cbv
        refine .br (fun g3 => ?_) (fun g3 => ?_)
        · have hj1 := hcm.1 g3
          clear hcm g3
          have hv0 : isV2 0 x j 0 := rfl
          cbv
          refine .loop_next (fun n ts m => ∃ (k : Nat) (y v : Int), n = 8 - k ∧ isN y k ∧ k ≤ 8 ∧ isV2 v x j k ∧ ts = fr 122 [(0, .one (.c (.bor 1 l))), (2, .one (.c (.ptr 0 (.lit 0) 9 0))), (3, boo false), (4, .one (.c (.row 1 1 none))), (6, .one (.c (.ptr 2 (.lit 0) 9 0))), (7, i64 z), (8, .one (.c (.g (.int .u64 (.sym v))))), (9, i64 y)] ∧ m = [.lit 9 [[.g (.int .i64 (.sym 0)), .g (.int .i64 (.sym 0)), .g (.int .i64 (.sym 0)), .g (.int .i64 (.sym 0)), .g (.int .i64 (.sym 0)), .g (.int .i64 (.sym 0)), .g (.int .i64 (.sym 0)), .g (.bool (.sym false)), .g .nil]], .sym 1 l', .lit 9 [pkC (I.conv .i64 z0) (I.conv .i64 z1) (I.conv .i64 z2) (I.bin .or .i64 (I.bin .shl .i64 (I.conv .i64 z3) 8) (I.conv .i64 z4)) (I.conv .i64 z5) (I.bin .sub .i64 (I.conv .i64 z6) 1) (I.conv .i64 z7) (I.cmp .eql z8 1) (.row 3 1 none)], .sym 1 D])
            8 _ _ [0, 1, 2, 3] [] [0, 2, 3, 4, 6, 7, 8, 9] (by decide) rfl rfl rfl ⟨0, 0, 0, rfl, rfl, Nat.zero_le _, hv0, rfl, rfl⟩ ?_
          rintro next2 n2 hnext2 ts m ⟨k, y, v, hn2, hy, hk, hv, rfl, rfl⟩
          have hy1 : isN (I.bin .add .i64 y 1) (k + 1) := by unfold isN at hy ⊢; rw [hI]; simp only [ints, rBin]; rw [wrap_in] <;> omega
          have hcm : (I.cmp .lss y 8 = true → k < 8) ∧ (I.cmp .lss y 8 = false → k = 8) := by
            unfold isN at hy
            rw [hI]
            simp only [ints, rCmp, decide_eq_true_eq, decide_eq_false_iff_not]
            omega
          have hpl : I.bin .add .i64 (I.bin .add .i64 10 (I.bin .mul .i64 8 z)) y = ((10 + 8 * j + k : Nat) : Int) := by
            unfold isN at hy hz
            rw [hI]
            simp only [ints, rBin]
            rw [wrap_in (8 * z) (by omega) (by omega), wrap_in (10 + 8 * z) (by omega) (by omega), wrap_in _ (by omega) (by omega)]
            omega
          have hst : 10 + 8 * j + k < 10 + 8 * K → ∀ c, x.getD (10 + 8 * j + k) 0#8 = c → isV2 (I.bin .or .u64 (I.bin .shl .u64 v 8) (I.conv .u64 (w8 c))) x j (k + 1) := fun h c hc => by
            rw [hI, ← hc]
            exact isV2_step hv (by omega)
          obtain ⟨q, hq9⟩ : ∃ q, q = 10 + 8 * j + k := ⟨_, rfl⟩
          have hql : k < 8 → q < 10 + 8 * K := fun h => by omega
          rw [← hq9] at hpl hst
          cbv
          refine .br (fun g4 => ?_) (fun g4 => ?_)
          · have hk1 := hcm.1 g4
            have hqK := hql hk1
            obtain ⟨c, hc1, hc2⟩ := hbyte q hqK
            have hv1 := hst hqK c hc1
            clear hcm g4 hst hbyte
            have hqi : q < I.len l' := by rw [hxl]; exact hqK
            cbv
            refine .idx q hpl hqi (.nth _ hc2 ?_)
            cbv
            exact hnext2 _ _ (8 - (k + 1)) [0, 1, 2, 3] [] [0, 2, 3, 4, 6, 7, 8, 9] _ _ (by omega) (by decide) rfl rfl rfl ⟨k + 1, _, _, rfl, hy1, hk1, hv1, rfl, rfl⟩
          · have hk1 := hcm.2 g4
            subst hk1
            have hw1 := hwr v hv
            have hwl : I.len (I.app D [[.int .i64 (.sym (I.conv .i64 v))]]) ≤ 1000 := by
              have := hw1.len
              rw [hI] at this ⊢
              show List.length _ ≤ _
              rw [show (ints.app D [[G.int .i64 (.sym (ints.conv .i64 v))]]).length = _ from this]
              simp
              omega
            clear hcm g4 hst hbyte hwr
            cbv
            refine .most (Nat.le_trans (Nat.mul_le_mul_right 8 hwl) (by decide)) (Nat.le_trans hwl (by decide)) ?_
            cbv
            exact hnext _ _ (K - (j + 1)) [0, 1, 2, 5] [] [0, 2, 3, 4, 6, 7] _ _ (by omega) (by decide) rfl rfl rfl ⟨j + 1, _, _, rfl, hz1, hj1, hw1, rfl, rfl⟩
        · have hj1 := hcm.2 g3
          subst hj1
          clear hcm g3 hwr hz1 hnext hbyte
          generalize (List.range j).map (wordR x) = d at hD hq
          rw [hq] at hpk
          cbv
          refine .go [] [] [.bor 1] (rpack hp ⟨.sym (I.conv .i64 z0), .sym (I.conv .i64 z1), .sym (I.conv .i64 z2), .sym (I.bin .or .i64 (I.bin .shl .i64 (I.conv .i64 z3) 8) (I.conv .i64 z4)), .sym (I.conv .i64 z5), .sym (I.bin .sub .i64 (I.conv .i64 z6) 1), .sym (I.conv .i64 z7), .sym (I.cmp .eql z8 1)⟩ D d hD) rfl rfl rfl rfl rfl rfl ?_
          rintro v m1 h
          simp only [PZ.pk, Z.val, BB.val] at h
          generalize hqq : (⟨I.conv .i64 z0, I.conv .i64 z1, I.conv .i64 z2, I.bin .or .i64 (I.bin .shl .i64 (I.conv .i64 z3) 8) (I.conv .i64 z4), I.conv .i64 z5, I.bin .sub .i64 (I.conv .i64 z6) 1, I.conv .i64 z7, I.cmp .eql z8 1, d⟩ : PK) = q at h hpk hq
          rcases h with ⟨k1, rfl, rfl⟩ | ⟨k1, L, hLs, rfl, rfl⟩
          · cbv
            exact hP _ _ [] [] _ _ .nil rfl rfl rfl rfl rfl (.inr ⟨by rw [hpk, k1]; rfl, rfl, rfl⟩)
          · have hsq : I.seq (I.b2s L) (I.b2s l) = (sealB (packB q) == bs) := by rw [hI]; exact seqB hLs hl
            obtain ⟨t, ht⟩ : ∃ t, t = (sealB (packB q) == bs) := ⟨_, rfl⟩
            rw [k1, ← ht] at hpk
            rw [← ht] at hsq
            cbv
            refine .bytes hLs.bytes ?_
            cbv
            refine .bytes hl.bytes ?_
            cbv
            refine .br (fun g3 => ?_) (fun g3 => ?_)
            · have h3 : t = false := by
                have h4 : I.not (I.seq (I.b2s L) (I.b2s l)) = true := g3
                rw [hsq, hI] at h4
                simpa [ints] using h4
              cbv
              exact hP _ _ [] [] _ _ .nil rfl rfl rfl rfl rfl (.inr ⟨by rw [hpk, h3]; rfl, rfl, rfl⟩)
            · have h3 : t = true := by
                have h4 : I.not (I.seq (I.b2s L) (I.b2s l)) = false := g3
                rw [hsq, hI] at h4
                simpa [ints] using h4
              have hqd : q.d = d := by rw [← hqq]
              cbv
              refine hP _ _ [] [3] _ _ .nil rfl rfl rfl rfl rfl (.inl ⟨by rw [hpk, h3]; rfl, q, D, by rw [ho, hq], by rw [hqd]; exact hD, ?_, rfl⟩)
              rw [← hqq]
              rfl
  · cbv
    refine br_t (show I.not false = true from by rw [hI]; rfl) ?_
    cbv
    exact hP _ _ [] [] _ _ .nil rfl rfl rfl rfl rfl (.inr ⟨by
      unfold isPkB
      cases hs : (decide (2 ≤ bs.length) && isSeal bs) with
      | false => rfl
      | true =>
        simp only [Bool.and_eq_true, decide_eq_true_eq] at hs
        exact (h1 hs).elim, rfl, rfl⟩)
end
end Go.Proofs.Ytccfcenhpmdemaa.E
