/- PacketUnpacks. -/
import Derived.Test.YtccfcenhpmdemaaRU
import Derived.Test.YtccfcenhpmdemaaCL
import Derived.Test.YtccfcenhpmdemaaPPk
namespace Go.Proofs.Ytccfcenhpmdemaa.E
open Go
set_option linter.unusedVariables false
set_option maxRecDepth 100000

theorem byteIs {y : Int} (h : (Lit.int .u8 y).wf = true) : ∃ b : BitVec 8, y = w8 b := by
  have h2 : (decide (IntKind.u8.min ≤ y) && decide (y ≤ IntKind.u8.max)) = true := h
  rw [show IntKind.u8.min = 0 from rfl, show IntKind.u8.max = 255 from rfl] at h2
  have h3 : 0 ≤ y ∧ y ≤ 255 := by simpa using h2
  refine ⟨BitVec.ofNat 8 y.toNat, ?_⟩
  unfold w8
  rw [BitVec.toNat_ofNat, Nat.mod_eq_of_lt (by omega)]
  omega
theorem isB.set {l : List (List G)} {bs : List (BitVec 8)} (h : isB l bs) (i : Nat) (c : BitVec 8) : isB (l.set i [.int .u8 (.sym (w8 c))]) (bs.set i c) := by
  unfold isB at h ⊢
  rw [h]
  simp [nrow, List.map_set]
section
variable {P : Program} (hp : P = Try.prog)
include hp
set_option maxHeartbeats 16000000 in
theorem unpacks (L0 : List (List G)) (bs0 : List (BitVec 8)) (h0 : isB L0 bs0) (hn0 : bs0.length ≤ 140737488351232) (xk xf xt xi xl xp xs how at_ v : Int) (xb raw sealed : Bool) (LX : List (List G)) (dx : List Int) (hX : isL .i64 LX dx) (hv : ∃ c, v = w8 c) :
    LValid P 8 [.c (.g (.rows 1 L0)), .agg [.g (.int .i64 (.sym xk)), .g (.int .i64 (.sym xf)), .g (.int .i64 (.sym xt)), .g (.int .i64 (.sym xi)), .g (.int .i64 (.sym xl)), .g (.int .i64 (.sym xp)), .g (.int .i64 (.sym xs)), .g (.bool (.sym xb)), .g (.rows 1 LX)], gi .i64 how, gi .i64 at_, gi .u8 v, gb raw, gb sealed] [] (fun v _ => ∃ b : BB, b.val = true ∧ v = .one (.c (.g (.bool b)))) := by
  obtain ⟨vc, hv⟩ := hv
  obtain ⟨I, hI⟩ := ref
  have hpl := pplay hp xk xf xt xi xl xp xs how xb LX dx hX (.sym how) rfl
  refine fn_sim hI (mo hp) (ccj hp c8) fun Post hP => ?_
  cbv
  refine .join_next (fun ts m => ∃ (c0 : C) (L : List (List G)) (bs : List (BitVec 8)), (c0 = .g (.rows 1 L) ∨ (c0 = .g .nil ∧ L = [])) ∧ isB L bs ∧ bs.length ≤ 140737488351240 ∧ ts = fr 93 [(0, .one (.c c0))] ∧ m = []) ?_ ?_
  · intro next hnx
    clear hP
    cbv
    refine .br (fun g1 => ?_) (fun g1 => ?_)
    · clear g1
      cbv
      refine .go [] [] [.bor 1] hpl rfl rfl rfl rfl rfl rfl ?_
      rintro r m1 ⟨q, D, hD, hl, rfl, rfl⟩
      clear hpl
      obtain ⟨k, f, t, i, l, p, s, b, d⟩ := q
      have hD : isL .i64 D d := hD
      have hl : d.length ≤ 6 := hl
      have hbl : (sealB (packB ⟨k, f, t, i, l, p, s, b, d⟩)).length = 12 + 8 * d.length := by rw [sealB_len, packB_len]; show 10 + 8 * d.length + 2 = _; omega
      have hrp := rpack hp ⟨.sym k, .sym f, .sym t, .sym i, .sym l, .sym p, .sym s, .sym b⟩ D d hD
      simp only [PZ.pk, Z.val, BB.val] at hrp
      generalize sealB (packB ⟨k, f, t, i, l, p, s, b, d⟩) = bs at hrp hbl
      generalize checkB ⟨k, f, t, i, l, p, s, b, d⟩ = ok at hrp
      cbv
      refine .go [] [] [.bor 1] hrp rfl rfl rfl rfl rfl rfl ?_
      rintro v m1 (⟨_, rfl, rfl⟩ | ⟨_, l1, hl1, rfl, rfl⟩)
      · clear hrp
        cbv
        refine .br (fun g2 => ?_) (fun g2 => ?_)
        · clear g2
          cbv
          exact hnx _ _ [] [] [0] _ _ .nil rfl rfl rfl ⟨.g .nil, [], [], .inr ⟨rfl, rfl⟩, rfl, Nat.zero_le _, rfl, rfl⟩
        · clear g2
          cbv
          exact hnx _ _ [] [] [0] _ _ .nil rfl rfl rfl ⟨.g .nil, [], [], .inr ⟨rfl, rfl⟩, rfl, Nat.zero_le _, rfl, rfl⟩
      · clear hrp
        have hln : I.len l1 = bs.length := by rw [hI]; exact hl1.len
        have hb2 : bs.length ≤ 140737488351240 := by omega
        cbv
        refine .br (fun g2 => ?_) (fun g2 => ?_)
        · clear g2
          have hgt : I.cmp .gtr (I.ofNat (I.len l1)) 2 = true := by
            rw [hln, hI, hbl]
            show decide ((((12 + 8 * d.length : Nat)) : Int) > 2) = true
            rw [decide_eq_true_eq]
            omega
          have hsub : I.bin .sub .i64 (I.ofNat (I.len l1)) 2 = ((10 + 8 * d.length : Nat) : Int) := by
            rw [hln, hI, hbl]
            show IntKind.i64.wrap ((((12 + 8 * d.length : Nat)) : Int) - 2) = _
            rw [wrap_in] <;> omega
          obtain ⟨n, hn⟩ : ∃ n, n = 10 + 8 * d.length := ⟨_, rfl⟩
          rw [← hn] at hsub
          have hnl : n ≤ I.len l1 := by omega
          have hE : isB (I.ext l1 0 n) (bs.take n) := by rw [hI]; exact hl1.take _
          have hEl : (bs.take n).length = n := by rw [List.length_take]; omega
          have hEn : I.len (I.ext l1 0 n) = n := by rw [hI] at hE ⊢; exact hE.len.trans hEl
          have hEm : I.len (I.ext l1 0 n) ≤ 1000 := by omega
          have hmn : isN (I.mn (I.ofNat (I.len (I.ext l1 0 n))) 14) (min n 14) := by
            rw [hEn, hI]
            show (if (14 : Int) < (n : Int) then (14 : Int) else (n : Int)) = _
            split <;> omega
          generalize hlx : I.ext l1 0 n = lx at hE hEn hEm hmn
          generalize hbx : bs.take n = us at hE hEl
          cbv
          refine br_t hgt ?_
          cbv
          refine .rng 0 n rfl hsub (Nat.zero_le _) hnl ?_
          cbv
          refine .most (show I.len (I.ext l1 0 n) * 1 ≤ 140737488355328 from by rw [hlx]; omega) (show I.len (I.ext l1 0 n) ≤ 140737488355328 from by rw [hlx]; omega) ?_
          refine .go [] [] [] (within hp _ _) rfl rfl rfl rfl rfl rfl ?_
          rintro r m1 ⟨y, hy, rfl, rfl⟩
          have hy1 : ∃ q : Nat, isN y q ∧ q < I.len (I.ext l1 0 n) := by
            have hy : y = win at_ (I.mn (I.ofNat (I.len (I.ext l1 0 n))) 14) := hy
            unfold isN at hmn
            rw [hlx, hmn] at hy
            have := win_in at_ ((min n 14 : Nat) : Int) (by omega) (by omega)
            rw [hlx, hEn]
            exact ⟨y.toNat, by unfold isN; omega, by omega⟩
          obtain ⟨q, hq, hql⟩ := hy1
          obtain ⟨zr, hrow⟩ : ∃ z, (I.ext l1 0 n)[q]? = some [.int .u8 (.sym z)] := by
            rw [hlx]
            have hqu : q < us.length := by rw [hlx, hEn] at hql; omega
            exact ⟨_, hE.at hqu⟩
          have hset : isB (I.set (I.ext l1 0 n) q [.int .u8 (.sym v)]) (us.set q vc) := by
            rw [hlx, hv, hI]
            exact hE.set q vc
          have hsl : (us.set q vc).length ≤ 140737488351200 := by rw [List.length_set, hEl]; omega
          cbv
          refine .idx q hq hql ?_
          cbv
          refine .nth _ hrow ?_
          cbv
          refine .go [] [] [.bor 1] (rseal hp _ (us.set q vc) hset (by omega)) rfl rfl rfl rfl rfl rfl ?_
          rintro r m1 ⟨l2, hl2, rfl, rfl⟩
          have hl2n : (sealB (us.set q vc)).length ≤ 140737488351240 := by rw [sealB_len]; omega
          cbv
          exact hnx _ _ [] [4] [0] _ _ .nil rfl rfl rfl ⟨.g (.rows 1 l2), l2, _, .inl rfl, hl2, hl2n, rfl, rfl⟩
        · clear g2
          cbv
          exact hnx _ _ [] [2] [0] _ _ .nil rfl rfl rfl ⟨.g (.rows 1 l1), l1, bs, .inl rfl, hl1, hb2, rfl, rfl⟩
    · clear g1
      cbv
      refine .br (fun g2 => ?_) (fun g2 => ?_)
      · clear g2
        cbv
        refine .go [] [] [.bor 1] (rseal hp L0 bs0 h0 (by omega)) rfl rfl rfl rfl rfl rfl ?_
        rintro r m1 ⟨l1, hl1, rfl, rfl⟩
        have hb2 : (sealB bs0).length ≤ 140737488351240 := by rw [sealB_len]; omega
        cbv
        exact hnx _ _ [] [1] [0] _ _ .nil rfl rfl rfl ⟨.g (.rows 1 l1), l1, sealB bs0, .inl rfl, hl1, hb2, rfl, rfl⟩
      · clear g2
        cbv
        exact hnx _ _ [] [] [0] _ _ .nil rfl rfl rfl ⟨.g (.rows 1 L0), L0, bs0, .inl rfl, h0, by omega, rfl, rfl⟩
  rintro ts m ⟨c0, L, bs, hc0, hL, hn, rfl, rfl⟩
  clear hpl
  have key : ∀ c0 : C, (c0 = .g (.rows 1 L) ∨ (c0 = .g .nil ∧ L = [])) → c0.inv I [] (.bor 1) [] = .bor 1 L := fun c0 h => by
    rcases h with rfl | ⟨rfl, rfl⟩ <;> rfl
  clear key
  have hun := fun (l : List (List G)) (h : isB l bs) => unpack hp l bs h (by omega)
  have hru := fun (l : List (List G)) (h : isB l bs) => runpack hp l bs h (by omega)
  have hnought : PK.nought = ⟨0, 0, 0, 0, 0, 0, 0, false, []⟩ := rfl
  obtain ⟨ok, hok⟩ : ∃ ok, ok = isPkB bs := ⟨_, rfl⟩
  rw [← hok] at hun hru
  obtain ⟨pq, hpq⟩ : ∃ pq, pq = pkOf (opened bs) := ⟨_, rfl⟩
  rw [← hpq] at hun hru
  have hdl : ok = true → pq.d.length ≤ 140737488355328 := fun h => by
    rw [hok] at h
    unfold isPkB at h
    simp only [Bool.and_eq_true, decide_eq_true_eq] at h
    have := (checkB_in h.1.2).2.2.2.2.2.2.2
    rw [hpq]
    omega
  clear hok hpq
  rcases hc0 with rfl | ⟨rfl, rfl⟩
  all_goals
    cbv
    refine .go [] [] [.bor 1] (lend hp _ bs hL (by omega)) rfl rfl rfl rfl rfl rfl ?_
    rintro v m1 ⟨L2, n, c, hnb, hc, hLL, rfl, rfl⟩
    have hX : isB (I.ext L2 0 n) bs := by
      rw [hI]
      have := hLL.take n
      rw [hnb, List.take_append_of_le_length (Nat.le_refl _), List.take_length] at this
      rw [hnb]
      exact this
    cbv
    refine .go [] [] [.bor 1] (hun (I.ext L2 0 n) hX) rfl rfl rfl rfl rfl rfl ?_
    rintro v m1 (⟨ho, q, D, hq, hD, rfl, rfl⟩ | ⟨ho, rfl, rfl⟩)
    · cbv
      refine .go [] [] [.bor 1] (hru _ hL) rfl rfl rfl rfl rfl rfl ?_
      rintro v m1 (⟨_, q2, D2, hq2, hD2, rfl, rfl⟩ | ⟨h, _⟩)
      rotate_left
      · rw [ho] at h; cases h
      obtain rfl : q2 = q := by rw [hq2, hq]
      have hdl : q2.d.length ≤ 140737488355328 := by rw [hq2]; exact hdl ho
      clear hq hq2
      clear ho hun hru
      obtain ⟨k, f, t, i, l, p, s, b, d⟩ := q2
      have hself : ((⟨k, f, t, i, l, p, s, b, d⟩ : PK) == ⟨k, f, t, i, l, p, s, b, d⟩) = true := by simp
      have hsm := refsame hp ⟨.sym k, .sym f, .sym t, .sym i, .sym l, .sym p, .sym s, .sym b⟩ ⟨.sym k, .sym f, .sym t, .sym i, .sym l, .sym p, .sym s, .sym b⟩ D D2 d d hD hD2 hdl
      simp only [PZ.pk, Z.val, BB.val, hself] at hsm
      cbv
      refine br_t (show I.beq (I.cmp .eql 0 0) true = true from by rw [hI]; rfl) ?_
      cbv
      refine br_t rfl ?_
      cbv
      refine .go [] [] [.bor 1, .bor 1] hsm rfl rfl rfl rfl rfl rfl ?_
      rintro v m1 ⟨t1, h1, rfl, rfl⟩
      cbv
      refine br_t h1 ?_
      cbv
      refine .go [0] [] [.keep, .bor 1] (intact hp L2 _ bs hLL hL (by omega) n c hnb hc) rfl rfl rfl rfl rfl rfl ?_
      rintro v m1 ⟨rfl, rfl⟩
      cbv
      refine br_t rfl ?_
      cbv
      refine .go [] [] [] (wakes hp) rfl rfl rfl rfl rfl rfl ?_
      rintro v m1 ⟨rfl, rfl⟩
      cbv
      exact hP _ _ [] [] _ _ .nil rfl rfl rfl rfl rfl ⟨_, rfl, rfl⟩
    · cbv
      refine .go [] [] [.bor 1] (hru _ hL) rfl rfl rfl rfl rfl rfl ?_
      rintro v m1 (⟨h, _⟩ | ⟨_, rfl, rfl⟩)
      · rw [ho] at h; cases h
      clear ho hun hru
      have hs0 : ((⟨0, 0, 0, 0, 0, 0, 0, false, []⟩ : PK) == ⟨0, 0, 0, 0, 0, 0, 0, false, []⟩) = true := by simp
      have hsm := refsame hp ⟨.sym 0, .sym 0, .sym 0, .sym 0, .sym 0, .sym 0, .sym 0, .sym false⟩ ⟨.sym 0, .sym 0, .sym 0, .sym 0, .sym 0, .sym 0, .sym 0, .sym false⟩ [] [] [] [] rfl rfl (by decide)
      simp only [PZ.pk, Z.val, BB.val, hs0] at hsm
      cbv
      refine br_t (show I.beq (I.cmp .eql 2 0) false = true from by rw [hI]; rfl) ?_
      cbv
      refine br_f rfl ?_
      cbv
      refine br_t (show I.cmp .eql 2 2 = true from by rw [hI]; rfl) ?_
      cbv
      refine .go [] [] [.bor 1, .bor 1] hsm rfl rfl rfl rfl rfl rfl ?_
      rintro v m1 ⟨t1, h1, rfl, rfl⟩
      cbv
      refine br_t h1 ?_
      cbv
      refine .go [0] [] [.keep, .bor 1] (intact hp L2 _ bs hLL hL (by omega) n c hnb hc) rfl rfl rfl rfl rfl rfl ?_
      rintro v m1 ⟨rfl, rfl⟩
      cbv
      refine br_t rfl ?_
      cbv
      refine .go [] [] [] (wakes hp) rfl rfl rfl rfl rfl rfl ?_
      rintro v m1 ⟨rfl, rfl⟩
      cbv
      exact hP _ _ [] [] _ _ .nil rfl rfl rfl rfl rfl ⟨_, rfl, rfl⟩
theorem unpacks_ (L0 : List (List G)) (n0 : Nat) (h0 : ∃ bs0, isB L0 bs0 ∧ bs0.length = n0) (hn0 : n0 * 1 ≤ 140737488351232) (xk xf xt xi xl xp xs how at_ v : Int) (xb raw sealed : Bool) (LX : List (List G)) (dx : List Int) (hX : isL .i64 LX dx) (hv : ∃ c, v = w8 c) :
    LValid P 8 [.c (.g (.rows 1 L0)), .agg [.g (.int .i64 (.sym xk)), .g (.int .i64 (.sym xf)), .g (.int .i64 (.sym xt)), .g (.int .i64 (.sym xi)), .g (.int .i64 (.sym xl)), .g (.int .i64 (.sym xp)), .g (.int .i64 (.sym xs)), .g (.bool (.sym xb)), .g (.rows 1 LX)], gi .i64 how, gi .i64 at_, gi .u8 v, gb raw, gb sealed] [] (fun v _ => ∃ b : BB, b.val = true ∧ v = .one (.c (.g (.bool b)))) := by
  obtain ⟨bs0, h1, h2⟩ := h0
  exact unpacks hp L0 bs0 h1 (by omega) xk xf xt xi xl xp xs how at_ v xb raw sealed LX dx hX hv
end
end Go.Proofs.Ytccfcenhpmdemaa.E
