/- MemdirParts. -/
import Derived.Test.YthkkodmidnpmeaaMErr
namespace Go.Proofs.Ythkkodmidnpmeaa.E
open Go
set_option linter.unusedVariables false
set_option maxRecDepth 100000

/-- How many lines have their home below a node. -/
def below (a b k : Nat) : Nat := ((List.range b).filter fun l => decide (l % a < k)).length
theorem below_step : ∀ a, a < 5 → ∀ b, b < 5 → ∀ k, k < 5 → below a b (k + 1) = below a b k + ((List.range b).filter fun l => decide (l % a = k)).length := by decide
theorem below_all : ∀ a, a < 5 → 0 < a → ∀ b, b < 5 → below a b a = b := by decide
theorem below_zero (a b : Nat) : below a b 0 = 0 := by
  unfold below
  have : (List.range b).filter (fun l => decide (l % a < 0)) = [] := List.filter_eq_nil_iff.2 (fun l _ => by simp)
  rw [this]
  rfl
theorem dir0_some {ini : List Int} {a w node : Int} {n : Nat} {z : Int} {r : RW} (h : dir0 ini a w node n z = some r) : 0 ≤ z ∧ z < n ∧ z.tmod a = node ∧ r = ⟨0, -1, wordsL ini w.toNat z.toNat⟩ := by
  unfold dir0 at h
  split at h
  · rename_i h1
    exact ⟨h1.1, h1.2.1, h1.2.2, (Option.some.inj h).symm⟩
  · cases h
theorem linesL_len (ini : List Int) (a w node : Int) (an kn b : Nat) (ha : a = an) (hk : node = kn) : (linesL (dir0 ini a w node b) b).length = ((List.range b).filter fun l => decide (l % an = kn)).length := by
  unfold linesL
  rw [List.filter_map, List.length_map]
  congr 1
  refine List.filter_congr fun l hl => ?_
  have hl : l < b := by simpa using hl
  show (dir0 ini a w node b (l : Int)).isSome = decide (l % an = kn)
  unfold dir0
  rw [ha, hk]
  have e : ((l : Int)).tmod (an : Int) = ((l % an : Nat) : Int) := by rw [Int.tmod_eq_emod_of_nonneg (by omega)]; exact (Int.natCast_emod l an).symm
  rw [e]
  by_cases h : l % an = kn
  · rw [if_pos ⟨by omega, by omega, by omega⟩, decide_eq_true h]
    rfl
  · rw [if_neg (fun h' => h (by omega)), decide_eq_false h]
    rfl
theorem linesL_mem {f : Int → Option RW} {n j : Nat} {l : Int} (h : (linesL f n)[j]? = some l) : ∃ r, f l = some r := by
  have := List.mem_of_getElem? h
  unfold linesL at this
  rw [List.mem_filter] at this
  exact Option.isSome_iff_exists.1 this.2
section
variable {P : Program} (hp : P = Try.prog)
include hp
set_option maxHeartbeats 20000000 in
theorem parts (s1 s2 s3 s4 s5 s6 s7 : Int) (l0 l1 l2 l3 l4 : List (List G)) (xs : List Int) (h0 : isL .i64 l0 xs) : LValid P 3 [.agg [.g (.int .i64 (.sym s1)), .g (.int .i64 (.sym s2)), .g (.int .i64 (.sym s3)), .g (.int .i64 (.sym s4)), .g (.int .i64 (.sym s5)), .g (.int .i64 (.sym s6)), .g (.int .i64 (.sym s7)), .g (.rows 1 l0), .g (.rows 1 l1), .g (.rows 1 l2), .g (.rows 1 l3), .g (.rows 1 l4)]] [] (fun v _ => ∃ b : BB, b.val = true ∧ v = .one (.c (.g (.bool b)))) := by
  obtain ⟨I, hI⟩ := ref
  refine fn_sim hI (mo hp) (cc hp c3) fun Post hP => ?_
  cbv
  refine .go [] [] [.bor 1] (configF hp s1 s2 s3 s4 s5 s6 s7 l0 l1 l2 l3 l4 xs h0) rfl rfl rfl rfl rfl rfl ?_
  rintro v m1 ⟨q, L, hq, hL, rfl, rfl⟩
  have hq0 := hq
  obtain ⟨qa, qb, qc, qd, qe, qf, qg, ini⟩ := q
  obtain ⟨ha, hb, hc, -, hini, -⟩ := hq
  have ha : 1 ≤ qa ∧ qa ≤ 4 := ha
  have hb : 1 ≤ qb ∧ qb ≤ 4 := hb
  have hc : 1 ≤ qc ∧ qc ≤ 2 := hc
  have hini : ini.length ≤ 8 := hini
  have hL : isL .i64 L ini := hL
  have h9 : ∃ an bn cn : Nat, isN qa an ∧ isN qb bn ∧ isN qc cn ∧ 1 ≤ an ∧ an ≤ 4 ∧ 1 ≤ bn ∧ bn ≤ 4 ∧ 1 ≤ cn ∧ cn ≤ 2 := by
    refine ⟨qa.toNat, qb.toNat, qc.toNat, ?_, ?_, ?_, ?_, ?_, ?_, ?_, ?_, ?_⟩ <;> (try unfold isN) <;> omega
  obtain ⟨an, bn, cn, han, hbn, hcn, ha1, ha4, hb1, hb4, hc1, hc2⟩ := h9
  have hbt : qb.toNat = bn := by unfold isN at hbn; omega
  have hct : qc.toNat = cn := by unfold isN at hcn; omega
  have hLl : I.len L = ini.length := by rw [hI]; exact hL.len
  clear ha hb hc
  cbv
  refine .loop_next (fun n ts m => ∃ (k : Nat) (zk cnt : Int), n = an - k ∧ isN zk k ∧ k ≤ an ∧ isN cnt (below an bn k) ∧ ts = fr 107 [(3, .one (.c (.ptr 0 (.lit 0) 8 0))), (4, i64 cnt), (5, i64 zk)] ∧ m = [.lit 8 [cfg (.sym qa) (.sym qb) (.sym qc) (.sym qd) (.sym qe) (.sym qf) (.sym qg) (.g (.rows 1 L))]])
    an _ _ [1] [] [3, 4, 5] (by decide) rfl rfl rfl ⟨0, 0, 0, rfl, rfl, Nat.zero_le _, by unfold isN; rw [below_zero]; rfl, rfl, rfl⟩ ?_
  rintro next n hnext ts m ⟨k, zk, cnt, hn, hzk, hk, hcnt, rfl, rfl⟩
  cbv
  refine .br (fun g1 => ?_) (fun g1 => ?_)
  · have hk1 : k < an := by
      have : zk < qa := by simpa [hI, ints, rCmp] using g1
      unfold isN at hzk han
      omega
    have hzk1 : isN (I.bin .add .i64 zk 1) (k + 1) := by unfold isN at hzk ⊢; rw [hI]; simp only [ints, rBin]; rw [wrap_in] <;> omega
    have h9 : ∃ f, f = dir0 ini qa qc zk bn := ⟨_, rfl⟩
    obtain ⟨f, hf⟩ := h9
    have hll : (linesL f bn).length = below an bn (k + 1) - below an bn k := by
      rw [hf, linesL_len ini qa qc zk an k bn han hzk, below_step an (by omega) bn (by omega) k (by omega)]
      omega
    have hle : below an bn k ≤ below an bn (k + 1) := by rw [below_step an (by omega) bn (by omega) k (by omega)]; omega
    have hbl : below an bn (k + 1) ≤ 4 := by
      unfold below
      refine Nat.le_trans (List.length_filter_le _ _) ?_
      rw [List.length_range]
      exact hb4
    have hs : small f := fun z r h => by
      rw [hf] at h
      rw [(dir0_some h).2.2.2]
      show (wordsL _ _ _).length ≤ 1000
      rw [wordsL_len]
      omega
    have hfs : ∀ z r, f z = some r → ∃ ln : Nat, isN z ln ∧ ln < bn ∧ ln % an = k ∧ r = ⟨0, -1, wordsL ini cn ln⟩ := fun z r h => by
      rw [hf] at h
      obtain ⟨p1, p2, p3, p4⟩ := dir0_some h
      refine ⟨z.toNat, by unfold isN; omega, by omega, ?_, by rw [p4, hct]⟩
      unfold isN at han hzk
      rw [han, hzk, Int.tmod_eq_emod_of_nonneg p1] at p3
      have e : z = ((z.toNat : Nat) : Int) := by omega
      rw [e, ← Int.natCast_emod] at p3
      exact Int.ofNat.inj p3
    clear g1
    cbv
    refine .go [] [] [] (mnew hp ⟨qa, qb, qc, qd, qe, qf, qg, ini⟩ hq0 L hL (.sym zk)) rfl rfl rfl rfl rfl rfl ?_
    rintro v m1 ⟨M, hM, rfl, rfl⟩
    have hM : isD M f := by rw [hf, ← hbt]; exact hM
    clear hf
    cbv
    refine .go [1, 2] [] [] (mlines hp ⟨qa, qb, qc, qd, qe, qf, qg, ini⟩ hq0 L M f hM) rfl rfl rfl rfl rfl rfl ?_
    rintro v m1 ⟨O, hO, rfl, rfl⟩
    have hO : isL .i64 O (linesL f bn) := by rw [← hbt]; exact hO
    have hOl : I.len O = (linesL f bn).length := by rw [hI]; exact hO.len
    have hOn : isN (I.ofNat (I.len O)) (linesL f bn).length := by rw [hOl, hI]; rfl
    cbv
    refine .loop_next (fun n ts m => ∃ (j : Nat) (zj c1 ct : Int), n = (linesL f bn).length - j ∧ isN zj j ∧ j ≤ (linesL f bn).length ∧ isN c1 (linesL f bn).length ∧ isN ct (below an bn k + j) ∧ ts = fr 107 [(3, .one (.c (.ptr 0 (.lit 0) 8 0))), (4, i64 ct), (5, i64 zk), (6, .one (.c (.ptr 1 (.lit 0) 9 0))), (29, .one (.c (.row 3 1 none))), (30, i64 c1), (31, i64 zj)] ∧ m = [.lit 8 [cfg (.sym qa) (.sym qb) (.sym qc) (.sym qd) (.sym qe) (.sym qf) (.sym qg) (.g (.rows 1 L))], .lit 9 [cfg (.sym qa) (.sym qb) (.sym qc) (.sym qd) (.sym qe) (.sym qf) (.sym qg) (.g (.rows 1 L)) ++ [.map 2]], .mp (some 3) M, .sym 1 O])
      (linesL f bn).length _ _ [0, 1, 2, 3] [] [3, 4, 5, 6, 29, 30, 31] (by decide) rfl rfl rfl ⟨0, 0, _, cnt, rfl, rfl, Nat.zero_le _, hOn, hcnt, rfl, rfl⟩ ?_
    rintro next2 n2 hnext2 ts m ⟨j, zj, c1, ct, hn2, hzj, hj, hc1j, hct2, rfl, rfl⟩
    cbv
    refine .br (fun g2 => ?_) (fun g2 => ?_)
    · have hj1 : j < (linesL f bn).length := by
        have : zj < c1 := by simpa [hI, ints, rCmp] using g2
        unfold isN at hzj hc1j
        omega
      have hzj1 : isN (I.bin .add .i64 zj 1) (j + 1) := by unfold isN at hzj ⊢; rw [hI]; simp only [ints, rBin]; rw [wrap_in] <;> omega
      have hct3 : isN (I.bin .add .i64 ct 1) (below an bn k + (j + 1)) := by unfold isN at hct2 ⊢; rw [hI]; simp only [ints, rBin]; rw [wrap_in] <;> omega
      have h9 : ∃ l, (linesL f bn)[j]? = some l := ⟨_, List.getElem?_eq_getElem hj1⟩
      obtain ⟨l, hl⟩ := h9
      have hr : O[j]? = some [.int .i64 (.sym l)] := by rw [hO.get, hl]; rfl
      obtain ⟨r0, hr0⟩ := linesL_mem hl
      obtain ⟨ln, hln, hlb, hlk, hr0e⟩ := hfs l r0 hr0
      have hjl : j < I.len O := by rw [hOl]; exact hj1
      clear g2 hl
      cbv
      refine .idx j hzj hjl (.nth _ hr ?_)
      cbv
      refine .go [1, 2] [] [] (mrow hp ⟨qa, qb, qc, qd, qe, qf, qg, ini⟩ L M f hM hs (.sym l)) rfl rfl rfl rfl rfl rfl ?_
      rintro v m1 (⟨h2, _⟩ | ⟨r, D, h2, hD, rfl, rfl⟩)
      · rw [show f (Z.sym l).val = f l from rfl, hr0] at h2
        cases h2
      have hrr : r = r0 := Option.some.inj (h2.symm.trans hr0)
      rw [hr0e] at hrr
      subst hrr
      have hD : isL .i64 D (wordsL ini cn ln) := hD
      have hDl : I.len D = cn := by rw [hI]; exact hD.len.trans (wordsL_len ini cn ln)
      have hDn : isN (I.ofNat (I.len D)) cn := by rw [hDl, hI]; rfl
      have hrem : I.cmp .neq (I.bin .rem .i64 l qa) zk = false := by
        unfold isN at hln han hzk
        rw [hln, han, hzk, hI]
        show (((ln : Int)).tmod (an : Int) != (k : Int)) = false
        rw [Int.tmod_eq_emod_of_nonneg (by omega), ← Int.natCast_emod, hlk]
        simp
      have hlen : I.cmp .neq (I.ofNat (I.len D)) qc = false := by
        unfold isN at hcn
        rw [hDl, hcn, hI]
        show (((cn : Nat) : Int) != (cn : Int)) = false
        simp
      have hne : qa ≠ 0 := by unfold isN at han; omega
      clear h2 hr0 hr0e hr
      cbv
      refine br_f (show I.not true = false from by rw [hI]; rfl) ?_
      cbv
      refine .nz hne ?_
      cbv
      refine br_f hrem ?_
      cbv
      refine br_f (show I.cmp .neq 0 0 = false from by rw [hI]; rfl) ?_
      cbv
      refine br_f (show I.cmp .neq (-1) (-1) = false from by rw [hI]; rfl) ?_
      cbv
      refine br_f hlen ?_
      cbv
      refine .loop_next (fun n ts m => ∃ (i : Nat) (zi c2 : Int), n = cn - i ∧ isN zi i ∧ i ≤ cn ∧ isN c2 cn ∧ ts = fr 107 [(3, .one (.c (.ptr 0 (.lit 0) 8 0))), (4, i64 ct), (5, i64 zk), (6, .one (.c (.ptr 1 (.lit 0) 9 0))), (29, .one (.c (.row 3 1 none))), (30, i64 c1), (31, i64 zj), (8, i64 l), (70, .one (.c (.row 4 1 none))), (71, i64 c2), (72, i64 zi)] ∧ m = [.lit 8 [cfg (.sym qa) (.sym qb) (.sym qc) (.sym qd) (.sym qe) (.sym qf) (.sym qg) (.g (.rows 1 L))], .lit 9 [cfg (.sym qa) (.sym qb) (.sym qc) (.sym qd) (.sym qe) (.sym qf) (.sym qg) (.g (.rows 1 L)) ++ [.map 2]], .mp (some 3) M, .sym 1 O, .sym 1 D])
        cn _ _ [0, 1, 2, 3, 4] [] [3, 4, 5, 6, 8, 29, 30, 31, 70, 71, 72] (by decide) rfl rfl rfl ⟨0, 0, _, rfl, rfl, Nat.zero_le _, hDn, rfl, rfl⟩ ?_
      rintro next3 n3 hnext3 ts m ⟨i, zi, c2, hn3, hzi, hi, hc2i, rfl, rfl⟩
      cbv
      refine .br (fun g3 => ?_) (fun g3 => ?_)
      · have hi1 : i < cn := by
          have : zi < c2 := by simpa [hI, ints, rCmp] using g3
          unfold isN at hzi hc2i
          omega
        have hzi1 : isN (I.bin .add .i64 zi 1) (i + 1) := by unfold isN at hzi ⊢; rw [hI]; simp only [ints, rBin]; rw [wrap_in] <;> omega
        have h9 : ∃ p, p = ln * cn + i ∧ p ≤ 100 := ⟨_, rfl, by
          have : ln * cn ≤ 4 * 2 := Nat.mul_le_mul (by omega) hc2
          omega⟩
        obtain ⟨pl, hpl, hpl100⟩ := h9
        have hplN : isN (I.bin .add .i64 (I.bin .mul .i64 l qc) zi) pl := by
          unfold isN at hln hcn hzi ⊢
          rw [hln, hcn, hzi, hI]
          have hlc : ln * cn ≤ 4 * 2 := Nat.mul_le_mul (by omega) hc2
          show IntKind.i64.wrap (IntKind.i64.wrap ((ln : Int) * (cn : Int)) + (i : Int)) = _
          have e : ((ln : Int) * (cn : Int)) = ((ln * cn : Nat) : Int) := (Int.natCast_mul ln cn).symm
          rw [e, wrap_in ((ln * cn : Nat) : Int) (by omega) (by omega), wrap_in _ (by omega) (by omega), hpl]
          exact (Int.natCast_add _ _).symm
        have hdg : (wordsL ini cn ln)[i]? = some ((ini[pl]?).getD 0) := by rw [hpl]; exact wordsL_get ini cn ln i hi1
        have hrd : D[i]? = some [.int .i64 (.sym ((ini[pl]?).getD 0))] := by rw [hD.get, hdg]; rfl
        have hil : i < I.len D := by rw [hDl]; exact hi1
        have hcmp : ∀ t, I.cmp .lss (I.bin .add .i64 (I.bin .mul .i64 l qc) zi) (I.ofNat (I.len L)) = t → decide (pl < ini.length) = t := fun t h => by
          unfold isN at hplN
          rw [hplN, hLl, hI] at h
          have h : decide ((pl : Int) < (ini.length : Int)) = t := h
          rw [← h]
          by_cases hh : pl < ini.length
          · rw [decide_eq_true hh, decide_eq_true (by omega)]
          · rw [decide_eq_false hh, decide_eq_false (by omega)]
        have h9 : ∃ v, v = (ini[pl]?).getD 0 := ⟨_, rfl⟩
        obtain ⟨v, hv⟩ := h9
        rw [← hv] at hrd
        clear g3 hdg hpl
        cbv
        refine .idx i hzi hil (.nth _ hrd ?_)
        cbv
        refine .br (fun g4 => ?_) (fun g4 => ?_)
        · have hp1 : pl < ini.length := of_decide_eq_true (hcmp _ g4)
          have hri : L[pl]? = some [.int .i64 (.sym v)] := by rw [hL.get, List.getElem?_eq_getElem hp1, hv, List.getElem?_eq_getElem hp1]; rfl
          have hpl2 : pl < I.len L := by rw [hLl]; exact hp1
          clear g4 hcmp hv
          cbv
          refine .idx pl hplN hpl2 (.nth _ hri ?_)
          cbv
          refine br_f (show I.cmp .neq v v = false from by rw [hI]; show (v != v) = false; simp) ?_
          cbv
          exact hnext3 _ _ (cn - (i + 1)) [0, 1, 2, 3, 4] [] [3, 4, 5, 6, 8, 29, 30, 31, 70, 71, 72] _ _ (by omega) (by decide) rfl rfl rfl ⟨i + 1, _, c2, rfl, hzi1, hi1, hc2i, rfl, rfl⟩
        · have hp1 : ¬ pl < ini.length := of_decide_eq_false (hcmp _ g4)
          have hv0 : v = 0 := by rw [hv, List.getElem?_eq_none (by omega)]; rfl
          clear g4 hcmp hv
          cbv
          refine br_f (show I.cmp .neq v 0 = false from by rw [hv0, hI]; rfl) ?_
          cbv
          exact hnext3 _ _ (cn - (i + 1)) [0, 1, 2, 3, 4] [] [3, 4, 5, 6, 8, 29, 30, 31, 70, 71, 72] _ _ (by omega) (by decide) rfl rfl rfl ⟨i + 1, _, c2, rfl, hzi1, hi1, hc2i, rfl, rfl⟩
      · clear hnext3 g3
        cbv
        exact hnext2 _ _ ((linesL f bn).length - (j + 1)) [0, 1, 2, 3] [] [3, 4, 5, 6, 29, 30, 31] _ _ (by omega) (by decide) rfl rfl rfl ⟨j + 1, _, c1, _, rfl, hzj1, hj1, hc1j, hct3, rfl, rfl⟩
    · have hj1 : j = (linesL f bn).length := by
        have : ¬ zj < c1 := by simpa [hI, ints, rCmp] using g2
        unfold isN at hzj hc1j
        omega
      have hct3 : isN ct (below an bn (k + 1)) := by
        rw [hj1, hll, Nat.add_sub_cancel' hle] at hct2
        exact hct2
      clear hnext2 g2 hct2
      cbv
      exact hnext _ _ (an - (k + 1)) [0] [] [3, 4, 5] _ _ (by omega) (by decide) rfl rfl rfl ⟨k + 1, _, ct, rfl, hzk1, hk1, hct3, rfl, rfl⟩
  · have hk1 : k = an := by
      have : ¬ zk < qa := by simpa [hI, ints, rCmp] using g1
      unfold isN at hzk han
      omega
    have hfin : I.cmp .eql cnt qb = true := by
      rw [hk1, below_all an (by omega) (by omega) bn (by omega)] at hcnt
      unfold isN at hcnt hbn
      rw [hcnt, hbn, hI]
      show (((bn : Nat) : Int) == (bn : Int)) = true
      simp
    clear hnext g1
    cbv
    refine br_t hfin ?_
    cbv
    refine .go [] [] [] (wakes9 hp) rfl rfl rfl rfl rfl rfl ?_
    rintro v m1 ⟨rfl, rfl⟩
    cbv
    exact hP _ _ [] [] _ _ .nil rfl rfl rfl rfl rfl ⟨_, rfl, rfl⟩
end
end Go.Proofs.Ythkkodmidnpmeaa.E
