/- PlanApart: each address is one word of one line; each line has one home, one set: of every setup. -/
import Derived.Test.YtdfbpdbfiffpbaaPA0
namespace Go.Proofs.Ytdfbpdbfiffpbaa.E
open Go
set_option linter.unusedVariables false
set_option maxRecDepth 100000

theorem ln_in {b c z : Int} (hb : 1 ≤ b ∧ b ≤ 4) (hc : 1 ≤ c ∧ c ≤ 2) (h0 : 0 ≤ z) (h : z < b * c) : ∃ t u : Nat, (lnW b c z).1 = t ∧ (lnW b c z).2 = u ∧ (t : Int) < b ∧ (u : Int) < c ∧ ((t * c.toNat + u : Nat) : Int) = z := by
  have e : lnW b c z = (z / c, z % c) := by unfold lnW; rw [if_neg (by omega), Int.tdiv_eq_ediv_of_nonneg h0, Int.tmod_eq_emod_of_nonneg h0]
  rw [e]
  refine ⟨(z / c).toNat, (z % c).toNat, ?_⟩
  have : c = 1 ∨ c = 2 := by omega
  rcases this with rfl | rfl
  · simp only [show (1 : Int).toNat = 1 from rfl]
    refine ⟨?_, ?_, ?_, ?_, ?_⟩ <;> omega
  · simp only [show (2 : Int).toNat = 2 from rfl]
    refine ⟨?_, ?_, ?_, ?_, ?_⟩ <;> omega
def apK (b c : Int) (i : Nat) : Int := pairZ (lnW b c i).1 (lnW b c i).2
def apR (b c : Int) (i : Nat) : List G := [.int .i64 (.sym (apK b c i)), .bool (.sym true)]
def isS (b c : Int) (M : List (List G)) (i : Nat) : Prop := M = (List.range i).map (apR b c)
theorem apK_inj {b c : Int} (hb : 1 ≤ b ∧ b ≤ 4) (hc : 1 ≤ c ∧ c ≤ 2) {i j : Nat} (hi : (i : Int) < b * c) (hj : (j : Int) < b * c) (h : apK b c i = apK b c j) : i = j := by
  obtain ⟨h1, h2⟩ := pairZ_inj h
  obtain ⟨t, u, g1, g2, _, _, g5⟩ := ln_in hb hc (by omega) hi
  obtain ⟨t', u', k1, k2, _, _, k5⟩ := ln_in hb hc (by omega) hj
  have e1 : t = t' := by rw [g1, k1] at h1; omega
  have e2 : u = u' := by rw [g2, k2] at h2; omega
  subst e1 e2
  omega
theorem mset_new {z : Int} {row : List G} : ∀ {l : List (List G)}, (∀ r ∈ l, rowKey r ≠ some z) → mset l z row = l ++ [row]
  | [], _ => rfl
  | r :: l, h => by
    have hb : (rowKey r == some z) = false := by simpa using h r (by simp)
    simp only [mset, hb, Bool.false_eq_true, if_false, List.cons_append]
    rw [mset_new fun r hr => h r (by simp [hr])]
theorem isS.next {b c : Int} (hb : 1 ≤ b ∧ b ≤ 4) (hc : 1 ≤ c ∧ c ≤ 2) {M : List (List G)} {i : Nat} (h : isS b c M i) (hi : (i : Int) < b * c) :
    mfind M (apK b c i) = none ∧ isS b c (mset M (apK b c i) (apR b c i)) (i + 1) := by
  have hk : ∀ r ∈ M, rowKey r ≠ some (apK b c i) := by
    intro r hr
    rw [h] at hr
    obtain ⟨j, hj, rfl⟩ := List.mem_map.1 hr
    have hj := List.mem_range.1 hj
    intro e
    have e : apK b c j = apK b c i := Option.some.inj e
    have := apK_inj hb hc (by omega) hi e
    omega
  refine ⟨?_, ?_⟩
  · unfold mfind
    rw [List.find?_eq_none]
    intro r hr
    simpa using hk r hr
  · unfold isS
    rw [mset_new hk, h, List.range_succ, List.map_append]
    rfl
section
variable {P : Program} (hp : P = Try.prog)
include hp
set_option maxHeartbeats 16000000 in
theorem apart (s1 s2 s3 s4 s5 s6 s7 : Int) (l0 l1 l2 l3 l4 : List (List G)) (xs : List Int) (h0 : isL .i64 l0 xs) : LValid P 6 [.agg [.g (.int .i64 (.sym s1)), .g (.int .i64 (.sym s2)), .g (.int .i64 (.sym s3)), .g (.int .i64 (.sym s4)), .g (.int .i64 (.sym s5)), .g (.int .i64 (.sym s6)), .g (.int .i64 (.sym s7)), .g (.rows 1 l0), .g (.rows 1 l1), .g (.rows 1 l2), .g (.rows 1 l3), .g (.rows 1 l4)]] [] (fun v _ => ∃ b : BB, b.val = true ∧ v = .one (.c (.g (.bool b)))) := by
  obtain ⟨I, hI⟩ := ref
  refine fn_sim hI (mo hp) (ccj hp c6) fun Post hP => ?_
  cbv
  refine .go [] [] [.bor 1] (configF hp s1 s2 s3 s4 s5 s6 s7 l0 l1 l2 l3 l4 xs h0) rfl rfl rfl rfl rfl rfl ?_
  rintro v m1 ⟨q, L, hq, hL, rfl, rfl⟩
  have ha := hq.ha
  have hb := hq.hb
  have hc := hq.hc
  have hd := hq.hd
  have hi8 := hq.hi
  have hlo := fun z => lineOf hp q.a q.b q.c q.d q.e q.f q.g z L hb hc
  have hwd := fun z => wordsG hp q hq L hL z
  have hho := fun z => homeOf hp q.a q.b q.c q.d q.e q.f q.g z L ha.1
  have hso := fun z => setOf hp q.a q.b q.c q.d q.e q.f q.g (.sym z) L hd.1
  obtain ⟨n0, hn0, hn8⟩ := mul_in q.b q.c hb hc
  have hbc : q.b * q.c = (n0 : Int) := by
    unfold isN at hn0
    rw [← hn0]
    exact (inB_prod 0 q.b q.c hb hc).symm
  have had : LValid P 15 [.agg (cfg (.sym q.a) (.sym q.b) (.sym q.c) (.sym q.d) (.sym q.e) (.sym q.f) (.sym q.g) (.bor 1 L))] [] (fun v m1 => v = i64 (n0 : Int) ∧ m1 = []) := (addrs hp q.a q.b q.c q.d q.e q.f q.g L).mono fun v m1 ⟨t, h1, h2, h3⟩ => ⟨by rw [h2, h1, inB_prod 0 q.b q.c hb hc, hbc], h3⟩
  -- the words of a line that is there
  have hwd1 : ∀ t : Nat, (t : Int) < q.b → LValid P 19 [q.arg L, gi .i64 (t : Int)] [] (fun v m1 => ∃ W, isL .i64 W (wordsL q.ini q.c.toNat t) ∧ v = .one (.c (.g (.rows 1 W))) ∧ m1 = []) := fun t ht => (hwd (t : Int)).mono fun v m1 ⟨W, h1, h2⟩ => ⟨W, by unfold wordsA at h1; rw [if_pos ⟨by omega, ht⟩] at h1; exact h1, h2⟩
  have hwdN : ∀ z : Z, ¬ (0 ≤ z.val ∧ z.val < q.b) → LValid P 19 [q.arg L, .c (.g (.int .i64 z))] [] (fun v m1 => ∃ W, I.len W = 0 ∧ v = .one (.c (.g (.rows 1 W))) ∧ m1 = []) := fun z hz => (LValid.sy (hwd z.val)).mono fun v m1 ⟨W, h1, h2⟩ => ⟨W, by unfold wordsA at h1; rw [if_neg hz] at h1; rw [hI]; exact h1.len, h2⟩
  obtain ⟨qa, qb, qc, qd, qe, qf, qg, ini⟩ := q
  have ha : 1 ≤ qa ∧ qa ≤ 4 := ha
  have hb : 1 ≤ qb ∧ qb ≤ 4 := hb
  have hc : 1 ≤ qc ∧ qc ≤ 2 := hc
  have hd : 1 ≤ qd ∧ qd ≤ 2 := hd
  have hbc : qb * qc = (n0 : Int) := hbc
  have hL : isL .i64 L ini := hL
  have hrst : ∀ (y n : Int), 0 ≤ y → 1 ≤ n → 0 ≤ rst y n ∧ rst y n < n := fun y n hy hn => by
    unfold rst
    rw [if_neg (by omega), Int.tmod_eq_emod_of_nonneg hy]
    exact ⟨Int.emod_nonneg _ (by omega), Int.emod_lt_of_pos _ (by omega)⟩
  clear hn0 hwd hq
  cbv
  refine .go [] [] [.bor 1] had rfl rfl rfl rfl rfl rfl ?_
  rintro v m1 ⟨rfl, rfl⟩
  clear had
  cbv
  refine .loop_next (fun n ts m => ∃ (i : Nat) (z : Int) (M : List (List G)) (t0 : Int), n = n0 - i ∧ isN z i ∧ isN t0 n0 ∧ i ≤ n0 ∧ isS qb qc M i ∧ ts = fr 149 [(3, .one (.c (.ptr 0 (.lit 0) 8 0))), (4, .one (.c (.map 1))), (5, i64 t0), (6, i64 z)] ∧ m = [.lit 8 [cfg (.sym qa) (.sym qb) (.sym qc) (.sym qd) (.sym qe) (.sym qf) (.sym qg) (.g (.rows 1 L))], .mp (some 0) M])
    n0 _ _ [1, 2] [] [3, 4, 5, 6] (by decide) rfl rfl rfl ⟨0, 0, [], _, rfl, rfl, rfl, Nat.zero_le _, rfl, rfl, rfl⟩ ?_
  rintro next n hnext ts m ⟨i, z, M, t0, hn, hz, ht0, hi, hS, rfl, rfl⟩
  cbv
  refine .br (fun g => ?_) (fun g => ?_)
  · have hi1 : i < n0 := by
      have g : I.cmp .lss z t0 = true := g
      rw [hI] at g
      have := of_decide_eq_true (show decide (z < t0) = true from g)
      unfold isN at hz ht0
      omega
    have hz1 : isN (I.bin .add .i64 z 1) (i + 1) := by unfold isN at hz ⊢; rw [hI]; simp only [ints, rBin]; rw [wrap_in] <;> omega
    have hzi : z = (i : Int) := hz
    obtain ⟨t1, u1, k1, k2, k3, k4, k5⟩ := ln_in (z := z) hb hc (by rw [hzi]; exact Int.natCast_nonneg i) (by rw [hbc, hzi]; exact Int.ofNat_lt.2 hi1)
    have hSn := hS.next hb hc (show (i : Int) < qb * qc by rw [hbc]; exact Int.ofNat_lt.2 hi1)
    have hlo1 := (hlo z).mono (R' := fun v m1 => v = .tup [.c (.g (.int .i64 (.sym (t1 : Int)))), .c (.g (.int .i64 (.sym (u1 : Int))))] ∧ m1 = []) (fun v m1 ⟨t, u, h1, h2, h3, h4⟩ => ⟨by rw [h3, h1, h2, k1, k2], h4⟩)
    have hkey : apK qb qc i = I.pair (t1 : Int) (u1 : Int) := by
      unfold apK
      rw [← hzi, k1, k2, hI]
      rfl
    unfold apR at hSn
    rw [hkey] at hSn
    obtain ⟨hf, hS2⟩ := hSn
    have hS2 : isS qb qc (I.mset M (I.pair (t1 : Int) (u1 : Int)) [.int .i64 (.sym (I.pair (t1 : Int) (u1 : Int))), .bool (.sym true)]) (i + 1) := by
      generalize I.pair (t1 : Int) (u1 : Int) = pk at hS2
      rw [hI]
      exact hS2
    have hwd2 := hwd1 t1 k3
    have hho2 := (hho (t1 : Int)).mono (R' := fun v m1 => ∃ h : Int, 0 ≤ h ∧ h < qa ∧ v = i64 h ∧ m1 = []) (fun v m1 ⟨t, h1, h2, h3⟩ => ⟨t, by rw [h1]; exact (hrst _ _ (by omega) (by omega)).1, by rw [h1]; exact (hrst _ _ (by omega) (by omega)).2, h2, h3⟩)
    have hso2 := (hso (t1 : Int)).mono (R' := fun v m1 => ∃ h : Int, 0 ≤ h ∧ h < qd ∧ v = i64 h ∧ m1 = []) (fun v m1 ⟨t, h1, h2, h3⟩ => ⟨t, by rw [h1]; exact (hrst (t1 : Int) _ (by omega) (by omega)).1, by rw [h1]; exact (hrst (t1 : Int) _ (by omega) (by omega)).2, h2, h3⟩)
    have hneg : ∀ y : Int, 0 ≤ y → I.cmp .lss y 0 = false := fun y hy => by rw [hI]; exact decide_eq_false (by omega)
    have hbig : ∀ y n : Int, y < n → I.cmp .geq y n = false := fun y n hy => by rw [hI]; exact decide_eq_false (by omega)
    have ht : ∃ t : Int, t = (t1 : Int) := ⟨_, rfl⟩
    obtain ⟨t, ht⟩ := ht
    have hu : ∃ u : Int, u = (u1 : Int) := ⟨_, rfl⟩
    obtain ⟨u, hu⟩ := hu
    rw [← ht, ← hu] at hlo1 hf hS2
    rw [← ht] at hho2 hso2
    have hx : ∃ x : Int, x = (ini[i]?).getD 0 := ⟨_, rfl⟩
    obtain ⟨x, hx⟩ := hx
    have hLl : I.len L = ini.length := by rw [hI]; exact hL.len
    have hil : I.cmp .lss z (I.ofNat (I.len L)) = true → L[i]? = some [.int .i64 (.sym x)] ∧ i < I.len L := fun g => by
      rw [hLl, hI] at g
      have := of_decide_eq_true (show decide (z < ((ini.length : Nat) : Int)) = true from g)
      have hil : i < ini.length := by omega
      refine ⟨?_, by rw [hLl]; exact hil⟩
      rw [hL.get, hx, List.getElem?_eq_getElem hil]
      rfl
    have hix : I.cmp .lss z (I.ofNat (I.len L)) = false → x = 0 := fun g => by
      rw [hLl, hI] at g
      have := of_decide_eq_false (show decide (z < ((ini.length : Nat) : Int)) = false from g)
      rw [hx, List.getElem?_eq_none (by omega)]
      rfl
    have hwd2 : LValid P 19 [.agg (cfg (.sym qa) (.sym qb) (.sym qc) (.sym qd) (.sym qe) (.sym qf) (.sym qg) (.bor 1 L)), gi .i64 t] [] (fun v m1 => ∃ W, W[u1]? = some [.int .i64 (.sym x)] ∧ u1 < I.len W ∧ I.cmp .neq (I.ofNat (I.len W)) qc = false ∧ v = .one (.c (.g (.rows 1 W))) ∧ m1 = []) := by
      rw [ht]
      refine hwd2.mono fun v m1 ⟨W, hW, h1, h2⟩ => ⟨W, ?_, ?_, ?_, h1, h2⟩
      · have hW : isL .i64 W (wordsL ini qc.toNat t1) := hW
        rw [hW.get, wordsL_get ini _ _ _ (by omega)]
        have : t1 * qc.toNat + u1 = i := by omega
        rw [this, hx]
        rfl
      · have hW : isL .i64 W (wordsL ini qc.toNat t1) := hW
        rw [hI]
        show u1 < W.length
        rw [hW.len, wordsL_len]
        omega
      · have hW : isL .i64 W (wordsL ini qc.toNat t1) := hW
        rw [hI]
        show (((W.length : Nat) : Int) != qc) = false
        rw [hW.len, wordsL_len]
        have : ((qc.toNat : Nat) : Int) = qc := by omega
        rw [this]
        simp
    have b1 := hneg t (by omega)
    have b2 := hbig t qb (by omega)
    have b3 := hneg u (by omega)
    have b4 := hbig u qc (by omega)
    have hu0 : isN u u1 := hu
    clear g hlo hho hso hwd1 hrst
    cbv
    refine .go [] [] [.bor 1] hlo1 rfl rfl rfl rfl rfl rfl ?_
    rintro v m1 ⟨rfl, rfl⟩
    clear hlo1
    cbv
    refine br_f b1 ?_
    cbv
    refine br_f b2 ?_
    cbv
    refine br_f b3 ?_
    cbv
    refine br_f b4 ?_
    cbv
    refine .find none hf ?_
    cbv
    refine .go [] [] [.bor 1] hwd2 rfl rfl rfl rfl rfl rfl ?_
    rintro v m1 ⟨W, hrw, hul, hwn, rfl, rfl⟩
    clear hwd2
    cbv
    refine .join_next (fun ts m => ts = fr 149 [(3, .one (.c (.ptr 0 (.lit 0) 8 0))), (4, .one (.c (.map 1))), (5, i64 t0), (6, i64 z), (7, i64 t), (8, i64 u), (9, .one (.c (.g (.rows 1 W)))), (10, i64 x)] ∧ m = [.lit 8 [cfg (.sym qa) (.sym qb) (.sym qc) (.sym qd) (.sym qe) (.sym qf) (.sym qg) (.g (.rows 1 L))], .mp (some 0) (I.mset M (I.pair t u) [.int .i64 (.sym (I.pair t u)), .bool (.sym true)])]) ?_ ?_
    · intro next3 hnx
      cbv
      refine .br (fun g => ?_) (fun g => ?_)
      · obtain ⟨hrl, hll⟩ := hil g
        clear g
        cbv
        refine .idx i hz hll (.nth _ hrl ?_)
        cbv
        exact hnx _ _ [0, 1] [] [3, 4, 5, 6, 7, 8, 9, 10] _ _ (by decide) rfl rfl rfl ⟨rfl, rfl⟩
      · have hx0 : x = 0 := hix g
        subst hx0
        clear g
        cbv
        exact hnx _ _ [0, 1] [] [3, 4, 5, 6, 7, 8, 9, 10] _ _ (by decide) rfl rfl rfl ⟨rfl, rfl⟩
    rintro ts m ⟨rfl, rfl⟩
    have hxx : I.cmp .neq x x = false := by rw [hI]; show (x != x) = false; simp
    cbv
    refine br_f hwn ?_
    cbv
    refine .idx u1 hu0 hul (.nth _ hrw ?_)
    cbv
    refine br_f hxx ?_
    cbv
    refine .go [] [] [.bor 1] hho2 rfl rfl rfl rfl rfl rfl ?_
    rintro v m1 ⟨h, hh1, hh2, rfl, rfl⟩
    have b5 := hneg h hh1
    have b6 := hbig h qa hh2
    clear hho2 hh1 hh2
    cbv
    refine .drawn [] ?_
    cbv
    refine br_f b5 ?_
    cbv
    refine br_f b6 ?_
    cbv
    refine .go [] [] [.bor 1] hso2 rfl rfl rfl rfl rfl rfl ?_
    rintro v m1 ⟨s, hs1, hs2, rfl, rfl⟩
    have b7 := hneg s hs1
    clear hs1 hs2
    cbv
    refine br_f b7 ?_
    cbv
    refine .go [] [] [.bor 1] hso2 rfl rfl rfl rfl rfl rfl ?_
    rintro v m1 ⟨s2, hs1, hs2, rfl, rfl⟩
    have b8 := hbig s2 qd hs2
    clear hs1 hs2 hso2
    cbv
    refine br_f b8 ?_
    cbv
    exact hnext _ _ (n0 - (i + 1)) [0, 1] [] [3, 4, 5, 6] _ _ (by omega) (by decide) rfl rfl rfl ⟨i + 1, _, _, t0, rfl, hz1, ht0, hi1, hS2, rfl, rfl⟩
  have hin : i = n0 := by
    have g : I.cmp .lss z t0 = false := g
    rw [hI] at g
    have := of_decide_eq_false (show decide (z < t0) = false from g)
    unfold isN at hz ht0
    omega
  have hlo2 := (hlo t0).mono (R' := fun v m1 => v = .tup [.c (.g (.int .i64 (.sym (-1)))), .c (.g (.int .i64 (.sym 0)))] ∧ m1 = []) (fun v m1 ⟨t, u, h1, h2, h3, h4⟩ => by
    have e : lnW qb qc t0 = (-1, 0) := by unfold lnW; rw [if_pos (.inr (by rw [hbc, show t0 = (n0 : Int) from ht0]; exact Int.le_refl _))]
    have h1 : t = (lnW qb qc t0).1 := h1
    have h2 : u = (lnW qb qc t0).2 := h2
    rw [e] at h1 h2
    exact ⟨by rw [h3, h1, h2], h4⟩)
  have hlen : I.len M = n0 := by
    rw [hI]
    show M.length = n0
    rw [hS, hin]
    simp
  have e1 : I.cmp .eql (I.ofNat (I.len M)) (I.bin .mul .i64 qb qc) = true := by
    rw [hlen, hI]
    show (((n0 : Nat) : Int) == IntKind.i64.wrap (qb * qc)) = true
    rw [inB_prod 0 qb qc hb hc, hbc]
    simp
  have e2 : I.cmp .eql (-1) (-1) = true := by rw [hI]; rfl
  have e3 : I.cmp .eql 0 0 = true := by rw [hI]; rfl
  have e4 : ∀ W : List (List G), I.len W = 0 → I.cmp .eql (I.ofNat (I.len W)) 0 = true := fun W h => by rw [h, hI]; rfl
  have hw1 := hwdN (.sym qb) (fun h => absurd h.2 (Int.lt_irrefl _))
  have hw2 := hwdN (.lit (-1)) (fun h => absurd h.1 (by decide))
  clear g hlo hho hso hwd1 hwdN hrst hnext
  cbv
  refine .go [] [] [.bor 1] hlo2 rfl rfl rfl rfl rfl rfl ?_
  rintro v m1 ⟨rfl, rfl⟩
  cbv
  refine br_t e1 ?_
  cbv
  refine br_t e2 ?_
  cbv
  refine br_t e3 ?_
  cbv
  refine .go [] [] [.bor 1] hw1 rfl rfl rfl rfl rfl rfl ?_
  rintro v m1 ⟨W, hW, rfl, rfl⟩
  have e5 := e4 W hW
  cbv
  refine br_t e5 ?_
  cbv
  refine .go [] [] [.bor 1] hw2 rfl rfl rfl rfl rfl rfl ?_
  rintro v m1 ⟨W2, hW2, rfl, rfl⟩
  have e6 := e4 W2 hW2
  cbv
  refine br_t e6 ?_
  cbv
  refine .go [] [] [] (wakes hp) rfl rfl rfl rfl rfl rfl ?_
  rintro v m1 ⟨rfl, rfl⟩
  cbv
  exact hP _ _ [] [] _ _ .nil rfl rfl rfl rfl rfl ⟨_, rfl, rfl⟩
end
end Go.Proofs.Ytdfbpdbfiffpbaa.E
