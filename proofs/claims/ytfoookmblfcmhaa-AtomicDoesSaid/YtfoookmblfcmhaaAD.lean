/- Contracts: the document's own memory; AtomicDoes. -/
import Derived.Test.YtfoookmblfcmhaaAP
import Derived.Test.YtfoookmblfcmhaaRWo
namespace Go.Proofs.Ytfoookmblfcmhaa.E
open Go
set_option linter.unusedVariables false
set_option maxRecDepth 100000

section
variable {P : Program} (hp : P = Try.prog)
include hp
set_option maxHeartbeats 4000000 in
theorem opRight (q : CF) (hq : q.ok) (L : List (List G)) (o : OP) : LValid P 15 [q.arg L, o.arg] [] (fun v m1 => ∃ t, t = okOp q o ∧ v = boo t ∧ m1 = []) := by
  refine bx (LValid.boo ?_)
  obtain ⟨I, hI⟩ := ref
  obtain ⟨hbcN, hbc8⟩ := bc_nat q hq
  obtain ⟨qa, qb, qc, qd, qe, qf, qg, ini⟩ := q
  obtain ⟨k, a, v⟩ := o
  have hmul : I.bin .mul .i64 qb qc = qb * qc := by
    have e : qb * qc = ((qb.toNat * qc.toNat : Nat) : Int) := hbcN
    have h8 : qb.toNat * qc.toNat ≤ 8 := hbc8
    rw [hI]
    show IntKind.i64.wrap (qb * qc) = _
    rw [e, wrap_in] <;> omega
  have hok : okOp ⟨qa, qb, qc, qd, qe, qf, qg, ini⟩ ⟨k, a, v⟩ = (I.cmp .geq k 1 && I.cmp .leq k 4 && I.cmp .geq a 0 && I.cmp .lss a (I.bin .mul .i64 qb qc) && (I.cmp .eql v 0 || I.cmp .eql k 2 || I.cmp .eql k 3)) := by
    rw [hmul, hI]
    show (decide (1 ≤ k) && decide (k ≤ 4) && decide (0 ≤ a ∧ a < qb * qc) && ((v == 0) || (k == 2) || (k == 3))) = (decide (k ≥ 1) && decide (k ≤ 4) && decide (a ≥ 0) && decide (a < qb * qc) && ((v == 0) || (k == 2) || (k == 3)))
    rw [Bool.decide_and]
    simp [Bool.and_assoc]
  rw [hok]
  clear hok hbcN hbc8 hmul
  refine fn_sim hI (mo hp) (cc hp c15) fun Post hP => ?_
  cbv
  refine .br (fun g1 => ?_) (fun g1 => ?_)
  · cbv
    refine .br (fun g2 => ?_) (fun g2 => ?_)
    · cbv
      refine .br (fun g3 => ?_) (fun g3 => ?_)
      · cbv
        refine .br (fun g6 => ?_) (fun g6 => ?_)
        · cbv
          refine .br (fun g4 => ?_) (fun g4 => ?_)
          · cbv
            exact hP _ _ [] [] _ _ .nil rfl rfl rfl rfl rfl ⟨.lit true, rfl, show true = _ from by rw [g1, g2, g3, g6, g4]; rfl, rfl⟩
          · cbv
            refine .br (fun g5 => ?_) (fun g5 => ?_)
            · cbv
              exact hP _ _ [] [] _ _ .nil rfl rfl rfl rfl rfl ⟨.lit true, rfl, show true = _ from by rw [g1, g2, g3, g6, g4, g5]; rfl, rfl⟩
            · cbv
              exact hP _ _ [] [] _ _ .nil rfl rfl rfl rfl rfl ⟨.sym (I.cmp .eql k 3), rfl, show I.cmp .eql k 3 = _ from by rw [g1, g2, g3, g6, g4, g5]; rfl, rfl⟩
        · cbv
          exact hP _ _ [] [] _ _ .nil rfl rfl rfl rfl rfl ⟨.lit false, rfl, show false = _ from by rw [g1, g2, g3, g6]; rfl, rfl⟩
      · cbv
        exact hP _ _ [] [] _ _ .nil rfl rfl rfl rfl rfl ⟨.lit false, rfl, show false = _ from by rw [g1, g2, g3]; rfl, rfl⟩
    · cbv
      exact hP _ _ [] [] _ _ .nil rfl rfl rfl rfl rfl ⟨.lit false, rfl, show false = _ from by rw [g1, g2]; rfl, rfl⟩
  · cbv
    exact hP _ _ [] [] _ _ .nil rfl rfl rfl rfl rfl ⟨.lit false, rfl, show false = _ from by rw [g1]; rfl, rfl⟩
set_option maxHeartbeats 4000000 in
theorem first_ (q : CF) (hq : q.ok) (L : List (List G)) (hL : isL .i64 L q.ini) : LValid P 14 [q.arg L] [] (fun v m1 => ∃ WL, isL .i64 WL q.first ∧ v = .one (.c (.row 0 1 none)) ∧ m1 = [.sym 1 WL]) := by
  obtain ⟨I, hI⟩ := ref
  have hq0 := hq
  obtain ⟨-, hb, hc, -, -, -⟩ := hq
  have hws := fun (z : Z) (i : Nat) h1 h2 => rwords hp q hq0 L hL z i h1 h2
  unfold CF.first
  obtain ⟨cn, hcn⟩ : ∃ cn, cn = q.c.toNat := ⟨_, rfl⟩
  have hc2 : cn ≤ 2 := by omega
  obtain ⟨bn, hbe⟩ : ∃ bn, bn = q.b.toNat := ⟨_, rfl⟩
  have hbn : isN q.b bn := by unfold isN; omega
  rw [← hcn, ← hbe]
  have hws : ∀ (z : Z) (i : Nat), isN z.val i → i < bn → LValid P 25 [q.arg L, .c (.g (.int .i64 z))] [] (fun v m1 => ∃ W, isL .i64 W (wordsL q.ini cn i) ∧ v = .one (.c (.g (.rows 1 W))) ∧ m1 = []) := fun z i h1 h2 => by
    rw [hcn]
    exact hws z i h1 (by omega)
  have hb4 : bn ≤ 4 := by omega
  clear hbe hcn hb hc
  obtain ⟨qa, qb, qc, qd, qe, qf, qg, ini⟩ := q
  have hbn : isN qb bn := hbn
  show LValid P _ _ [] (fun v m1 => ∃ WL, isL .i64 WL (firstW ini cn bn) ∧ v = .one (.c (.row 0 1 none)) ∧ m1 = [.sym 1 WL])
  refine fn_sim hI (mo hp) (cc hp c14) fun Post hP => ?_
  cbv
  refine .own 3 1 rfl ?_
  refine .loop_next (fun n ts m => ∃ (i : Nat) (z : Int) (WL : List (List G)), n = bn - i ∧ isN z i ∧ i ≤ bn ∧ isL .i64 WL (firstW ini cn i) ∧
      ts = fr 17 [(1, .one (.c (.ptr 0 (.lit 0) 8 0))), (3, .one (.c (.row 1 1 none))), (4, i64 z)] ∧ m = [.lit 8 [cfg (.sym qa) (.sym qb) (.sym qc) (.sym qd) (.sym qe) (.sym qf) (.sym qg) (.bor 1 L)], .sym 1 WL])
    bn _ _ [0, 1] [] [1, 3, 4] (by decide) rfl rfl rfl ⟨0, 0, [], rfl, rfl, Nat.zero_le _, rfl, rfl, rfl⟩ ?_
  rintro next n hnext ts m ⟨i, z, WL, hn, hz, hi, hW, rfl, rfl⟩
  cbv
  refine .br (fun g1 => ?_) (fun g1 => ?_)
  · have hi1 : i < bn := by
      have : z < qb := by simpa [hI, ints, rCmp] using g1
      unfold isN at hz hbn
      omega
    have hz1 : isN (I.bin .add .i64 z 1) (i + 1) := by unfold isN at hz ⊢; rw [hI]; simp only [ints, rBin]; rw [wrap_in] <;> omega
    have hcall := hws (.sym z) i hz hi1
    have hW2 : ∀ W, isL .i64 W (wordsL ini cn i) → isL .i64 (I.app WL W) (firstW ini cn (i + 1)) ∧ I.len (I.app WL W) ≤ 8 := fun W h => by
      have h1 : isL .i64 (I.app WL W) (firstW ini cn (i + 1)) := by
        rw [firstW_step, hI]
        unfold isL at hW h ⊢
        rw [hW, h]
        simp [nrow, ints]
      refine ⟨h1, ?_⟩
      have h2 := h1.len
      rw [firstW_len] at h2
      rw [hI] at h2 ⊢
      show (ints.app WL W).length ≤ 8
      rw [h2]
      have : (i + 1) * cn ≤ 4 * 2 := Nat.mul_le_mul (by omega) hc2
      omega
    clear g1 hws
    cbv
    refine .go [] [] [] hcall rfl rfl rfl rfl rfl rfl ?_
    rintro v m1 ⟨W, hWW, rfl, rfl⟩
    obtain ⟨h3, h4⟩ := hW2 W hWW
    clear hcall hW2
    cbv
    refine .most (show I.len (I.app WL W) * 8 ≤ 140737488355328 from by omega) (show I.len (I.app WL W) ≤ 140737488355328 from by omega) ?_
    cbv
    exact hnext _ _ (bn - (i + 1)) [0, 2] [] [1, 3, 4] _ _ (by omega) (by decide) rfl rfl rfl ⟨i + 1, _, _, rfl, hz1, hi1, h3, rfl, rfl⟩
  · have hi1 : i = bn := by
      have : ¬ z < qb := by simpa [hI, ints, rCmp] using g1
      unfold isN at hz hbn
      omega
    subst hi1
    cbv
    exact hP _ _ [1] [] _ _ (by decide) rfl rfl rfl rfl rfl ⟨WL, hW, rfl, rfl⟩
set_option maxHeartbeats 4000000 in
theorem ratomic (WL : List (List G)) (ws : List Int) (hW : isL .i64 WL ws) (k a x : Int) (n : Nat) (hn : isN a n) (hnl : n < ws.length) (hk : 1 ≤ k ∧ k ≤ 4) : LValid P 16 [.c (.row 0 1 none), OP.arg ⟨k, a, x⟩] [.sym 1 WL]
    (fun v m1 => ∃ (r : Int) (WL' : List (List G)), r = (stepA ws ⟨k, a, x⟩).1 ∧ isL .i64 WL' (stepA ws ⟨k, a, x⟩).2 ∧ v = i64 r ∧ m1 = [.sym 1 WL']) := by
  refine LValid.syv (R := fun v m1 => ∃ (r : Z) (WL' : List (List G)), r.val = (stepA ws ⟨k, a, x⟩).1 ∧ isL .i64 WL' (stepA ws ⟨k, a, x⟩).2 ∧ v = .one (.c (.g (.int .i64 r))) ∧ m1 = [.sym 1 WL']) ?_ (fun v m1 ⟨r, WL', h1, h2, h3, h4⟩ => ⟨r.val, WL', h1, h2, by rw [h3]; rfl, h4⟩)
  obtain ⟨I, hI⟩ := ref
  obtain ⟨w, hw⟩ : ∃ w, ws[n]? = some w := ⟨_, List.getElem?_eq_getElem hnl⟩
  have hst := stepA_eq hn hw k x
  have hr : WL[n]? = some [.int .i64 (.sym w)] := by rw [hW.get, hw]; rfl
  have hnl2 : n < I.len WL := by rw [hI]; show n < WL.length; rw [hW.len]; exact hnl
  have hset : ∀ (y : Int), isL .i64 (I.set WL n [.int .i64 (.sym y)]) (ws.set n y) := fun y => by
    rw [hI]
    unfold isL at hW ⊢
    rw [hW]
    simp [nrow, ints, List.map_set]
  have hadd : I.bin .add .i64 w x = IntKind.i64.wrap (w + x) := by rw [hI]; rfl
  rw [← hadd] at hst
  have hs2 := hset x
  have hs3 := hset (I.bin .add .i64 w x)
  generalize stepA ws ⟨k, a, x⟩ = sA at hst ⊢
  clear hset hadd hw hnl
  refine fn_sim hI (mo hp) (cc hp c16) fun Post hP => ?_
  cbv
  refine .idx n hn hnl2 (.nth _ hr ?_)
  cbv
  refine .br (fun g1 => ?_) (fun g1 => ?_)
  · have h2 : k = 2 := by simpa [hI, ints, rCmp] using g1
    rw [if_neg (by omega), if_pos h2] at hst
    subst hst
    cbv
    refine .idx n hn hnl2 ?_
    cbv
    refine .nth _ hr ?_
    cbv
    exact hP _ _ [0] [] _ _ (by decide) rfl rfl rfl rfl rfl ⟨.lit 0, _, rfl, hs2, rfl, rfl⟩
  have h2 : ¬ k = 2 := by simpa [hI, ints, rCmp] using g1
  clear g1
  cbv
  refine .br (fun g1 => ?_) (fun g1 => ?_)
  · have h3 : k = 3 := by simpa [hI, ints, rCmp] using g1
    rw [if_neg (by omega), if_neg h2, if_pos h3] at hst
    subst hst
    cbv
    refine .drawn [0] ?_
    cbv
    refine .idx n hn hnl2 ?_
    cbv
    refine .nth _ hr ?_
    cbv
    refine .idx n hn hnl2 ?_
    cbv
    refine .nth _ hr ?_
    cbv
    exact hP _ _ [0] [] _ _ (by decide) rfl rfl rfl rfl rfl ⟨.sym w, _, rfl, hs3, rfl, rfl⟩
  have h3 : ¬ k = 3 := by simpa [hI, ints, rCmp] using g1
  clear g1
  cbv
  refine .br (fun g1 => ?_) (fun g1 => ?_)
  · have h4 : k = 4 := by simpa [hI, ints, rCmp] using g1
    rw [if_neg (by omega), if_neg h2, if_neg h3] at hst
    subst hst
    cbv
    exact hP _ _ [0] [] _ _ (by decide) rfl rfl rfl rfl rfl ⟨.lit 0, WL, rfl, hW, rfl, rfl⟩
  · have h4 : ¬ k = 4 := by simpa [hI, ints, rCmp] using g1
    have h1 : k = 1 := by omega
    rw [if_pos h1] at hst
    subst hst
    cbv
    exact hP _ _ [0] [] _ _ (by decide) rfl rfl rfl rfl rfl ⟨.sym w, WL, rfl, hW, rfl, rfl⟩
set_option maxHeartbeats 20000000 in
theorem does (s1 s2 s3 s4 s5 s6 s7 : Int) (l0 l1 l2 l3 l4 : List (List G)) (xs : List Int) (h0 : isL .i64 l0 xs) (A0 B0 V0 : List (List G)) (as0 bs0 vs0 : List Int) (hA0 : isL .i64 A0 as0) (hB0 : isL .i64 B0 bs0) (hV0 : isL .i64 V0 vs0) : LValid P 4 [.agg [.g (.int .i64 (.sym s1)), .g (.int .i64 (.sym s2)), .g (.int .i64 (.sym s3)), .g (.int .i64 (.sym s4)), .g (.int .i64 (.sym s5)), .g (.int .i64 (.sym s6)), .g (.int .i64 (.sym s7)), .g (.rows 1 l0), .g (.rows 1 l1), .g (.rows 1 l2), .g (.rows 1 l3), .g (.rows 1 l4)], .c (.g (.rows 1 A0)), .c (.g (.rows 1 B0)), .c (.g (.rows 1 V0))] [] (fun v _ => ∃ b : BB, b.val = true ∧ v = .one (.c (.g (.bool b)))) := by
  obtain ⟨I, hI⟩ := ref
  refine fn_sim hI (mo hp) (cc hp c4) fun Post hP => ?_
  cbv
  refine .go [] [] [.bor 1] (configF hp s1 s2 s3 s4 s5 s6 s7 l0 l1 l2 l3 l4 xs h0) rfl rfl rfl rfl rfl rfl ?_
  rintro v m1 ⟨q, L, hq, hL, rfl, rfl⟩
  have hq0 := hq
  have hbc8 := (bc_nat q hq).2
  have hfl : q.first.length = q.b.toNat * q.c.toNat := firstW_len q.ini q.c.toNat q.b.toNat
  have hnew := anew hp q hq L hL
  have hfirst := first_ hp q hq L hL
  have hfst : ∃ f0, f0 = q.first := ⟨_, rfl⟩
  obtain ⟨f0, hf0⟩ := hfst
  rw [← hf0] at hnew hfirst hfl
  obtain ⟨bc, hbce⟩ : ∃ bc, bc = q.b.toNat * q.c.toNat := ⟨_, rfl⟩
  rw [← hbce] at hfl hbc8
  have hdo := fun WL ws h1 (h2 : ws.length = bc) (k a x : Int) => ado hp q hq L WL ws h1 (h2.trans hbce) (.sym k) (.sym a) (.sym x)
  have hor := fun o => opRight hp q hq L o
  have hin : ∀ o, okOp q o = true → (1 ≤ o.k ∧ o.k ≤ 4) ∧ ∃ n : Nat, isN o.a n ∧ n < bc := fun o h => by
    obtain ⟨h1, h2⟩ := okOp_in h
    rw [(bc_nat q hq).1, ← hbce] at h2
    exact ⟨h1, o.a.toNat, by unfold isN; omega, by omega⟩
  have hok9 : ∃ okf : OP → Bool, okf = okOp q := ⟨_, rfl⟩
  obtain ⟨okf, hokf⟩ := hok9
  rw [← hokf] at hdo hor hin
  clear hf0 hokf
  obtain ⟨qa, qb, qc, qd, qe, qf, qg, ini⟩ := q
  cbv
  refine .go [] [] [] hnew rfl rfl rfl rfl rfl rfl ?_
  rintro v m1 ⟨WL0, hW0, rfl, rfl⟩
  clear hnew
  cbv
  refine .go [] [] [.bor 1] hfirst rfl rfl rfl rfl rfl rfl ?_
  rintro v m1 ⟨FL0, hF0, rfl, rfl⟩
  clear hfirst
  cbv
  refine .go [] [] [.bor 1, .bor 1, .bor 1] (playOps hp A0 B0 V0 as0 bs0 vs0 hA0 hB0 hV0 (fun _ => True) trivial (fun _ _ => trivial)) rfl rfl rfl rfl rfl rfl ?_
  rintro v m1 ⟨OL, ops, hO, hol, -, rfl, rfl⟩
  have hOl : I.len OL = ops.length := by rw [hI]; exact hO.len
  have hOn : isN (I.ofNat (I.len OL)) ops.length := by rw [hOl, hI]; rfl
  cbv
  refine .loop_next (fun n ts m => ∃ (i : Nat) (z c : Int) (WL FL : List (List G)) (ws : List Int), n = ops.length - i ∧ isN z i ∧ isN c ops.length ∧ i ≤ ops.length ∧ isL .i64 WL ws ∧ isL .i64 FL ws ∧ ws.length = bc ∧
      ts = fr 65 [(9, .one (.c (.ptr 0 (.lit 0) 8 0))), (10, .one (.c (.ptr 1 (.lit 0) 9 0))), (11, .one (.c (.row 3 1 none))), (27, .one (.c (.row 4 3 none))), (28, i64 c), (29, i64 z)] ∧
      m = [.lit 8 [cfg (.sym qa) (.sym qb) (.sym qc) (.sym qd) (.sym qe) (.sym qf) (.sym qg) (.g (.rows 1 L))], .lit 9 [cfg (.sym qa) (.sym qb) (.sym qc) (.sym qd) (.sym qe) (.sym qf) (.sym qg) (.g (.rows 1 L)) ++ [.row 2 1 none]], .sym 1 WL, .sym 1 FL, .sym 3 OL])
    ops.length _ _ [1, 2, 3, 4, 5] [] [9, 10, 11, 27, 28, 29] (by decide) rfl rfl rfl ⟨0, 0, _, WL0, FL0, f0, rfl, rfl, hOn, Nat.zero_le _, hW0, hF0, hfl, rfl, rfl⟩ ?_
  rintro next n hnext ts m ⟨i, z, c, WL, FL, ws, hn, hz, hc, hi, hW, hF, hwl, rfl, rfl⟩
  cbv
  refine .br (fun g1 => ?_) (fun g1 => ?_)
  · have hi1 : i < ops.length := by
      have : z < c := by simpa [hI, ints, rCmp] using g1
      unfold isN at hz hc
      omega
    have hz1 : isN (I.bin .add .i64 z 1) (i + 1) := by unfold isN at hz ⊢; rw [hI]; simp only [ints, rBin]; rw [wrap_in] <;> omega
    have h9 : ∃ o, ops[i]? = some o := ⟨_, List.getElem?_eq_getElem hi1⟩
    obtain ⟨o, ho⟩ := h9
    have hr := hO.get ho
    have hil : i < I.len OL := by rw [hOl]; exact hi1
    obtain ⟨k, a, x⟩ := o
    have hd := hdo WL ws hW hwl k a x
    have hd : LValid P 10 [.c (.ptr 0 (.lit 0) 9 0), .agg [.g (.int .i64 (.sym k)), .g (.int .i64 (.sym a)), .g (.int .i64 (.sym x))]] [atB ⟨qa, qb, qc, qd, qe, qf, qg, ini⟩ L, .sym 1 WL]
      (fun v m1 => ∃ (e r : Int) (WL' : List (List G)), v = .tup [.c (.g (.int .i64 (.sym r))), .c (.g (.int .i64 (.sym e)))] ∧ m1 = [atB ⟨qa, qb, qc, qd, qe, qf, qg, ini⟩ L, .sym 1 WL'] ∧
        ((okf ⟨k, a, x⟩ = true ∧ e = 0 ∧ r = (stepA ws ⟨k, a, x⟩).1 ∧ isL .i64 WL' (stepA ws ⟨k, a, x⟩).2) ∨ (okf ⟨k, a, x⟩ = false ∧ e = 1 ∧ r = 0 ∧ WL' = WL))) := hd
    have hor := hor ⟨k, a, x⟩
    have hin := hin ⟨k, a, x⟩
    have hat : okf ⟨k, a, x⟩ = true → LValid P 16 [.c (.row 0 1 none), OP.arg ⟨k, a, x⟩] [.sym 1 FL]
        (fun v m1 => ∃ (r : Int) (WL' : List (List G)), r = (stepA ws ⟨k, a, x⟩).1 ∧ isL .i64 WL' (stepA ws ⟨k, a, x⟩).2 ∧ v = i64 r ∧ m1 = [.sym 1 WL']) := fun h => by
      obtain ⟨h1, n, h2, h3⟩ := hin h
      exact ratomic hp FL ws hF k a x n h2 (by rw [hwl]; exact h3) h1
    have hsl := (stepA_len ws ⟨k, a, x⟩).trans hwl
    generalize okf ⟨k, a, x⟩ = ok at hd hor hat
    generalize stepA ws ⟨k, a, x⟩ = sA at hd hat hsl
    obtain ⟨rr, ws2⟩ := sA
    have hsl : ws2.length = bc := hsl
    clear hin g1 ho hdo
    cbv
    refine .idx i hz hil (.nth _ hr ?_)
    cbv
    refine .go [1, 2] [] [] hd rfl rfl rfl rfl rfl rfl ?_
    rintro v m1 ⟨e, r, WL2, rfl, rfl, hres⟩
    clear hd
    cbv
    refine .go [] [] [.bor 1] hor rfl rfl rfl rfl rfl rfl ?_
    rintro v m1 ⟨t, ht, rfl, rfl⟩
    clear hor
    rcases hres with ⟨hk, he, hrr, hW2⟩ | ⟨hk, he, hrr, hW2⟩
    · have hat := hat hk
      have hrr : r = rr := hrr
      have hW2 : isL .i64 WL2 ws2 := hW2
      have hl1 : WL2.length ≤ 1000 := by rw [hW2.len, hsl]; omega
      cbv
      refine br_f (show I.not t = false from by rw [ht, hk, hI]; rfl) ?_
      cbv
      refine br_f (show I.cmp .neq e 0 = false from by rw [he, hI]; rfl) ?_
      cbv
      refine .go [3] [] [] hat rfl rfl rfl rfl rfl rfl ?_
      rintro v m1 ⟨r2, FL2, hr2, hF2, rfl, rfl⟩
      have hr2 : r2 = rr := hr2
      have hF2 : isL .i64 FL2 ws2 := hF2
      have hsm := same hp WL2 FL2 ws2 ws2 hW2 hF2 (by omega)
      clear hat
      cbv
      refine br_f (show I.cmp .neq r r2 = false from by rw [hrr, hr2, hI]; show (rr != rr) = false; simp) ?_
      cbv
      refine .go [1, 2] [] [] (awords hp ⟨qa, qb, qc, qd, qe, qf, qg, ini⟩ L WL2 hl1) rfl rfl rfl rfl rfl rfl ?_
      rintro v m1 ⟨rfl, rfl⟩
      cbv
      refine .go [] [] [.bor 1, .bor 1] hsm rfl rfl rfl rfl rfl rfl ?_
      rintro v m1 ⟨t3, ht3, rfl, rfl⟩
      have ht3 : t3 = true := by rw [ht3]; simp
      clear hsm
      cbv
      refine br_f (show I.not t3 = false from by rw [ht3, hI]; rfl) ?_
      cbv
      exact hnext _ _ (ops.length - (i + 1)) [0, 1, 2, 3, 4] [] [9, 10, 11, 27, 28, 29] _ _ (by omega) (by decide) rfl rfl rfl ⟨i + 1, _, c, WL2, FL2, ws2, rfl, hz1, hc, hi1, hW2, hF2, hsl, rfl, rfl⟩
    · subst hW2
      have hl1 : WL2.length ≤ 1000 := by rw [hW.len, hwl]; omega
      have hsm := same hp WL2 FL ws ws hW hF (by omega)
      clear hat
      cbv
      refine br_t (show I.not t = true from by rw [ht, hk, hI]; rfl) ?_
      cbv
      refine br_f (show I.cmp .neq e 1 = false from by rw [he, hI]; rfl) ?_
      cbv
      refine br_f (show I.cmp .neq r 0 = false from by rw [hrr, hI]; rfl) ?_
      cbv
      refine .go [1, 2] [] [] (awords hp ⟨qa, qb, qc, qd, qe, qf, qg, ini⟩ L WL2 hl1) rfl rfl rfl rfl rfl rfl ?_
      rintro v m1 ⟨rfl, rfl⟩
      cbv
      refine .go [] [] [.bor 1, .bor 1] hsm rfl rfl rfl rfl rfl rfl ?_
      rintro v m1 ⟨t3, ht3, rfl, rfl⟩
      have ht3 : t3 = true := by rw [ht3]; simp
      clear hsm
      cbv
      refine br_f (show I.not t3 = false from by rw [ht3, hI]; rfl) ?_
      cbv
      exact hnext _ _ (ops.length - (i + 1)) [0, 1, 2, 3, 4] [] [9, 10, 11, 27, 28, 29] _ _ (by omega) (by decide) rfl rfl rfl ⟨i + 1, _, c, WL2, FL, ws, rfl, hz1, hc, hi1, hW, hF, hwl, rfl, rfl⟩
  · cbv
    refine .go [] [] [] (wakes23 hp) rfl rfl rfl rfl rfl rfl ?_
    rintro v m1 ⟨rfl, rfl⟩
    cbv
    exact hP _ _ [] [] _ _ .nil rfl rfl rfl rfl rfl ⟨_, rfl, rfl⟩
end
end Go.Proofs.Ytfoookmblfcmhaa.E
