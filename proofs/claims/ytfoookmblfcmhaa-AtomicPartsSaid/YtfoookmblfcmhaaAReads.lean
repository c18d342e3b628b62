/- AtomicReads. -/
import Derived.Test.YtfoookmblfcmhaaAF
namespace Go.Proofs.Ytfoookmblfcmhaa.E
open Go
set_option linter.unusedVariables false
set_option maxRecDepth 100000

theorem stepA_eq {ws : List Int} {y : Int} {n : Nat} {w : Int} (hy : isN y n) (hw : ws[n]? = some w) (k x : Int) : stepA ws ⟨k, y, x⟩ = if k = 1 then (w, ws) else if k = 2 then (0, ws.set n x) else if k = 3 then (w, ws.set n (IntKind.i64.wrap (w + x))) else (0, ws) := by
  unfold isN at hy
  have e : y.toNat = n := by omega
  unfold stepA
  show (if k = 1 then ((ws[y.toNat]?).getD 0, ws) else if k = 2 then (0, ws.set y.toNat x) else if k = 3 then ((ws[y.toNat]?).getD 0, ws.set y.toNat (IntKind.i64.wrap ((ws[y.toNat]?).getD 0 + x))) else (0, ws)) = _
  rw [e, hw]
  rfl
theorem okOp_mk (q : CF) (hq : q.ok) (k y x : Int) (n : Nat) (hy : isN y n) (hn : n < q.b.toNat * q.c.toNat) (h1 : 1 ≤ k) (h4 : k ≤ 4) (hx : x = 0 ∨ k = 2 ∨ k = 3) : okOp q ⟨k, y, x⟩ = true := by
  unfold isN at hy
  obtain ⟨e, _⟩ := bc_nat q hq
  unfold okOp
  show (decide (1 ≤ k) && decide (k ≤ 4) && decide (0 ≤ y ∧ y < q.b * q.c) && (x == 0 || k == 2 || k == 3)) = true
  rw [decide_eq_true h1, decide_eq_true h4, decide_eq_true (⟨by omega, by rw [e]; omega⟩ : 0 ≤ y ∧ y < q.b * q.c)]
  rcases hx with rfl | rfl | rfl <;> simp
section
variable {P : Program} (hp : P = Try.prog)
include hp
/-- An operation that may be. -/
theorem ado2 (q : CF) (hq : q.ok) (L WL : List (List G)) (ws : List Int) (hW : isL .i64 WL ws) (hwl : ws.length = q.b.toNat * q.c.toNat) (n : Nat) (y : Int) (hy : isN y n) (hn : n < ws.length) (zk zx : Z) (h1 : 1 ≤ zk.val) (h4 : zk.val ≤ 4) (hx : zx.val = 0 ∨ zk.val = 2 ∨ zk.val = 3) :
    LValid P 10 [.c (.ptr 0 (.lit 0) 9 0), .agg [.g (.int .i64 zk), .g (.int .i64 (.sym y)), .g (.int .i64 zx)]] [atB q L, .sym 1 WL]
    (fun v m1 => ∃ (e r : Int) (WL' : List (List G)), v = .tup [.c (.g (.int .i64 (.sym r))), .c (.g (.int .i64 (.sym e)))] ∧ m1 = [atB q L, .sym 1 WL'] ∧ e = 0 ∧ r = (stepA ws ⟨zk.val, y, zx.val⟩).1 ∧ isL .i64 WL' (stepA ws ⟨zk.val, y, zx.val⟩).2) :=
  (ado hp q hq L WL ws hW hwl zk (.sym y) zx).mono fun v m1 ⟨e, r, WL', g1, g2, g3⟩ => ⟨e, r, WL', g1, g2, by
    rcases g3 with ⟨_, g4, g5, g6⟩ | ⟨g4, _⟩
    · exact ⟨g4, g5, g6⟩
    · rw [show (Z.sym y).val = y from rfl, okOp_mk q hq _ _ _ n hy (by rw [← hwl]; exact hn) h1 h4 hx] at g4
      cases g4⟩
set_option maxHeartbeats 4000000 in
theorem wakes23 : LValid P 13 [] [] (fun v m1 => v = boo true ∧ m1 = []) := by
  refine LValid.boo ?_
  obtain ⟨I, hI⟩ := ref
  have hq : CF.ok ⟨1, 1, 1, 1, 1, 1, 1, [4]⟩ := ⟨⟨by decide, by decide⟩, ⟨by decide, by decide⟩, ⟨by decide, by decide⟩, ⟨by decide, by decide⟩, ⟨by decide, by decide⟩⟩
  have hps : isPs [[.rows 3 [OP.row ⟨1, 0, 0⟩]]] [[⟨1, 0, 0⟩]] := ⟨rfl, fun i ops h => by
    match i, h with
    | 0, h => cases h; exact ⟨_, rfl, .inl ⟨_, rfl, rfl⟩⟩
    | i + 1, h => simp at h⟩
  have hlen : ∀ ops ∈ ([[⟨1, 0, 0⟩]] : List (List OP)), ops.length ≤ 1000000 := fun ops h => by
    rw [List.mem_singleton] at h
    rw [h]
    decide
  have hl := fun EL es h1 h2 => legal hp ⟨1, 1, 1, 1, 1, 1, 1, [4]⟩ hq [[.int .i64 (.sym 4)]] rfl _ _ hps (by decide) hlen EL es h1 h2
  have e1 : (legalF ⟨1, 1, 1, 1, 1, 1, 1, [4]⟩ [[⟨1, 0, 0⟩]] []).isSome = true := by decide
  have e2 : (legalF ⟨1, 1, 1, 1, 1, 1, 1, [4]⟩ [[⟨1, 0, 0⟩]] [⟨0, 0, false, 0⟩, ⟨0, 0, true, 4⟩]).isSome = true := by decide
  have e3 : (legalF ⟨1, 1, 1, 1, 1, 1, 1, [4]⟩ [[⟨1, 0, 0⟩]] [⟨0, 0, false, 0⟩, ⟨0, 0, true, 5⟩]).isSome = false := by decide
  refine fn_sim hI (mo hp) (cc hp c13) fun Post hP => ?_
  cbv
  refine .go [] [] [.keep, .bor 1, .bor 4] (show LValid P 19 [.agg (cfg (.lit 1) (.lit 1) (.lit 1) (.lit 1) (.lit 1) (.lit 1) (.lit 1) (.g (.rows 1 [[.int .i64 (.sym 4)]]))), .c (.bor 1 [[.rows 3 [OP.row ⟨1, 0, 0⟩]]]), .c (.bor 4 [])] [] _ from LValid.sy (hl [] [] rfl (by decide))) rfl rfl rfl rfl rfl rfl ?_
  rintro v m1 ⟨t, ht, rfl, rfl⟩
  cbv
  refine br_t (ht.trans e1) ?_
  cbv
  refine .go [] [] [.keep, .bor 1, .bor 4] (show LValid P 19 [.agg (cfg (.lit 1) (.lit 1) (.lit 1) (.lit 1) (.lit 1) (.lit 1) (.lit 1) (.g (.rows 1 [[.int .i64 (.sym 4)]]))), .c (.bor 1 [[.rows 3 [OP.row ⟨1, 0, 0⟩]]]), .c (.bor 4 [EV.row ⟨0, 0, false, 0⟩, EV.row ⟨0, 0, true, 4⟩])] [] _ from LValid.sy (hl _ [⟨0, 0, false, 0⟩, ⟨0, 0, true, 4⟩] rfl (by decide))) rfl rfl rfl rfl rfl rfl ?_
  rintro v m1 ⟨t2, ht2, rfl, rfl⟩
  cbv
  refine br_t (ht2.trans e2) ?_
  cbv
  refine .go [] [] [.keep, .bor 1, .bor 4] (show LValid P 19 [.agg (cfg (.lit 1) (.lit 1) (.lit 1) (.lit 1) (.lit 1) (.lit 1) (.lit 1) (.g (.rows 1 [[.int .i64 (.sym 4)]]))), .c (.bor 1 [[.rows 3 [OP.row ⟨1, 0, 0⟩]]]), .c (.bor 4 [EV.row ⟨0, 0, false, 0⟩, EV.row ⟨0, 0, true, 5⟩])] [] _ from LValid.sy (hl _ [⟨0, 0, false, 0⟩, ⟨0, 0, true, 5⟩] rfl (by decide))) rfl rfl rfl rfl rfl rfl ?_
  rintro v m1 ⟨t3, ht3, rfl, rfl⟩
  have h3 : I.not t3 = true := by rw [ht3.trans e3, hI]; rfl
  clear ht3 e3
  cbv
  exact hP _ _ [] [] _ _ .nil rfl rfl rfl rfl rfl ⟨_, rfl, h3, rfl⟩
set_option maxHeartbeats 20000000 in
theorem reads (s1 s2 s3 s4 s5 s6 s7 a0 : Int) (l0 l1 l2 l3 l4 : List (List G)) (xs : List Int) (h0 : isL .i64 l0 xs) (V0 : List (List G)) (vs0 : List Int) (hV0 : isL .i64 V0 vs0) (hV8 : vs0.length * 8 ≤ 140737488355328) : LValid P 5 [.agg [.g (.int .i64 (.sym s1)), .g (.int .i64 (.sym s2)), .g (.int .i64 (.sym s3)), .g (.int .i64 (.sym s4)), .g (.int .i64 (.sym s5)), .g (.int .i64 (.sym s6)), .g (.int .i64 (.sym s7)), .g (.rows 1 l0), .g (.rows 1 l1), .g (.rows 1 l2), .g (.rows 1 l3), .g (.rows 1 l4)], gi .i64 a0, .c (.g (.rows 1 V0))] [] (fun v _ => ∃ b : BB, b.val = true ∧ v = .one (.c (.g (.bool b)))) := by
  obtain ⟨I, hI⟩ := ref
  refine fn_sim hI (mo hp) (cc hp c5) fun Post hP => ?_
  cbv
  refine .go [] [] [.bor 1] (configF hp s1 s2 s3 s4 s5 s6 s7 l0 l1 l2 l3 l4 xs h0) rfl rfl rfl rfl rfl rfl ?_
  rintro v m1 ⟨q, L, hq, hL, rfl, rfl⟩
  have hq0 := hq
  have hbc := bc_nat q hq
  have hbcp : 1 ≤ q.b.toNat * q.c.toNat := Nat.mul_pos (by have := hq.hb; omega) (by have := hq.hc; omega)
  have hfl : q.first.length = q.b.toNat * q.c.toNat := firstW_len q.ini q.c.toNat q.b.toNat
  have hwr : IntKind.i64.wrap (q.b * q.c) = q.b * q.c := by rw [hbc.1]; rw [wrap_in] <;> omega
  obtain ⟨bc, hbce⟩ : ∃ bc, bc = q.b.toNat * q.c.toNat := ⟨_, rfl⟩
  have hmulN : isN (I.bin .mul .i64 q.b q.c) bc := by unfold isN; rw [hbce, ← hbc.1, hI]; exact hwr
  rw [← hbce] at hfl hbcp
  have hbc8 : bc ≤ 8 := by rw [hbce]; exact hbc.2
  have hfst : ∃ f0, f0 = q.first := ⟨_, rfl⟩
  obtain ⟨f0, hf0⟩ := hfst
  have hnew := anew hp q hq L hL
  rw [← hf0] at hnew hfl
  clear hf0 hwr hbc
  obtain ⟨qa, qb, qc, qd, qe, qf, qg, ini⟩ := q
  cbv
  refine .go [] [] [] hnew rfl rfl rfl rfl rfl rfl ?_
  rintro v m1 ⟨WL0, hW0, rfl, rfl⟩
  clear hnew
  cbv
  refine .go [] [] [] (within hp _ _) rfl rfl rfl rfl rfl rfl ?_
  rintro r m1 ⟨y, hy, rfl, rfl⟩
  have h9 : ∃ n : Nat, isN y n ∧ n < bc := by
    have hy : y = win a0 (I.bin .mul .i64 qb qc) := hy
    have hm : I.bin .mul .i64 qb qc = (bc : Int) := hmulN
    rw [hm] at hy
    have := win_in a0 (bc : Int) (by omega) (by omega)
    rw [← hy] at this
    exact ⟨y.toNat, by unfold isN; omega, by omega⟩
  obtain ⟨n, hyn, hnb⟩ := h9
  clear hy
  have h9 : ∃ w0, f0[n]? = some w0 := ⟨_, List.getElem?_eq_getElem (by rw [hfl]; exact hnb)⟩
  obtain ⟨w0, hw0⟩ := h9
  have hd1 := ado2 hp ⟨qa, qb, qc, qd, qe, qf, qg, ini⟩ hq0 L WL0 f0 hW0 (by rw [hfl, hbce]) n y hyn (by rw [hfl]; exact hnb) (.lit 1) (.lit 0) (by decide) (by decide) (.inl rfl)
  rw [show (stepA f0 ⟨(Z.lit 1).val, y, (Z.lit 0).val⟩) = (w0, f0) from stepA_eq hyn hw0 1 0] at hd1
  cbv
  refine .go [2, 3] [] [] hd1 rfl rfl rfl rfl rfl rfl ?_
  rintro v m1 ⟨e1, r1, WL1, rfl, rfl, he1, hr1, hW1⟩
  have hr1 : r1 = w0 := hr1
  subst hr1
  have hW1 : isL .i64 WL1 f0 := hW1
  have hl1 : WL1.length ≤ 1000 := by rw [hW1.len]; omega
  clear hd1 hW0
  cbv
  refine br_f (show I.cmp .neq e1 0 = false from by rw [he1, hI]; rfl) ?_
  cbv
  refine .go [2, 3] [] [] (awords hp ⟨qa, qb, qc, qd, qe, qf, qg, ini⟩ L WL1 hl1) rfl rfl rfl rfl rfl rfl ?_
  rintro v m1 ⟨rfl, rfl⟩
  clear he1
  cbv
  refine .go [] [] [.bor 1] (cut hp V0 (.lit 10) 10 rfl (by rw [hV0.len]; exact hV8)) rfl rfl rfl rfl rfl rfl ?_
  rintro v m1 ⟨V, hVe, rfl, rfl⟩
  have h9 : ∃ vs, isL .i64 V vs := ⟨vs0.take 10, by unfold isL at hV0 ⊢; rw [hVe, hV0]; simp [nrow, List.map_take]⟩
  obtain ⟨vs, hV⟩ := h9
  have hvl : vs.length ≤ 10 := by rw [← hV.len, hVe, List.length_take]; omega
  have hVl : I.len V = vs.length := by rw [hI]; exact hV.len
  have hVn : isN (I.ofNat (I.len V)) vs.length := by rw [hVl, hI]; rfl
  clear hVe
  cbv
  refine .loop_next (fun k ts m => ∃ (j : Nat) (z c : Int) (WL : List (List G)) (ws : List Int) (was : Int), k = vs.length - j ∧ isN z j ∧ isN c vs.length ∧ j ≤ vs.length ∧ isL .i64 WL ws ∧ ws.length = bc ∧ ws[n]? = some was ∧ (∀ i, i ≠ n → ws[i]? = f0[i]?) ∧
      ts = fr 166 [(1, i64 y), (7, .one (.c (.ptr 0 (.lit 0) 8 0))), (8, .one (.c (.ptr 1 (.lit 0) 9 0))), (9, i64 was), (11, .one (.c (.row 3 1 none))), (51, .one (.c (.row 4 1 none))), (52, i64 c), (53, i64 z)] ∧ m = [.lit 8 [cfg (.sym qa) (.sym qb) (.sym qc) (.sym qd) (.sym qe) (.sym qf) (.sym qg) (.g (.rows 1 L))], .lit 9 [cfg (.sym qa) (.sym qb) (.sym qc) (.sym qd) (.sym qe) (.sym qf) (.sym qg) (.g (.rows 1 L)) ++ [.row 2 1 none]], .sym 1 WL, .sym 1 WL1, .sym 1 V])
    vs.length _ _ [1, 2, 3, 4, 5] [] [1, 7, 8, 9, 11, 51, 52, 53] (by decide) rfl rfl rfl ⟨0, 0, _, WL1, f0, r1, rfl, rfl, hVn, Nat.zero_le _, hW1, hfl, hw0, fun i _ => rfl, rfl, rfl⟩ ?_
  rintro next k hnext ts m ⟨j, z, c, WL, ws, was, hk, hz, hc, hj, hW, hwl, hws, hoth, rfl, rfl⟩
  cbv
  refine .br (fun g1 => ?_) (fun g1 => ?_)
  · have hj1 : j < vs.length := by
      have : z < c := by simpa [hI, ints, rCmp] using g1
      unfold isN at hz hc
      omega
    have hz1 : isN (I.bin .add .i64 z 1) (j + 1) := by unfold isN at hz ⊢; rw [hI]; simp only [ints, rBin]; rw [wrap_in] <;> omega
    have h9 : ∃ x, vs[j]? = some x := ⟨_, List.getElem?_eq_getElem hj1⟩
    obtain ⟨x, hx⟩ := h9
    have hr : V[j]? = some [.int .i64 (.sym x)] := by rw [hV.get, hx]; rfl
    have hjl : j < I.len V := by rw [hVl]; exact hj1
    have hnl : n < ws.length := by rw [hwl]; exact hnb
    have hbq : ws.length = qb.toNat * qc.toNat := hwl.trans hbce
    -- added
    have hd1 := ado2 hp ⟨qa, qb, qc, qd, qe, qf, qg, ini⟩ hq0 L WL ws hW hbq n y hyn hnl (.lit 3) (.sym x) (by decide) (by decide) (.inr (.inr rfl))
    rw [show (stepA ws ⟨(Z.lit 3).val, y, (Z.sym x).val⟩) = (was, ws.set n (IntKind.i64.wrap (was + x))) from stepA_eq hyn hws 3 x] at hd1
    have hws2 : (ws.set n (IntKind.i64.wrap (was + x)))[n]? = some (IntKind.i64.wrap (was + x)) := by rw [List.getElem?_set]; simp [hnl]
    have hwl2 : (ws.set n (IntKind.i64.wrap (was + x))).length = ws.length := by simp
    have hset2 : (ws.set n (IntKind.i64.wrap (was + x))).set n x = ws.set n x := List.set_set ..
    have hd2 := fun WL' (h : isL .i64 WL' (ws.set n (IntKind.i64.wrap (was + x)))) => ado2 hp ⟨qa, qb, qc, qd, qe, qf, qg, ini⟩ hq0 L WL' _ h (by rw [hwl2]; exact hbq) n y hyn (by rw [hwl2]; exact hnl) (.lit 1) (.lit 0) (by decide) (by decide) (.inl rfl)
    rw [show (stepA (ws.set n (IntKind.i64.wrap (was + x))) ⟨(Z.lit 1).val, y, (Z.lit 0).val⟩) = (IntKind.i64.wrap (was + x), ws.set n (IntKind.i64.wrap (was + x))) from stepA_eq hyn hws2 1 0] at hd2
    have hd3 := fun WL' (h : isL .i64 WL' (ws.set n (IntKind.i64.wrap (was + x)))) => ado2 hp ⟨qa, qb, qc, qd, qe, qf, qg, ini⟩ hq0 L WL' _ h (by rw [hwl2]; exact hbq) n y hyn (by rw [hwl2]; exact hnl) (.lit 2) (.sym x) (by decide) (by decide) (.inr (.inl rfl))
    rw [show (stepA (ws.set n (IntKind.i64.wrap (was + x))) ⟨(Z.lit 2).val, y, (Z.sym x).val⟩) = (0, ws.set n x) from (stepA_eq hyn hws2 2 x).trans (by rw [if_neg (by decide), if_pos rfl, hset2])] at hd3
    have hws4 : (ws.set n x)[n]? = some x := by rw [List.getElem?_set]; simp [hnl]
    have hwl4 : (ws.set n x).length = ws.length := by simp
    have hoth4 : ∀ i, i ≠ n → (ws.set n x)[i]? = f0[i]? := fun i hi => by rw [List.getElem?_set, if_neg (fun e => hi e.symm)]; exact hoth i hi
    have hd4 := fun WL' (h : isL .i64 WL' (ws.set n x)) => ado2 hp ⟨qa, qb, qc, qd, qe, qf, qg, ini⟩ hq0 L WL' _ h (by rw [hwl4]; exact hbq) n y hyn (by rw [hwl4]; exact hnl) (.lit 4) (.lit 0) (by decide) (by decide) (.inl rfl)
    rw [show (stepA (ws.set n x) ⟨(Z.lit 4).val, y, (Z.lit 0).val⟩) = (0, ws.set n x) from (stepA_eq hyn hws4 4 0).trans (by rw [if_neg (by decide), if_neg (by decide), if_neg (by decide)])] at hd4
    have hd5 := fun WL' (h : isL .i64 WL' (ws.set n x)) => ado2 hp ⟨qa, qb, qc, qd, qe, qf, qg, ini⟩ hq0 L WL' _ h (by rw [hwl4]; exact hbq) n y hyn (by rw [hwl4]; exact hnl) (.lit 1) (.lit 0) (by decide) (by decide) (.inl rfl)
    rw [show (stepA (ws.set n x) ⟨(Z.lit 1).val, y, (Z.lit 0).val⟩) = (x, ws.set n x) from stepA_eq hyn hws4 1 0] at hd5
    have hwl4 : (ws.set n x).length = bc := hwl4.trans hwl
    have hadd : I.bin .add .i64 was x = IntKind.i64.wrap (was + x) := by rw [hI]; rfl
    rw [← hadd] at hd1 hd2 hd3
    generalize ws.set n (I.bin .add .i64 was x) = wsB at hd1 hd2 hd3
    generalize ws.set n x = wsC at hd3 hd4 hd5 hws4 hwl4 hoth4
    clear g1 hx hbq hws2 hwl2 hset2 hadd hW hwl hws hoth
    cbv
    refine .idx j hz hjl (.nth _ hr ?_)
    cbv
    refine .go [1, 2] [] [] hd1 rfl rfl rfl rfl rfl rfl ?_
    rintro v m1 ⟨e1, r1, WA, rfl, rfl, he1, hr1, hWA⟩
    have hd2 := hd2 WA hWA
    clear hd1
    cbv
    refine .go [1, 2] [] [] hd2 rfl rfl rfl rfl rfl rfl ?_
    rintro v m1 ⟨e2, r2, WB, rfl, rfl, he2, hr2, hWB⟩
    have hd3 := hd3 WB hWB
    clear hd2
    cbv
    refine .go [1, 2] [] [] hd3 rfl rfl rfl rfl rfl rfl ?_
    rintro v m1 ⟨e3, r3, WC, rfl, rfl, he3, hr3, hWC⟩
    have hd4 := hd4 WC hWC
    clear hd3
    cbv
    refine .go [1, 2] [] [] hd4 rfl rfl rfl rfl rfl rfl ?_
    rintro v m1 ⟨e4, r4, WD, rfl, rfl, he4, hr4, hWD⟩
    have hd5 := hd5 WD hWD
    clear hd4
    cbv
    refine .go [1, 2] [] [] hd5 rfl rfl rfl rfl rfl rfl ?_
    rintro v m1 ⟨e5, r5, WE, rfl, rfl, he5, hr5, hWE⟩
    have hr1 : r1 = was := hr1
    have hr2 : r2 = I.bin .add .i64 was x := hr2
    have hr3 : r3 = 0 := hr3
    have hr4 : r4 = 0 := hr4
    have hr5 : r5 = x := hr5
    have hWE : isL .i64 WE wsC := hWE
    have hne : ∀ a b : Int, a = b → I.cmp .neq a b = false := fun a b h => by rw [h, hI]; show (b != b) = false; simp
    clear hd5 he1 he2 he3 he4 he5
    cbv
    refine br_f (hne _ _ hr1) ?_
    cbv
    refine br_f (hne _ _ hr2) ?_
    cbv
    refine br_f (hne _ _ hr3) ?_
    cbv
    refine br_f (hne _ _ hr4) ?_
    cbv
    refine br_f (hne _ _ hr5) ?_
    cbv
    exact hnext _ _ (vs.length - (j + 1)) [0, 1, 2, 3, 4] [] [1, 7, 8, 9, 11, 51, 52, 53] _ _ (by omega) (by decide) rfl rfl rfl ⟨j + 1, _, c, WE, wsC, x, rfl, hz1, hc, hj1, hWE, hwl4, hws4, hoth4, rfl, rfl⟩
  · have hl2 : WL.length ≤ 1000 := by rw [hW.len, hwl]; omega
    have hWl : I.len WL = bc := by rw [hI]; exact hW.len.trans hwl
    have hOl : I.len WL1 = bc := by rw [hI]; exact hW1.len.trans hfl
    have hWn : isN (I.ofNat (I.len WL)) bc := by rw [hWl, hI]; rfl
    have hnl : n < ws.length := by rw [hwl]; exact hnb
    clear hnext g1 hz hc hj hk
    cbv
    refine .go [1, 2] [] [] (awords hp ⟨qa, qb, qc, qd, qe, qf, qg, ini⟩ L WL hl2) rfl rfl rfl rfl rfl rfl ?_
    rintro v m1 ⟨rfl, rfl⟩
    cbv
    refine .loop_next (fun k ts m => ∃ (i : Nat) (z2 c2 : Int), k = bc - i ∧ isN z2 i ∧ isN c2 bc ∧ i ≤ bc ∧ ts = fr 166 [(1, i64 y), (7, .one (.c (.ptr 0 (.lit 0) 8 0))), (9, i64 was), (11, .one (.c (.row 1 1 none))), (24, .one (.c (.row 2 1 none))), (122, i64 c2), (123, i64 z2)] ∧ m = [.lit 8 [cfg (.sym qa) (.sym qb) (.sym qc) (.sym qd) (.sym qe) (.sym qf) (.sym qg) (.g (.rows 1 L))], .sym 1 WL1, .sym 1 WL])
      bc _ _ [0, 3, 5] [] [1, 7, 9, 11, 24, 122, 123] (by decide) rfl rfl rfl ⟨0, 0, _, rfl, rfl, hWn, Nat.zero_le _, rfl, rfl⟩ ?_
    rintro next2 k2 hnext2 ts m ⟨i, z2, c2, hk2, hz2, hc2, hi, rfl, rfl⟩
    cbv
    refine .br (fun g2 => ?_) (fun g2 => ?_)
    · have hi1 : i < bc := by
        have : z2 < c2 := by simpa [hI, ints, rCmp] using g2
        unfold isN at hz2 hc2
        omega
      have hz21 : isN (I.bin .add .i64 z2 1) (i + 1) := by unfold isN at hz2 ⊢; rw [hI]; simp only [ints, rBin]; rw [wrap_in] <;> omega
      have hge : I.cmp .geq z2 (I.ofNat (I.len WL1)) = false := by
        unfold isN at hz2
        rw [hOl, hz2, hI]
        show decide ((i : Int) ≥ (bc : Int)) = false
        exact decide_eq_false (by omega)
      have hne : ∀ t, I.cmp .neq z2 y = t → decide (i = n) = !t := fun t h => by
        unfold isN at hz2 hyn
        rw [hz2, hyn, hI] at h
        have h : ((i : Int) != (n : Int)) = t := h
        rw [← h]
        by_cases hh : i = n
        · subst hh; simp
        · have : ((i : Int) != (n : Int)) = true := by simp; omega
          rw [this, decide_eq_false hh]
          rfl
      have h9 : ∃ x1, ws[i]? = some x1 := ⟨_, List.getElem?_eq_getElem (by rw [hwl]; exact hi1)⟩
      obtain ⟨x1, hx1⟩ := h9
      have h9 : ∃ x2, f0[i]? = some x2 := ⟨_, List.getElem?_eq_getElem (by rw [hfl]; exact hi1)⟩
      obtain ⟨x2, hx2⟩ := h9
      have hr1 : WL[i]? = some [.int .i64 (.sym x1)] := by rw [hW.get, hx1]; rfl
      have hr2 : WL1[i]? = some [.int .i64 (.sym x2)] := by rw [hW1.get, hx2]; rfl
      have hl1i : i < I.len WL := by rw [hWl]; exact hi1
      have hl2i : i < I.len WL1 := by rw [hOl]; exact hi1
      have hsame : i ≠ n → I.cmp .neq x1 x2 = false := fun h => by
        have e := hoth i h
        rw [hx1, hx2] at e
        rw [Option.some.inj e, hI]
        show (x2 != x2) = false
        simp
      clear g2 hx1 hx2
      cbv
      refine .drawn [] ?_
      cbv
      refine br_f hge ?_
      cbv
      refine .br (fun g3 => ?_) (fun g3 => ?_)
      · have h3 := hsame (of_decide_eq_false (hne _ g3))
        clear hsame hne g3
        cbv
        refine .idx i hz2 hl1i (.nth _ hr1 ?_)
        cbv
        refine .idx i hz2 hl2i (.nth _ hr2 ?_)
        cbv
        refine br_f h3 ?_
        cbv
        exact hnext2 _ _ (bc - (i + 1)) [0, 1, 2] [] [1, 7, 9, 11, 24, 122, 123] _ _ (by omega) (by decide) rfl rfl rfl ⟨i + 1, _, c2, rfl, hz21, hc2, hi1, rfl, rfl⟩
      · clear hsame hne g3
        cbv
        exact hnext2 _ _ (bc - (i + 1)) [0, 1, 2] [] [1, 7, 9, 11, 24, 122, 123] _ _ (by omega) (by decide) rfl rfl rfl ⟨i + 1, _, c2, rfl, hz21, hc2, hi1, rfl, rfl⟩
    · have hln : I.cmp .eql (I.ofNat (I.len WL)) (I.bin .mul .i64 qb qc) = true := by
        have hm : I.bin .mul .i64 qb qc = (bc : Int) := hmulN
        rw [hm, hWl, hI]
        show (((bc : Nat) : Int) == (bc : Int)) = true
        simp
      have hrn : WL[n]? = some [.int .i64 (.sym was)] := by rw [hW.get, hws]; rfl
      have hnlw : n < I.len WL := by rw [hWl]; exact hnb
      clear hnext2 g2
      cbv
      refine br_t hln ?_
      cbv
      refine .idx n hyn hnlw (.nth _ hrn ?_)
      cbv
      refine br_t (show I.cmp .eql was was = true from by rw [hI]; show (was == was) = true; simp) ?_
      cbv
      refine .go [] [] [] (wakes23 hp) rfl rfl rfl rfl rfl rfl ?_
      rintro v m1 ⟨rfl, rfl⟩
      cbv
      exact hP _ _ [] [] _ _ .nil rfl rfl rfl rfl rfl ⟨_, rfl, rfl⟩
end
end Go.Proofs.Ytfoookmblfcmhaa.E
