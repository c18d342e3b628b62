/- Contracts for FabricBounds, packed: H2 N2 FWk2 B1 B2 H3 N3 B3. -/
import Derived.Test.YtofdnnjkfpomcaaZFabricBounds6
/- The network of 2 nodes: contracts told by lists of packets. -/
namespace Go.Proofs.Ytofdnnjkfpomcaa.E
open Go
set_option linter.unusedVariables false
set_option maxRecDepth 100000
theorem lets2 {P : Program} {f : FuncId} {args : List V1} {m : Mem} {o i : Int} {Q : A → List (List PK) → Prop} (h : LValid P f args m (fun v m1 => ∃ (Ms : List (List (List G))) (ps' : List (List PK)), Ms.length = 8 ∧ Q v ps' ∧ FIs 2 o i 0 Ms ps' ∧ m1 = fabU o i 2 Ms)) :
  LValid P f args m (fun v m1 => ∃ (M0 M1 M2 M3 M4 M5 M6 M7 : List (List G)) (ps' : List (List PK)), Q v ps' ∧ FIs 2 o i 0 [M0, M1, M2, M3, M4, M5, M6, M7] ps' ∧ m1 = fabU o i 2 [M0, M1, M2, M3, M4, M5, M6, M7]) :=
 h.mono fun v m1 ⟨Ms, ps', h1⟩ => by
  have hl := h1.1
  obtain ⟨M0, N0, rfl, q0⟩ := cons_len hl
  obtain ⟨M1, N1, rfl, q1⟩ := cons_len q0
  obtain ⟨M2, N2, rfl, q2⟩ := cons_len q1
  obtain ⟨M3, N3, rfl, q3⟩ := cons_len q2
  obtain ⟨M4, N4, rfl, q4⟩ := cons_len q3
  obtain ⟨M5, N5, rfl, q5⟩ := cons_len q4
  obtain ⟨M6, N6, rfl, q6⟩ := cons_len q5
  obtain ⟨M7, N7, rfl, q7⟩ := cons_len q6
  obtain rfl := List.length_eq_zero_iff.1 q7
  exact ⟨M0, M1, M2, M3, M4, M5, M6, M7, ps', h1.2⟩
set_option maxHeartbeats 64000000 in
theorem up2 {P : Program} {f : FuncId} {args : List V1} {o i : Int} {L0 L1 L2 L3 L4 L5 L6 L7 : List (List G)} {Q : A → List (List PK) → Prop} (hQ : ∀ (I : Ints) (v : A) (ps : List (List PK)), Q v ps → v.free = true ∧ ∀ σ m, v.inv I σ (.frz []) m = v)
  (h : LValid P f args (fabM o i 2 [L0, L1, L2, L3, L4, L5, L6, L7]) (fun v m1 => ∃ ps', Q v ps' ∧ Mv 2 2 o i [L0, L1, L2, L3, L4, L5, L6, L7] ps' m1)) :
  LValid P f args (fabM o i 2 [L0, L1, L2, L3, L4, L5, L6, L7]) (fun v m1 => ∃ (M0 M1 M2 M3 M4 M5 M6 M7 : List (List G)) (ps' : List (List PK)), Q v ps' ∧ FIs 2 o i 0 [M0, M1, M2, M3, M4, M5, M6, M7] ps' ∧ m1 = fabU o i 2 [M0, M1, M2, M3, M4, M5, M6, M7]) := by
 obtain ⟨I, hI⟩ := ref
 refine lets2 (LValid.postB hI h ?_)
 rintro v m1 ⟨ps', hq, ⟨hF, rfl⟩ | ⟨c, X, hc, hF, rfl⟩ | ⟨c, q, X, X', hod, hc, hqk, hF, rfl⟩⟩
 ·obtain ⟨q1, q2⟩ := hQ I v ps' hq
  refine ⟨sgU 2 999 999, [], by kernel_rfl, by kernel_rfl, ?_⟩
  rw [q2]
  exact ⟨q1, by kernel_rfl, [L0, L1, L2, L3, L4, L5, L6, L7], ps', rfl, hq, hF, by kernel_rfl⟩
 ·obtain ⟨q1, q2⟩ := hQ I v ps' hq
  have hk : Kp (sgU 2 c 999) := ⟨⟩
  have hl : (List.set [L0, L1, L2, L3, L4, L5, L6, L7] c X).length = 8 := by rw [List.length_set]; rfl
  have hcs : c = 0 ∨ c = 1 ∨ c = 2 ∨ c = 3 ∨ c = 4 ∨ c = 5 ∨ c = 6 ∨ c = 7 := by omega
  clear hc
  rcases hcs with rfl | rfl | rfl | rfl | rfl | rfl | rfl | rfl
  all_goals
   refine ⟨sOf hk, [], by kernel_rfl, by kernel_rfl, ?_⟩
   rw [q2]
   exact ⟨q1, by kernel_rfl, _, ps', hl, hq, hF, by kernel_rfl⟩
 ·obtain ⟨q1, q2⟩ := hQ I v ps' hq
  have hk : Kp (sgU 2 c (2 * q)) := ⟨⟩
  have hl : ((List.set [L0, L1, L2, L3, L4, L5, L6, L7] c X).set (2 * q) X').length = 8 := by rw [List.length_set, List.length_set]; rfl
  have hcs : c = 1 ∨ c = 3 ∨ c = 5 ∨ c = 7 := by omega
  have hqs : q = 0 ∨ q = 1 ∨ q = 2 ∨ q = 3 := by omega
  clear hc hod hqk
  rcases hcs with rfl | rfl | rfl | rfl <;> rcases hqs with rfl | rfl | rfl | rfl
  all_goals
   refine ⟨sOf hk, [], by kernel_rfl, by kernel_rfl, ?_⟩
   rw [q2]
   exact ⟨q1, by kernel_rfl, _, ps', hl, hq, hF, by kernel_rfl⟩
section
variable {P : Program} (hp : P = Try.prog)
include hp
theorem is2 (z : Z) (o i : Int) (L0 L1 L2 L3 L4 L5 L6 L7 : List (List G)) : LValid P 31 [.c (.ptr 0 (.lit 0) 1 0), .c (.g (.int .i64 z))] (fabM o i 2 [L0, L1, L2, L3, L4, L5, L6, L7]) (fun v m1 => ∃ t, t = belB z.val 0 2 ∧ v = boo t ∧ m1 = (fabM o i 2 [L0, L1, L2, L3, L4, L5, L6, L7])) := by
 refine bx' (LValid.boo (LValid.sy ?_))
 show LValid P 31 [.c (.ptr 0 (.lit 0) 1 0), .c (.g (.int .i64 (.sym z.val)))] _ _
 generalize z.val = z
 obtain ⟨I, hI⟩ := ref
 refine fn_sim hI (mo hp) (cc hp c31) fun Post hP => ?_
 cbv
 refine .br (fun h => ?_) (fun h => ?_)
 ·have h2 : 0 ≤ z := by simpa [hI, ints, rCmp] using h
  cbv
  exact hP _ _ [0, 1, 2, 3, 4, 5, 6, 7, 8, 9, 10, 11, 12, 13, 14, 15, 16, 17] [] _ _ (by decide) rfl rfl rfl rfl rfl ⟨_, rfl, by
   show I.cmp .lss z 2 = _
   rw [hI]
   show decide (z < 2) = belB z 0 2
   unfold belB
   rw [decide_eq_true h2]
   rfl, rfl⟩
 ·have h2 : ¬ 0 ≤ z := by simpa [hI, ints, rCmp] using h
  cbv
  exact hP _ _ [0, 1, 2, 3, 4, 5, 6, 7, 8, 9, 10, 11, 12, 13, 14, 15, 16, 17] [] _ _ (by decide) rfl rfl rfl rfl rfl ⟨_, rfl, by
   show false = belB z 0 2
   unfold belB
   rw [decide_eq_false h2]
   rfl, rfl⟩
set_option maxHeartbeats 16000000 in
theorem snd2 (z : PZ) (D : List (List G)) (d : List Int) (hD : isL .i64 D d) (hd : D.length * 8 ≤ 140737488355328) (hdy : ∀ y ∈ d, -9223372036854775808 ≤ y ∧ y ≤ 9223372036854775807) (o i : Int) (h0 : 0 ≤ o) (h1 : o ≤ 999999) (g0 : 0 ≤ i) (g1 : i ≤ 999999) (L0 L1 L2 L3 L4 L5 L6 L7 : List (List G)) (ps : List (List PK)) (hF : FIs 2 o i 0 [L0, L1, L2, L3, L4, L5, L6, L7] ps) : LValid P 10 [.c (.ptr 0 (.lit 0) 1 0), z.arg D] (fabM o i 2 [L0, L1, L2, L3, L4, L5, L6, L7])
  (fun v m1 => ∃ ps', (∃ t, v = i64 t ∧ SendR 2 o ps (z.pk d) t ps') ∧ Mv 2 2 o i [L0, L1, L2, L3, L4, L5, L6, L7] ps' m1) := by
 have hF' := hF
 obtain ⟨p0, r, rfl, e0, k0, l0, hF⟩ := hF.cons2 h1 g1
 obtain ⟨p1, r, rfl, e1, k1, l1, hF⟩ := hF.cons2 h1 g1
 obtain ⟨p2, r, rfl, e2, k2, l2, hF⟩ := hF.cons2 h1 g1
 obtain ⟨p3, r, rfl, e3, k3, l3, hF⟩ := hF.cons2 h1 g1
 obtain ⟨p4, r, rfl, e4, k4, l4, hF⟩ := hF.cons2 h1 g1
 obtain ⟨p5, r, rfl, e5, k5, l5, hF⟩ := hF.cons2 h1 g1
 obtain ⟨p6, r, rfl, e6, k6, l6, hF⟩ := hF.cons2 h1 g1
 obtain ⟨p7, r, rfl, e7, k7, l7, hF⟩ := hF.cons2 h1 g1
 obtain rfl := hF.nil
 clear hF
 have h1' : o ≤ 1000000 := Int.le_trans h1 (by decide)
 have g1' : i ≤ 1000000 := Int.le_trans g1 (by decide)
 refine LValid.sy ?_
 show LValid P 10 [.c (.ptr 0 (.lit 0) 1 0), .agg [.g (.int .i64 (.sym z.k.val)), .g (.int .i64 (.sym z.f.val)), .g (.int .i64 (.sym z.t.val)), .g (.int .i64 (.sym z.i.val)), .g (.int .i64 (.sym z.l.val)), .g (.int .i64 (.sym z.p.val)), .g (.int .i64 (.sym z.s.val)), .g (.bool (.sym z.b.val)), .bor 1 D]] _ _
 rw [show z.pk d = ⟨z.k.val, z.f.val, z.t.val, z.i.val, z.l.val, z.p.val, z.s.val, z.b.val, d⟩ from rfl]
 generalize z.k.val = k, z.f.val = f, z.t.val = t, z.i.val = i2, z.l.val = l, z.p.val = p, z.s.val = s, z.b.val = b
 refine LValid.syv (R := fun v m1 => ∃ ps', (∃ t' : Z, v = .one (.c (.g (.int .i64 t'))) ∧ SendR 2 o [p0, p1, p2, p3, p4, p5, p6, p7] ⟨k, f, t, i2, l, p, s, b, d⟩ t'.val ps') ∧ Mv 2 2 o i [L0, L1, L2, L3, L4, L5, L6, L7] ps' m1) ?_ (fun v m1 ⟨ps', ⟨t', h1, h2⟩, h3⟩ => ⟨ps', ⟨t'.val, by rw [h1]; rfl, h2⟩, h3⟩)
 obtain ⟨I, hI⟩ := ref
 have hchk := check hp ⟨.sym k, .sym f, .sym t, .sym i2, .sym l, .sym p, .sym s, .sym b⟩ D d hD
 have hreq := request hp (.sym k)
 rw [show PZ.pk ⟨.sym k, .sym f, .sym t, .sym i2, .sym l, .sym p, .sym s, .sym b⟩ d = ⟨k, f, t, i2, l, p, s, b, d⟩ from rfl] at hchk
 rw [show (Z.sym k).val = k from rfl] at hreq
 have hput := fun (L : List (List G)) (h : L.length ≤ 1000000) => p_put hp ⟨.sym k, .sym f, .sym t, .sym i2, .sym l, .sym p, .sym s, .sym b⟩ D d hD hd o L h0 h1' h
 rw [show PZ.pk ⟨.sym k, .sym f, .sym t, .sym i2, .sym l, .sym p, .sym s, .sym b⟩ d = ⟨k, f, t, i2, l, p, s, b, d⟩ from rfl] at hput
 have hno : sendB 2 ⟨k, f, t, i2, l, p, s, b, d⟩ = false → SendR 2 o [p0, p1, p2, p3, p4, p5, p6, p7] ⟨k, f, t, i2, l, p, s, b, d⟩ 1 [p0, p1, p2, p3, p4, p5, p6, p7] := fun h => .inl ⟨rfl, h, rfl⟩
 have hyes := fun hs => send_yes (N := 2) rfl rfl hF' h1 (q := ⟨k, f, t, i2, l, p, s, b, d⟩) hD hdy hs
 have hsb : sendB 2 ⟨k, f, t, i2, l, p, s, b, d⟩ = (checkB ⟨k, f, t, i2, l, p, s, b, d⟩ && belB f 0 2 && belB t 0 2) := rfl
 have hpr : reqB k = true → place ⟨k, f, t, i2, l, p, s, b, d⟩ = 4 * f.toNat + 0 := fun h => by show 4 * f.toNat + (if reqB k then 0 else 2) = _; rw [h]; rfl
 have hpa : reqB k = false → place ⟨k, f, t, i2, l, p, s, b, d⟩ = 4 * f.toNat + 2 := fun h => by show 4 * f.toNat + (if reqB k then 0 else 2) = _; rw [h]; rfl
 have hbl : belB f 0 2 = true → ∃ j : Nat, isN f j ∧ j < 2 ∧ f.toNat = j := fun h => by
  unfold belB at h
  simp only [Bool.and_eq_true, decide_eq_true_eq] at h
  exact ⟨f.toNat, by unfold isN; omega, by omega, rfl⟩
 generalize SendR 2 o [p0, p1, p2, p3, p4, p5, p6, p7] ⟨k, f, t, i2, l, p, s, b, d⟩ = SR at hno hyes ⊢
 generalize sendB 2 ⟨k, f, t, i2, l, p, s, b, d⟩ = sb at hsb hno hyes
 generalize place ⟨k, f, t, i2, l, p, s, b, d⟩ = pl at hpr hpa hyes
 generalize checkB ⟨k, f, t, i2, l, p, s, b, d⟩ = ck at hchk hsb
 generalize hbf : belB f 0 2 = bf at hsb hbl
 generalize hbt : belB t 0 2 = bt at hsb
 refine fn_sim hI (mo hp) (cc hp c10) fun Post hP => ?_
 cbv
 refine .go [] [] [] hchk rfl rfl rfl rfl rfl rfl ?_
 rintro v m1 ⟨e, he, rfl, rfl⟩
 clear hchk
 cases ck with
 | false =>
  have he : e = 1 := he
  subst he
  cbv
  refine br_t (show I.cmp .neq 1 0 = true from by rw [hI]; rfl) ?_
  cbv
  exact hP _ _ [0, 1, 2, 3, 4, 5, 6, 7, 8, 9, 10, 11, 12, 13, 14, 15, 16, 17] [] _ _ (by decide) rfl rfl rfl rfl rfl ⟨_, ⟨.lit 1, rfl, hno (by rw [hsb]; rfl)⟩, .inl ⟨hF', rfl⟩⟩
 | true =>
 have he : e = 0 := he
 subst he
 cbv
 refine br_f (show I.cmp .neq 0 0 = false from by rw [hI]; rfl) ?_
 cbv
 refine .go [0, 1, 2, 3, 4, 5, 6, 7, 8, 9, 10, 11, 12, 13, 14, 15, 16, 17] [] [] (is2 hp (.sym f) o i L0 L1 L2 L3 L4 L5 L6 L7) rfl rfl rfl rfl rfl rfl ?_
 rintro v m1 ⟨t1, ht1, rfl, rfl⟩
 have ht1 : t1 = bf := (show t1 = belB f 0 2 from ht1).trans hbf
 cbv
 refine .br (fun g1 => ?_) (fun g1 => ?_)
 ·have h1 : t1 = false := by simpa [hI, ints] using g1
  cbv
  exact hP _ _ [0, 1, 2, 3, 4, 5, 6, 7, 8, 9, 10, 11, 12, 13, 14, 15, 16, 17] [] _ _ (by decide) rfl rfl rfl rfl rfl ⟨_, ⟨.lit 1, rfl, hno (by rw [hsb, ← ht1, h1]; rfl)⟩, .inl ⟨hF', rfl⟩⟩
 have h2 : t1 = true := by simpa [hI, ints] using g1
 obtain ⟨j, hj, hjn, hjt⟩ := hbl (by rw [← ht1]; exact h2)
 cbv
 refine .go [0, 1, 2, 3, 4, 5, 6, 7, 8, 9, 10, 11, 12, 13, 14, 15, 16, 17] [] [] (is2 hp (.sym t) o i L0 L1 L2 L3 L4 L5 L6 L7) rfl rfl rfl rfl rfl rfl ?_
 rintro v m1 ⟨t2, ht2, rfl, rfl⟩
 have ht2 : t2 = bt := (show t2 = belB t 0 2 from ht2).trans hbt
 rw [← ht1, ← ht2, h2] at hsb
 clear hbl ht1 ht2 h2 g1
 cbv
 refine .br (fun g2 => ?_) (fun g2 => ?_)
 ·have h1 : t2 = false := by simpa [hI, ints] using g2
  cbv
  exact hP _ _ [0, 1, 2, 3, 4, 5, 6, 7, 8, 9, 10, 11, 12, 13, 14, 15, 16, 17] [] _ _ (by decide) rfl rfl rfl rfl rfl ⟨_, ⟨.lit 1, rfl, hno (by rw [hsb, h1]; rfl)⟩, .inl ⟨hF', rfl⟩⟩
 have h2 : t2 = true := by simpa [hI, ints] using g2
 rw [h2] at hsb
 have hsb : sb = true := hsb
 clear h2 g2 hno
 rw [hjt] at hpr hpa
 have h9 := hyes hsb
 obtain ⟨p', Lp, hLp, hll, h5', h0'⟩ := h9
 have hk1 : Kp [2 + 8 * j, 3 + 8 * j, 4 + 8 * j, 5 + 8 * j, 6 + 8 * j, 7 + 8 * j, 8 + 8 * j, 9 + 8 * j] := ⟨⟩
 have hkr : Kp [2 + 8 * j, 3 + 8 * j] := ⟨⟩
 have hka : Kp [6 + 8 * j, 7 + 8 * j] := ⟨⟩
 cbv
 refine .drawn [2, 3, 4, 5, 6, 7, 8, 9, 10, 11, 12, 13, 14, 15, 16, 17] ?_
 cbv
 have hcs : j = 0 ∨ j = 1 := by omega
 clear hjt hjn hyes hsb
 rcases hcs with rfl | rfl
 all_goals
  refine .idx _ hj (by decide) ?_
  cbv
  refine .go [] [] [] hreq rfl rfl rfl rfl rfl rfl ?_
  rintro v m1 ⟨rq, hrq, rfl, rfl⟩
  cbv
  refine .go (sOf hk1) [] [] (sort_ hp (.sym rq) o i _ _ _ _) rfl rfl rfl rfl rfl rfl ?_
  rintro v m1 ⟨⟨hs, rfl⟩ | ⟨hs, rfl⟩, rfl⟩
  ·have hs : rq = true := hs
   have hpl2 := hpr (hrq.symm.trans hs)
   subst hpl2
   cases hLp
   cbv
   refine .go (sOf hkr) [] [] (hput _ hll) rfl rfl rfl rfl rfl rfl ?_
   rintro v m1 ⟨t, rfl, ⟨rfl, h6, rfl⟩ | ⟨rfl, h6, L', hL', rfl⟩⟩
   ·have h9 := h5' h6
    cbv
    exact hP _ _ [0, 1, 2, 3, 4, 5, 6, 7, 8, 9, 10, 11, 12, 13, 14, 15, 16, 17] [] _ _ (by decide) rfl rfl rfl rfl rfl ⟨_, ⟨.sym 5, rfl, h9⟩, .inl ⟨hF', rfl⟩⟩
   ·have h9 := h0' L' h6 hL'
    obtain ⟨u1, u2⟩ := h9
    cbv
    exact hP _ _ [0, 1, 2, 3, 4, 5, 6, 7, 8, 9, 10, 11, 12, 13, 14, 15, 16, 17, 19] [] _ _ (by decide) rfl rfl rfl rfl rfl ⟨_, ⟨.sym 0, rfl, u1⟩, .inr (.inl ⟨_, L', by decide, u2, rfl⟩)⟩
  ·have hs : rq = false := hs
   have hpl2 := hpa (hrq.symm.trans hs)
   subst hpl2
   cases hLp
   cbv
   refine .go (sOf hka) [] [] (hput _ hll) rfl rfl rfl rfl rfl rfl ?_
   rintro v m1 ⟨t, rfl, ⟨rfl, h6, rfl⟩ | ⟨rfl, h6, L', hL', rfl⟩⟩
   ·have h9 := h5' h6
    cbv
    exact hP _ _ [0, 1, 2, 3, 4, 5, 6, 7, 8, 9, 10, 11, 12, 13, 14, 15, 16, 17] [] _ _ (by decide) rfl rfl rfl rfl rfl ⟨_, ⟨.sym 5, rfl, h9⟩, .inl ⟨hF', rfl⟩⟩
   ·have h9 := h0' L' h6 hL'
    obtain ⟨u1, u2⟩ := h9
    cbv
    exact hP _ _ [0, 1, 2, 3, 4, 5, 6, 7, 8, 9, 10, 11, 12, 13, 14, 15, 16, 17, 19] [] _ _ (by decide) rfl rfl rfl rfl rfl ⟨_, ⟨.sym 0, rfl, u1⟩, .inr (.inl ⟨_, L', by decide, u2, rfl⟩)⟩
theorem sendU2 (z : PZ) (D : List (List G)) (d : List Int) (hD : isL .i64 D d) (hd : D.length * 8 ≤ 140737488355328) (hdy : ∀ y ∈ d, -9223372036854775808 ≤ y ∧ y ≤ 9223372036854775807) (o i : Int) (h0 : 0 ≤ o) (h1 : o ≤ 999999) (g0 : 0 ≤ i) (g1 : i ≤ 999999) (L0 L1 L2 L3 L4 L5 L6 L7 : List (List G)) (ps : List (List PK)) (hF : FIs 2 o i 0 [L0, L1, L2, L3, L4, L5, L6, L7] ps) : LValid P 10 [.c (.ptr 0 (.lit 0) 1 0), z.arg D] (fabM o i 2 [L0, L1, L2, L3, L4, L5, L6, L7])
  (fun v m1 => ∃ (M0 M1 M2 M3 M4 M5 M6 M7 : List (List G)) (ps' : List (List PK)), (∃ t, v = i64 t ∧ SendR 2 o ps (z.pk d) t ps') ∧ FIs 2 o i 0 [M0, M1, M2, M3, M4, M5, M6, M7] ps' ∧ m1 = fabU o i 2 [M0, M1, M2, M3, M4, M5, M6, M7]) :=
 up2 (fun I v ps ⟨t, h, _⟩ => by subst h; exact ⟨rfl, fun _ _ => rfl⟩) (snd2 hp z D d hD hd hdy o i h0 h1 g0 g1 L0 L1 L2 L3 L4 L5 L6 L7 ps hF)
set_option maxHeartbeats 16000000 in
theorem pools2 (o i : Int) (L0 L1 L2 L3 L4 L5 L6 L7 : List (List G)) : LValid P 35 [.c (.ptr 0 (.lit 0) 1 0)] (fabM o i 2 [L0, L1, L2, L3, L4, L5, L6, L7])
  (fun v m1 => v = .one (.c (.row 18 2 none)) ∧ m1 = (fabM o i 2 [L0, L1, L2, L3, L4, L5, L6, L7]) ++ outB 2) := by
 obtain ⟨I, hI⟩ := ref
 refine fn_sim hI (mo hp) (cc hp c35) fun Post hP => ?_
 cbv
 refine .loop_next (fun n ts m => ∃ (j : Nat) (z : Int), n = 2 - j ∧ isN z j ∧ j ≤ 2 ∧ ts = fr 24 [(0, .one (.c (.ptr 0 (.lit 0) 1 0))), (3, .one (.c (outC 18 j))), (9, .one (.c (.row 1 4 none))), (10, i64 2), (11, i64 z)] ∧ m = (fabM o i 2 [L0, L1, L2, L3, L4, L5, L6, L7]) ++ outB j)
  2 _ _ [0, 1, 2, 3, 4, 5, 6, 7, 8, 9, 10, 11, 12, 13, 14, 15, 16, 17] [] [0, 3, 9, 10, 11] (by decide) rfl rfl rfl ⟨0, 0, rfl, rfl, Nat.zero_le _, rfl, rfl⟩ ?_
 rintro next n hnext ts m ⟨j, z, hnn, hz, hj, rfl, rfl⟩
 have hz1 : isN (I.bin .add .i64 z 1) (j + 1) := by unfold isN at hz ⊢; rw [hI]; simp only [ints, rBin]; rw [wrap_in] <;> omega
 have hcm : (j < 2 → I.cmp .lss z 2 = true) ∧ (j = 2 → I.cmp .lss z 2 = false) := by
  unfold isN at hz
  rw [hI]
  simp only [ints, rCmp, decide_eq_true_eq, decide_eq_false_iff_not]
  omega
 have hcs : j = 0 ∨ j = 1 ∨ j = 2 := by omega
 clear hj
 rcases hcs with rfl | rfl | rfl
 ·have hc := hcm.1 (by decide)
  clear hcm
  cbv
  refine br_t hc ?_
  cbv
  refine .idx _ hz (by decide) ?_
  cbv
  refine .most (by decide) (by decide) ?_
  cbv
  exact hnext _ _ 1 [0, 1, 2, 3, 4, 5, 6, 7, 8, 9, 10, 11, 12, 13, 14, 15, 16, 17, 20] [] [0, 3, 9, 10, 11] _ _ (by omega) (by decide) rfl rfl rfl ⟨1, _, rfl, hz1, by decide, rfl, rfl⟩
 ·have hc := hcm.1 (by decide)
  clear hcm
  cbv
  refine br_t hc ?_
  cbv
  refine .idx _ hz (by decide) ?_
  cbv
  refine .most (by decide) (by decide) ?_
  cbv
  exact hnext _ _ 0 [0, 1, 2, 3, 4, 5, 6, 7, 8, 9, 10, 11, 12, 13, 14, 15, 16, 17, 21] [] [0, 3, 9, 10, 11] _ _ (by omega) (by decide) rfl rfl rfl ⟨2, _, rfl, hz1, by decide, rfl, rfl⟩
 ·have hc := hcm.2 rfl
  clear hcm
  cbv
  refine br_f hc ?_
  cbv
  exact hP _ _ [0, 1, 2, 3, 4, 5, 6, 7, 8, 9, 10, 11, 12, 13, 14, 15, 16, 17, 18] [] _ _ (by decide) rfl rfl rfl rfl rfl ⟨rfl, rfl⟩
theorem underU2 (o i : Int) (h0 : 0 ≤ o) (h1 : o ≤ 999999) (g0 : 0 ≤ i) (g1 : i ≤ 999999) (L0 L1 L2 L3 L4 L5 L6 L7 : List (List G)) (ps : List (List PK)) (hF : FIs 2 o i 0 [L0, L1, L2, L3, L4, L5, L6, L7] ps) : LValid P 11 [.c (.ptr 0 (.lit 0) 1 0)] (fabM o i 2 [L0, L1, L2, L3, L4, L5, L6, L7]) (fun v m1 => ∃ t, isN t (under ps).length ∧ v = i64 t ∧ m1 = (fabM o i 2 [L0, L1, L2, L3, L4, L5, L6, L7])) := by
 have hF' := hF
 obtain ⟨p0, r, rfl, e0, k0, l0, hF⟩ := hF.cons2 h1 g1
 obtain ⟨p1, r, rfl, e1, k1, l1, hF⟩ := hF.cons2 h1 g1
 obtain ⟨p2, r, rfl, e2, k2, l2, hF⟩ := hF.cons2 h1 g1
 obtain ⟨p3, r, rfl, e3, k3, l3, hF⟩ := hF.cons2 h1 g1
 obtain ⟨p4, r, rfl, e4, k4, l4, hF⟩ := hF.cons2 h1 g1
 obtain ⟨p5, r, rfl, e5, k5, l5, hF⟩ := hF.cons2 h1 g1
 obtain ⟨p6, r, rfl, e6, k6, l6, hF⟩ := hF.cons2 h1 g1
 obtain ⟨p7, r, rfl, e7, k7, l7, hF⟩ := hF.cons2 h1 g1
 obtain rfl := hF.nil
 clear hF
 have h1' : o ≤ 1000000 := Int.le_trans h1 (by decide)
 have g1' : i ≤ 1000000 := Int.le_trans g1 (by decide)
 have hun : sumLen 4 [L0, L2, L4, L6] = (under [p0, p1, p2, p3, p4, p5, p6, p7]).length := (lenTo_is 4 _ _ 0 hF').trans (lenTo_all 4 _ (Nat.le_refl _))
 rw [← hun]
 have hbd : ∀ j, j ≤ 4 → sumLen j [L0, L2, L4, L6] ≤ 100000000 := fun j hj => Nat.le_trans (sumLen_bound [L0, L2, L4, L6] j 1000000 (by simp only [List.forall_mem_cons]; refine ⟨by assumption, by assumption, by assumption, by assumption, fun _ h => (by cases h)⟩)) (by omega)
 obtain ⟨I, hI⟩ := ref
 refine fn_sim hI (mo hp) (cc hp c11) fun Post hP => ?_
 cbv
 refine .go [0, 1, 2, 3, 4, 5, 6, 7, 8, 9, 10, 11, 12, 13, 14, 15, 16, 17] [] [] (pools2 hp o i L0 L1 L2 L3 L4 L5 L6 L7) rfl rfl rfl rfl rfl rfl ?_
 rintro v m1 ⟨rfl, rfl⟩
 cbv
 refine .loop_next (fun n ts m => ∃ (j : Nat) (z y : Int), n = 4 - j ∧ isN z j ∧ j ≤ 4 ∧ isN y (sumLen j [L0, L2, L4, L6]) ∧ ts = fr 20 [(0, .one (.c (.ptr 0 (.lit 0) 1 0))), (3, i64 y), (7, .one (.c (.row 18 2 none))), (8, i64 4), (9, i64 z)] ∧ m = (fabM o i 2 [L0, L1, L2, L3, L4, L5, L6, L7]) ++ outB 2)
  4 _ _ [0, 1, 2, 3, 4, 5, 6, 7, 8, 9, 10, 11, 12, 13, 14, 15, 16, 17, 18] [] [0, 3, 7, 8, 9] (by decide) rfl rfl rfl ⟨0, 0, 0, rfl, rfl, Nat.zero_le _, rfl, rfl, rfl⟩ ?_
 rintro next n hnext ts m ⟨j, z, y, hnn, hz, hj, hy, rfl, rfl⟩
 have hz1 : isN (I.bin .add .i64 z 1) (j + 1) := by unfold isN at hz ⊢; rw [hI]; simp only [ints, rBin]; rw [wrap_in] <;> omega
 have hcm : (j < 4 → I.cmp .lss z 4 = true) ∧ (j = 4 → I.cmp .lss z 4 = false) := by
  unfold isN at hz
  rw [hI]
  simp only [ints, rCmp, decide_eq_true_eq, decide_eq_false_iff_not]
  omega
 have hst := fun (L : List (List G)) (x : Int) (hL : [L0, L2, L4, L6][j]? = some L) (hx : x = ((L.length : Nat) : Int)) => sumLen_add hI hy hL hx (hbd (j + 1) (by have := (List.getElem?_eq_some_iff.1 hL).1; simp only [List.length_cons, List.length_nil] at this; omega))
 have hk : Kp [2 + 4 * j, 3 + 4 * j] := ⟨⟩
 have hn1 : j < 4 → 4 - (j + 1) < n := fun h => by omega
 have hcs : j = 0 ∨ j = 1 ∨ j = 2 ∨ j = 3 ∨ j = 4 := by omega
 clear hj hbd hun
 rcases hcs with rfl | rfl | rfl | rfl | rfl
 rotate_left 4
 ·have hc := hcm.2 rfl
  clear hcm
  cbv
  refine br_f hc ?_
  cbv
  exact hP _ _ [0, 1, 2, 3, 4, 5, 6, 7, 8, 9, 10, 11, 12, 13, 14, 15, 16, 17] [] _ _ (by decide) rfl rfl rfl rfl rfl ⟨_, hy, rfl, rfl⟩
 all_goals
  have hc := hcm.1 (by decide)
  have hn2 := hn1 (by decide)
  clear hcm hn1
  cbv
  refine br_t hc ?_
  cbv
  refine .idx _ hz (by decide) ?_
  cbv
  refine .go (sOf hk) [] [] (p_len hp o _) rfl rfl rfl rfl rfl rfl ?_
  rintro v m1 ⟨x, hx, rfl, rfl⟩
  have hy1 := hst _ x rfl hx
  clear hst hx
  cbv
  exact hnext _ _ _ [0, 1, 2, 3, 4, 5, 6, 7, 8, 9, 10, 11, 12, 13, 14, 15, 16, 17, 18] [] [0, 3, 7, 8, 9] _ _ hn2 (by decide) rfl rfl rfl ⟨_, _, _, rfl, hz1, by decide, hy1, rfl, rfl⟩
set_option maxHeartbeats 16000000 in
theorem find2 (z : Z) (hzr : -9223372036854775808 ≤ z.val ∧ z.val ≤ 9223372036854775807) (o i : Int) (L0 L1 L2 L3 L4 L5 L6 L7 : List (List G)) (l0 : L0.length ≤ 1000000) (l1 : L1.length ≤ 1000000) (l2 : L2.length ≤ 1000000) (l3 : L3.length ≤ 1000000) (l4 : L4.length ≤ 1000000) (l5 : L5.length ≤ 1000000) (l6 : L6.length ≤ 1000000) (l7 : L7.length ≤ 1000000) : LValid P 37 [.c (.ptr 0 (.lit 0) 1 0), .c (.g (.int .i64 z))] (fabM o i 2 [L0, L1, L2, L3, L4, L5, L6, L7])
  (fun v m1 => (∃ (q n : Nat) (x : Int) (L : List (List G)), [L0, L2, L4, L6][q]? = some L ∧ isN x n ∧ z.val = ((sumLen q [L0, L2, L4, L6] + n : Nat) : Int) ∧ n < L.length ∧ v = .tup [.agg [.ptr (2 + 4 * q) (.lit 0) 2 0, .ptr (4 + 4 * q) (.lit 0) 2 0], gi .i64 x, gb true] ∧ m1 = (fabM o i 2 [L0, L1, L2, L3, L4, L5, L6, L7])) ∨ ((z.val < 0 ∨ ((sumLen 4 [L0, L2, L4, L6] : Nat) : Int) ≤ z.val) ∧ v = .tup [.agg [.g .nilp, .g .nilp], gi .i64 0, gb false] ∧ m1 = (fabM o i 2 [L0, L1, L2, L3, L4, L5, L6, L7]))) := by
 refine LValid.sy ?_
 show LValid P 37 [.c (.ptr 0 (.lit 0) 1 0), .c (.g (.int .i64 (.sym z.val)))] _ _
 generalize z.val = z at hzr
 have hbd : ∀ j, j ≤ 4 → sumLen j [L0, L2, L4, L6] ≤ 100000000 := fun j hj => Nat.le_trans (sumLen_bound [L0, L2, L4, L6] j 1000000 (by simp only [List.forall_mem_cons]; refine ⟨by assumption, by assumption, by assumption, by assumption, fun _ h => (by cases h)⟩)) (by omega)
 refine LValid.syv (R := fun v m1 => (∃ (q n : Nat) (x : Int) (L : List (List G)), [L0, L2, L4, L6][q]? = some L ∧ isN x n ∧ z = ((sumLen q [L0, L2, L4, L6] + n : Nat) : Int) ∧ n < L.length ∧ v = .tup [.agg [.ptr (2 + 4 * q) (.lit 0) 2 0, .ptr (4 + 4 * q) (.lit 0) 2 0], gi .i64 x, .c (.g (.bool (.lit true)))] ∧ m1 = (fabM o i 2 [L0, L1, L2, L3, L4, L5, L6, L7])) ∨ ((z < 0 ∨ ((sumLen 4 [L0, L2, L4, L6] : Nat) : Int) ≤ z) ∧ v = .tup [.agg [.g .nilp, .g .nilp], .c (.g (.int .i64 (.lit 0))), .c (.g (.bool (.lit false)))] ∧ m1 = (fabM o i 2 [L0, L1, L2, L3, L4, L5, L6, L7]))) ?_
  (fun v m1 h => h.imp (fun ⟨q, n, x, L, h1, h2, h3, h4, h5, h6⟩ => ⟨q, n, x, L, h1, h2, h3, h4, by rw [h5]; rfl, h6⟩) (fun ⟨h1, h2, h3⟩ => ⟨h1, by rw [h2]; rfl, h3⟩))
 obtain ⟨I, hI⟩ := ref
 refine fn_sim hI (mo hp) (cc hp c37) fun Post hP => ?_
 cbv
 refine .go [0, 1, 2, 3, 4, 5, 6, 7, 8, 9, 10, 11, 12, 13, 14, 15, 16, 17] [] [] (pools2 hp o i L0 L1 L2 L3 L4 L5 L6 L7) rfl rfl rfl rfl rfl rfl ?_
 rintro v m1 ⟨rfl, rfl⟩
 cbv
 refine .loop_next (fun n ts m => ∃ (j : Nat) (y a : Int), n = 4 - j ∧ isN y j ∧ j ≤ 4 ∧ isA a z j [L0, L2, L4, L6] ∧ ts = fr 34 [(0, .one (.c (.ptr 0 (.lit 0) 1 0))), (1, i64 a), (4, .one (.c (.ptr 18 (.lit 0) 2 0))), (10, .one (.c (.row 19 2 none))), (11, i64 4), (12, i64 y)] ∧ m = (fabM o i 2 [L0, L1, L2, L3, L4, L5, L6, L7]) ++ [.lit 2 [[.g .nilp, .g .nilp]], .lit 2 (fabR 2 2)])
  4 _ _ [0, 1, 2, 3, 4, 5, 6, 7, 8, 9, 10, 11, 12, 13, 14, 15, 16, 17, 18, 19] [] [0, 1, 4, 10, 11, 12] (by decide) rfl rfl rfl ⟨0, 0, z, rfl, rfl, Nat.zero_le _, isA_nil hzr, rfl, rfl⟩ ?_
 rintro next n hnext ts m ⟨j, y, a, hnn, hy, hj, ha, rfl, rfl⟩
 have hy1 : isN (I.bin .add .i64 y 1) (j + 1) := by unfold isN at hy ⊢; rw [hI]; simp only [ints, rBin]; rw [wrap_in] <;> omega
 have hcm : (j < 4 → I.cmp .lss y 4 = true) ∧ (j = 4 → I.cmp .lss y 4 = false) := by
  unfold isN at hy
  rw [hI]
  simp only [ints, rCmp, decide_eq_true_eq, decide_eq_false_iff_not]
  omega
 have hst := fun (L : List (List G)) (x : Int) (hL : [L0, L2, L4, L6][j]? = some L) (hx : x = ((L.length : Nat) : Int)) => isA_step hzr (L := L) ha hL hx (by rw [← sumLen_step j _ L hL]; exact hbd (j + 1) (by have := (List.getElem?_eq_some_iff.1 hL).1; simp only [List.length_cons, List.length_nil] at this; omega))
 rw [show ints = I from hI.symm] at hst
 have hk : Kp [2 + 4 * j, 3 + 4 * j] := ⟨⟩
 have hn1 : j < 4 → 4 - (j + 1) < n := fun h => by omega
 have hcs : j = 0 ∨ j = 1 ∨ j = 2 ∨ j = 3 ∨ j = 4 := by omega
 clear hj hbd
 rcases hcs with rfl | rfl | rfl | rfl | rfl
 rotate_left 4
 ·have hc := hcm.2 rfl
  have ha2 := ha.2
  clear hcm ha hst
  cbv
  refine br_f hc ?_
  cbv
  exact hP _ _ [0, 1, 2, 3, 4, 5, 6, 7, 8, 9, 10, 11, 12, 13, 14, 15, 16, 17] [] _ _ (by decide) rfl rfl rfl rfl rfl (.inr ⟨ha2, rfl, rfl⟩)
 all_goals
  have hc := hcm.1 (by decide)
  have hn2 := hn1 (by decide)
  clear hcm ha hn1
  cbv
  refine br_t hc ?_
  cbv
  refine .idx _ hy (by decide) ?_
  cbv
  refine .br (fun g1 => ?_) (fun g1 => ?_)
  ·cbv
   refine .go (sOf hk) [] [] (p_len hp o _) rfl rfl rfl rfl rfl rfl ?_
   rintro v m1 ⟨x, hx, rfl, rfl⟩
   have hst := hst _ x rfl hx
   cbv
   refine .br (fun g2 => ?_) (fun g2 => ?_)
   ·have h9 := hst.1 g1 g2
    obtain ⟨n, q1, q2, q3⟩ := h9
    clear hst hx g1 g2
    cbv
    exact hP _ _ [0, 1, 2, 3, 4, 5, 6, 7, 8, 9, 10, 11, 12, 13, 14, 15, 16, 17] [] _ _ (by decide) rfl rfl rfl rfl rfl (.inl ⟨_, n, _, _, rfl, q1, q2, q3, rfl, rfl⟩)
   ·have q1 := hst.2.1 g1 g2
    clear hst g1 g2
    cbv
    refine .go (sOf hk) [] [] (p_len hp o _) rfl rfl rfl rfl rfl rfl ?_
    rintro v m1 ⟨x', hx', rfl, rfl⟩
    obtain rfl : x' = x := hx'.trans hx.symm
    clear hx hx'
    cbv
    exact hnext _ _ _ [0, 1, 2, 3, 4, 5, 6, 7, 8, 9, 10, 11, 12, 13, 14, 15, 16, 17, 18, 19] [] [0, 1, 4, 10, 11, 12] _ _ hn2 (by decide) rfl rfl rfl ⟨_, _, _, rfl, hy1, by decide, q1, rfl, rfl⟩
  ·cbv
   refine .go (sOf hk) [] [] (p_len hp o _) rfl rfl rfl rfl rfl rfl ?_
   rintro v m1 ⟨x, hx, rfl, rfl⟩
   have q1 := (hst _ x rfl hx).2.2 g1
   clear hst g1 hx
   cbv
   exact hnext _ _ _ [0, 1, 2, 3, 4, 5, 6, 7, 8, 9, 10, 11, 12, 13, 14, 15, 16, 17, 18, 19] [] [0, 1, 4, 10, 11, 12] _ _ hn2 (by decide) rfl rfl rfl ⟨_, _, _, rfl, hy1, by decide, q1, rfl, rfl⟩
set_option maxHeartbeats 16000000 in
theorem packet2 (z : Z) (hzr : -9223372036854775808 ≤ z.val ∧ z.val ≤ 9223372036854775807) (o i : Int) (h0 : 0 ≤ o) (h1 : o ≤ 999999) (g0 : 0 ≤ i) (g1 : i ≤ 999999) (L0 L1 L2 L3 L4 L5 L6 L7 : List (List G)) (ps : List (List PK)) (hF : FIs 2 o i 0 [L0, L1, L2, L3, L4, L5, L6, L7] ps) : LValid P 12 [.c (.ptr 0 (.lit 0) 1 0), .c (.g (.int .i64 z))] (fabM o i 2 [L0, L1, L2, L3, L4, L5, L6, L7])
  (fun v m1 => (∃ (q n : Nat) (p : List PK) (r : PK) (D : List (List G)), (evens ps)[q]? = some p ∧ p[n]? = some r ∧ z.val = ((lenTo q (evens ps) + n : Nat) : Int) ∧ isL .i64 D r.d ∧ v = .tup [r.told (.g (.rows 1 D)), gb true] ∧ m1 = (fabM o i 2 [L0, L1, L2, L3, L4, L5, L6, L7])) ∨ ((z.val < 0 ∨ (((under ps).length : Nat) : Int) ≤ z.val) ∧ v = .tup [PK.nought.told (.g .nil), gb false] ∧ m1 = (fabM o i 2 [L0, L1, L2, L3, L4, L5, L6, L7]))) := by
 have hF' := hF
 obtain ⟨p0, r, rfl, e0, k0, l0, hF⟩ := hF.cons2 h1 g1
 obtain ⟨p1, r, rfl, e1, k1, l1, hF⟩ := hF.cons2 h1 g1
 obtain ⟨p2, r, rfl, e2, k2, l2, hF⟩ := hF.cons2 h1 g1
 obtain ⟨p3, r, rfl, e3, k3, l3, hF⟩ := hF.cons2 h1 g1
 obtain ⟨p4, r, rfl, e4, k4, l4, hF⟩ := hF.cons2 h1 g1
 obtain ⟨p5, r, rfl, e5, k5, l5, hF⟩ := hF.cons2 h1 g1
 obtain ⟨p6, r, rfl, e6, k6, l6, hF⟩ := hF.cons2 h1 g1
 obtain ⟨p7, r, rfl, e7, k7, l7, hF⟩ := hF.cons2 h1 g1
 obtain rfl := hF.nil
 clear hF
 have h1' : o ≤ 1000000 := Int.le_trans h1 (by decide)
 have g1' : i ≤ 1000000 := Int.le_trans g1 (by decide)
 refine LValid.sy ?_
 show LValid P 12 [.c (.ptr 0 (.lit 0) 1 0), .c (.g (.int .i64 (.sym z.val)))] _ _
 generalize z.val = z at hzr
 have hun : sumLen 4 [L0, L2, L4, L6] = (under [p0, p1, p2, p3, p4, p5, p6, p7]).length := (lenTo_is 4 _ _ 0 hF').trans (lenTo_all 4 _ (Nat.le_refl _))
 have hto : ∀ q, sumLen q [L0, L2, L4, L6] = lenTo q (evens [p0, p1, p2, p3, p4, p5, p6, p7]) := fun q => lenTo_is q _ _ 0 hF'
 refine LValid.syv (R := fun v m1 => (∃ (q n : Nat) (p : List PK) (r : PK) (D : List (List G)), (evens [p0, p1, p2, p3, p4, p5, p6, p7])[q]? = some p ∧ p[n]? = some r ∧ z = ((lenTo q (evens [p0, p1, p2, p3, p4, p5, p6, p7]) + n : Nat) : Int) ∧ isL .i64 D r.d ∧ v = .tup [r.told (.g (.rows 1 D)), gb true] ∧ m1 = (fabM o i 2 [L0, L1, L2, L3, L4, L5, L6, L7])) ∨ ((z < 0 ∨ (((under [p0, p1, p2, p3, p4, p5, p6, p7]).length : Nat) : Int) ≤ z) ∧ v = .tup [noughtL, .c (.g (.bool (.lit false)))] ∧ m1 = (fabM o i 2 [L0, L1, L2, L3, L4, L5, L6, L7]))) ?_ (fun v m1 h => h.imp (fun h => h.imp fun q h => h.imp fun n h => h.imp fun ps h => h.imp fun r h => h.imp fun D ⟨h1, h2, h3, h4, h5, h6⟩ => ⟨h1, h2, h3, h4, by rw [h5]; rfl, h6⟩) (fun ⟨h1, h2, h3⟩ => ⟨h1, by rw [h2]; rfl, h3⟩))
 obtain ⟨I, hI⟩ := ref
 refine fn_sim hI (mo hp) (cc hp c12) fun Post hP => ?_
 cbv
 refine .go [0, 1, 2, 3, 4, 5, 6, 7, 8, 9, 10, 11, 12, 13, 14, 15, 16, 17] [] [] (find2 hp (.sym z) hzr o i L0 L1 L2 L3 L4 L5 L6 L7 l0 l1 l2 l3 l4 l5 l6 l7) rfl rfl rfl rfl rfl rfl ?_
 rintro v m1 (⟨q, n, x, L, hq, hx, hz, hn, rfl, rfl⟩ | ⟨h, rfl, rfl⟩)
 ·have hz : z = ((sumLen q [L0, L2, L4, L6] + n : Nat) : Int) := hz
  have hz0 : I.cmp .lss z 0 = false := by
   rw [hI, hz]
   simp only [ints, rCmp, decide_eq_false_iff_not]
   omega
  rw [hto] at hz
  have h9 := hF'.at _ _ _ (2 * q) _ (by rw [← evens_get]; exact hq)
  obtain ⟨p, hpq, eP, kP, _⟩ := h9
  rw [← evens_get] at hpq
  have hl : L.length ≤ 1000000 := by
   have hm := List.mem_of_getElem? hq
   simp only [List.mem_cons, List.not_mem_nil, or_false] at hm
   rcases hm with rfl | rfl | rfl | rfl <;> assumption
  have hcs : q = 0 ∨ q = 1 ∨ q = 2 ∨ q = 3 := by
   have := (List.getElem?_eq_some_iff.1 hq).1
   simp only [List.length_cons, List.length_nil] at this
   omega
  have hk : Kp [2 + 4 * q, 3 + 4 * q] := ⟨⟩
  clear hto hun
  rcases hcs with rfl | rfl | rfl | rfl
  all_goals
   cases hq
   cbv
   refine br_f (show I.not true = false from by rw [hI]; rfl) ?_
   cbv
   refine br_f hz0 ?_
   cbv
   refine .go (sOf hk) [] [] (p_get hp (.sym x) _ _ p eP (okQ.len kP) hl) rfl rfl rfl rfl rfl rfl ?_
   rintro v m1 (⟨h, _⟩ | ⟨n2, r, D, hn2, hr, hD, rfl, rfl⟩)
   ·exact absurd h (notOut hx (lenIs eP hn))
   ·obtain rfl : n2 = n := isN_eq hn2 hx
    cbv
    exact hP _ _ [0, 1, 2, 3, 4, 5, 6, 7, 8, 9, 10, 11, 12, 13, 14, 15, 16, 17] [20] _ _ (by decide) rfl rfl rfl rfl rfl (.inl ⟨_, n2, p, r, D, hpq, hr, hz, hD, rfl, rfl⟩)
 ·rw [hun] at h
  cbv
  refine br_t (show I.not false = true from by rw [hI]; rfl) ?_
  cbv
  exact hP _ _ [0, 1, 2, 3, 4, 5, 6, 7, 8, 9, 10, 11, 12, 13, 14, 15, 16, 17] [] _ _ (by decide) rfl rfl rfl rfl rfl (.inr ⟨h, rfl, rfl⟩)
set_option maxHeartbeats 16000000 in
theorem takeRequest2 (z : Z) (o i : Int) (h0 : 0 ≤ o) (h1 : o ≤ 999999) (g0 : 0 ≤ i) (g1 : i ≤ 999999) (L0 L1 L2 L3 L4 L5 L6 L7 : List (List G)) (ps : List (List PK)) (hF : FIs 2 o i 0 [L0, L1, L2, L3, L4, L5, L6, L7] ps) : LValid P 42 [.c (.ptr 0 (.lit 0) 1 0), .c (.g (.int .i64 z)), .c (.g (.bool (.lit true)))] (fabM o i 2 [L0, L1, L2, L3, L4, L5, L6, L7])
  (fun v m1 => ∃ (M0 M1 M2 M3 M4 M5 M6 M7 : List (List G)) (ps' : List (List PK)), TakeV 2 ps z.val 1 v ps' ∧ FIs 2 o i 0 [M0, M1, M2, M3, M4, M5, M6, M7] ps' ∧ m1 = fabU o i 2 [M0, M1, M2, M3, M4, M5, M6, M7]) := by
 refine up2 (fun I v ps ⟨r, b, D, h, _⟩ => by subst h; exact ⟨rfl, fun _ _ => rfl⟩) (takeW ?_)
 have hF' := hF
 obtain ⟨p0, r, rfl, e0, k0, l0, hF⟩ := hF.cons2 h1 g1
 obtain ⟨p1, r, rfl, e1, k1, l1, hF⟩ := hF.cons2 h1 g1
 obtain ⟨p2, r, rfl, e2, k2, l2, hF⟩ := hF.cons2 h1 g1
 obtain ⟨p3, r, rfl, e3, k3, l3, hF⟩ := hF.cons2 h1 g1
 obtain ⟨p4, r, rfl, e4, k4, l4, hF⟩ := hF.cons2 h1 g1
 obtain ⟨p5, r, rfl, e5, k5, l5, hF⟩ := hF.cons2 h1 g1
 obtain ⟨p6, r, rfl, e6, k6, l6, hF⟩ := hF.cons2 h1 g1
 obtain ⟨p7, r, rfl, e7, k7, l7, hF⟩ := hF.cons2 h1 g1
 obtain rfl := hF.nil
 clear hF
 have h1' : o ≤ 1000000 := Int.le_trans h1 (by decide)
 have g1' : i ≤ 1000000 := Int.le_trans g1 (by decide)
 refine LValid.sy ?_
 show LValid P 42 [.c (.ptr 0 (.lit 0) 1 0), .c (.g (.int .i64 (.sym z.val))), .c (.g (.bool (.sym true)))] _ _
 generalize z.val = z
 obtain ⟨I, hI⟩ := ref
 have hbl : belB z 0 2 = true → ∃ j : Nat, isN z j ∧ j < 2 := fun h => by
  unfold belB at h
  simp only [Bool.and_eq_true, decide_eq_true_eq] at h
  exact ⟨z.toNat, by unfold isN; omega, by omega⟩
 have hno : belB z 0 2 = false → ∀ v, v = .tup [noughtL, .c (.g (.bool (.lit false)))] → TakeW 2 [p0, p1, p2, p3, p4, p5, p6, p7] z 1 v [p0, p1, p2, p3, p4, p5, p6, p7] := fun h v hv => .inl ⟨.inl hv, rfl, .inl h⟩
 refine fn_sim hI (mo hp) (cc hp c42) fun Post hP => ?_
 generalize hbz : belB z 0 2 = bz at hbl hno
 cbv
 refine .go [0, 1, 2, 3, 4, 5, 6, 7, 8, 9, 10, 11, 12, 13, 14, 15, 16, 17] [] [] (is2 hp (.sym z) o i L0 L1 L2 L3 L4 L5 L6 L7) rfl rfl rfl rfl rfl rfl ?_
 rintro v m1 ⟨t1, ht1, rfl, rfl⟩
 have ht1 : t1 = bz := (show t1 = belB z 0 2 from ht1).trans hbz
 cbv
 refine .br (fun g1 => ?_) (fun g1 => ?_)
 ·have h1 : t1 = false := by simpa [hI, ints] using g1
  have h9 := hno (by rw [← ht1, h1])
  cbv
  exact hP _ _ [0, 1, 2, 3, 4, 5, 6, 7, 8, 9, 10, 11, 12, 13, 14, 15, 16, 17] [] _ _ (by decide) rfl rfl rfl rfl rfl ⟨_, h9 _ rfl, .inl ⟨hF', rfl⟩⟩
 have h2 : t1 = true := by simpa [hI, ints] using g1
 obtain ⟨j, hj, hjn⟩ := hbl (by rw [← ht1]; exact h2)
 have htk := fun (p : List PK) (r : PK) (L' : List (List G)) (h1 : [p0, p1, p2, p3, p4, p5, p6, p7][4 * j + 1]? = some p) (h2 : p[0]? = some r) (h3 : isP L' (p.eraseIdx 0)) => take_yes hF' h1 h2 h3
 have hk1 : Kp [2 + 8 * j, 3 + 8 * j, 4 + 8 * j, 5 + 8 * j, 6 + 8 * j, 7 + 8 * j, 8 + 8 * j, 9 + 8 * j] := ⟨⟩
 have hk2 : Kp [4 + 8 * j, 5 + 8 * j] := ⟨⟩
 have hcs : j = 0 ∨ j = 1 := by omega
 clear hjn hbl ht1 g1 hbz hno
 cbv
 rcases hcs with rfl | rfl
 all_goals
  refine .idx _ hj (by decide) ?_
  cbv
  refine .go (sOf hk1) [] [] (sort_ hp (.sym true) o i _ _ _ _) rfl rfl rfl rfl rfl rfl ?_
  rintro v m1 ⟨⟨hs, rfl⟩ | ⟨hs, rfl⟩, rfl⟩
  ·have h9 := htk
   cbv
   refine .go (sOf hk2) [] [] (k_take hp _ _ _ (by assumption) (okQ.len (by assumption)) (by assumption)) rfl rfl rfl rfl rfl rfl ?_
   rintro v m1 (⟨h, rfl, rfl⟩ | ⟨r, D, L', hr, hD, hL', rfl, rfl⟩)
   ·subst h
    cbv
    exact hP _ _ [0, 1, 2, 3, 4, 5, 6, 7, 8, 9, 10, 11, 12, 13, 14, 15, 16, 17] [] _ _ (by decide) rfl rfl rfl rfl rfl ⟨_, .inl ⟨.inr rfl, rfl, .inr ⟨_, hj, by decide, rfl⟩⟩, .inl ⟨hF', rfl⟩⟩
   ·have h9 := htk _ _ _ rfl hr hL'
    obtain ⟨p', q1, q2, q3⟩ := h9
    cbv
    exact hP _ _ [0, 1, 2, 3, 4, 5, 6, 7, 8, 9, 10, 11, 12, 13, 14, 15, 16, 17, 19] [20] _ _ (by decide) rfl rfl rfl rfl rfl ⟨_, .inr ⟨r, D, p', _, rfl, hD, hj, by decide, q1, rfl, q3⟩, .inr (.inl ⟨_, L', by decide, q2, rfl⟩)⟩
  ·cases hs
theorem requestU2 (z : Z) (o i : Int) (h0 : 0 ≤ o) (h1 : o ≤ 999999) (g0 : 0 ≤ i) (g1 : i ≤ 999999) (L0 L1 L2 L3 L4 L5 L6 L7 : List (List G)) (ps : List (List PK)) (hF : FIs 2 o i 0 [L0, L1, L2, L3, L4, L5, L6, L7] ps) : LValid P 15 [.c (.ptr 0 (.lit 0) 1 0), .c (.g (.int .i64 z))] (fabM o i 2 [L0, L1, L2, L3, L4, L5, L6, L7])
  (fun v m1 => ∃ (M0 M1 M2 M3 M4 M5 M6 M7 : List (List G)) (ps' : List (List PK)), TakeV 2 ps z.val 1 v ps' ∧ FIs 2 o i 0 [M0, M1, M2, M3, M4, M5, M6, M7] ps' ∧ m1 = fabU o i 2 [M0, M1, M2, M3, M4, M5, M6, M7]) := by
 refine LValid.sy ?_
 show LValid P 15 [.c (.ptr 0 (.lit 0) 1 0), .c (.g (.int .i64 (.sym z.val)))] _ _
 generalize z.val = z
 have htk := takeRequest2 hp (.sym z) o i h0 h1 g0 g1 L0 L1 L2 L3 L4 L5 L6 L7 ps hF
 rw [show (Z.sym z).val = z from rfl] at htk
 have htk := htk.mono (R' := fun v m1 => ∃ (M0 M1 M2 M3 M4 M5 M6 M7 : List (List G)) (ps' : List (List PK)) (r : PK) (b : Bool) (D : List (List G)), v = .tup [r.told (.g (.rows 1 D)), gb b] ∧ (∀ v, v = .tup [r.told (.g (.rows 1 D)), gb b] → TakeV 2 ps z 1 v ps') ∧ FIs 2 o i 0 [M0, M1, M2, M3, M4, M5, M6, M7] ps' ∧ m1 = fabU o i 2 [M0, M1, M2, M3, M4, M5, M6, M7]) (fun v m1 ⟨M0, M1, M2, M3, M4, M5, M6, M7, ps', ⟨r, b, D, h1, h2⟩, h3⟩ => ⟨M0, M1, M2, M3, M4, M5, M6, M7, ps', r, b, D, h1, fun v hv => ⟨r, b, D, hv, h2⟩, h3⟩)
 obtain ⟨I, hI⟩ := ref
 refine fn_sim hI (mo hp) (cc hp c15) fun Post hP => ?_
 generalize TakeV 2 ps z 1 = TV at htk hP
 cbv
 refine .go [0, 1, 2, 3, 4, 5, 6, 7, 8, 9, 10, 11, 12, 13, 14, 15, 16, 17] [] [] htk rfl rfl rfl rfl rfl rfl ?_
 rintro v m1 ⟨M0, M1, M2, M3, M4, M5, M6, M7, ps', r, b, D, rfl, hT, hF1, rfl⟩
 cbv
 exact hP _ _ [0, 1, 2, 3, 4, 5, 6, 7, 8, 9, 10, 11, 12, 13, 14, 15, 16, 17, 19, 20, 21, 22, 23, 24, 25, 26] [] _ _ (by decide) rfl rfl rfl rfl rfl ⟨M0, M1, M2, M3, M4, M5, M6, M7, ps', hT _ rfl, hF1, rfl⟩
set_option maxHeartbeats 16000000 in
theorem takeReply2 (z : Z) (o i : Int) (h0 : 0 ≤ o) (h1 : o ≤ 999999) (g0 : 0 ≤ i) (g1 : i ≤ 999999) (L0 L1 L2 L3 L4 L5 L6 L7 : List (List G)) (ps : List (List PK)) (hF : FIs 2 o i 0 [L0, L1, L2, L3, L4, L5, L6, L7] ps) : LValid P 42 [.c (.ptr 0 (.lit 0) 1 0), .c (.g (.int .i64 z)), .c (.g (.bool (.lit false)))] (fabM o i 2 [L0, L1, L2, L3, L4, L5, L6, L7])
  (fun v m1 => ∃ (M0 M1 M2 M3 M4 M5 M6 M7 : List (List G)) (ps' : List (List PK)), TakeV 2 ps z.val 3 v ps' ∧ FIs 2 o i 0 [M0, M1, M2, M3, M4, M5, M6, M7] ps' ∧ m1 = fabU o i 2 [M0, M1, M2, M3, M4, M5, M6, M7]) := by
 refine up2 (fun I v ps ⟨r, b, D, h, _⟩ => by subst h; exact ⟨rfl, fun _ _ => rfl⟩) (takeW ?_)
 have hF' := hF
 obtain ⟨p0, r, rfl, e0, k0, l0, hF⟩ := hF.cons2 h1 g1
 obtain ⟨p1, r, rfl, e1, k1, l1, hF⟩ := hF.cons2 h1 g1
 obtain ⟨p2, r, rfl, e2, k2, l2, hF⟩ := hF.cons2 h1 g1
 obtain ⟨p3, r, rfl, e3, k3, l3, hF⟩ := hF.cons2 h1 g1
 obtain ⟨p4, r, rfl, e4, k4, l4, hF⟩ := hF.cons2 h1 g1
 obtain ⟨p5, r, rfl, e5, k5, l5, hF⟩ := hF.cons2 h1 g1
 obtain ⟨p6, r, rfl, e6, k6, l6, hF⟩ := hF.cons2 h1 g1
 obtain ⟨p7, r, rfl, e7, k7, l7, hF⟩ := hF.cons2 h1 g1
 obtain rfl := hF.nil
 clear hF
 have h1' : o ≤ 1000000 := Int.le_trans h1 (by decide)
 have g1' : i ≤ 1000000 := Int.le_trans g1 (by decide)
 refine LValid.sy ?_
 show LValid P 42 [.c (.ptr 0 (.lit 0) 1 0), .c (.g (.int .i64 (.sym z.val))), .c (.g (.bool (.sym false)))] _ _
 generalize z.val = z
 obtain ⟨I, hI⟩ := ref
 have hbl : belB z 0 2 = true → ∃ j : Nat, isN z j ∧ j < 2 := fun h => by
  unfold belB at h
  simp only [Bool.and_eq_true, decide_eq_true_eq] at h
  exact ⟨z.toNat, by unfold isN; omega, by omega⟩
 have hno : belB z 0 2 = false → ∀ v, v = .tup [noughtL, .c (.g (.bool (.lit false)))] → TakeW 2 [p0, p1, p2, p3, p4, p5, p6, p7] z 3 v [p0, p1, p2, p3, p4, p5, p6, p7] := fun h v hv => .inl ⟨.inl hv, rfl, .inl h⟩
 refine fn_sim hI (mo hp) (cc hp c42) fun Post hP => ?_
 generalize hbz : belB z 0 2 = bz at hbl hno
 cbv
 refine .go [0, 1, 2, 3, 4, 5, 6, 7, 8, 9, 10, 11, 12, 13, 14, 15, 16, 17] [] [] (is2 hp (.sym z) o i L0 L1 L2 L3 L4 L5 L6 L7) rfl rfl rfl rfl rfl rfl ?_
 rintro v m1 ⟨t1, ht1, rfl, rfl⟩
 have ht1 : t1 = bz := (show t1 = belB z 0 2 from ht1).trans hbz
 cbv
 refine .br (fun g1 => ?_) (fun g1 => ?_)
 ·have h1 : t1 = false := by simpa [hI, ints] using g1
  have h9 := hno (by rw [← ht1, h1])
  cbv
  exact hP _ _ [0, 1, 2, 3, 4, 5, 6, 7, 8, 9, 10, 11, 12, 13, 14, 15, 16, 17] [] _ _ (by decide) rfl rfl rfl rfl rfl ⟨_, h9 _ rfl, .inl ⟨hF', rfl⟩⟩
 have h2 : t1 = true := by simpa [hI, ints] using g1
 obtain ⟨j, hj, hjn⟩ := hbl (by rw [← ht1]; exact h2)
 have htk := fun (p : List PK) (r : PK) (L' : List (List G)) (h1 : [p0, p1, p2, p3, p4, p5, p6, p7][4 * j + 3]? = some p) (h2 : p[0]? = some r) (h3 : isP L' (p.eraseIdx 0)) => take_yes hF' h1 h2 h3
 have hk1 : Kp [2 + 8 * j, 3 + 8 * j, 4 + 8 * j, 5 + 8 * j, 6 + 8 * j, 7 + 8 * j, 8 + 8 * j, 9 + 8 * j] := ⟨⟩
 have hk2 : Kp [8 + 8 * j, 9 + 8 * j] := ⟨⟩
 have hcs : j = 0 ∨ j = 1 := by omega
 clear hjn hbl ht1 g1 hbz hno
 cbv
 rcases hcs with rfl | rfl
 all_goals
  refine .idx _ hj (by decide) ?_
  cbv
  refine .go (sOf hk1) [] [] (sort_ hp (.sym false) o i _ _ _ _) rfl rfl rfl rfl rfl rfl ?_
  rintro v m1 ⟨⟨hs, rfl⟩ | ⟨hs, rfl⟩, rfl⟩
  ·cases hs
  ·have h9 := htk
   cbv
   refine .go (sOf hk2) [] [] (k_take hp _ _ _ (by assumption) (okQ.len (by assumption)) (by assumption)) rfl rfl rfl rfl rfl rfl ?_
   rintro v m1 (⟨h, rfl, rfl⟩ | ⟨r, D, L', hr, hD, hL', rfl, rfl⟩)
   ·subst h
    cbv
    exact hP _ _ [0, 1, 2, 3, 4, 5, 6, 7, 8, 9, 10, 11, 12, 13, 14, 15, 16, 17] [] _ _ (by decide) rfl rfl rfl rfl rfl ⟨_, .inl ⟨.inr rfl, rfl, .inr ⟨_, hj, by decide, rfl⟩⟩, .inl ⟨hF', rfl⟩⟩
   ·have h9 := htk _ _ _ rfl hr hL'
    obtain ⟨p', q1, q2, q3⟩ := h9
    cbv
    exact hP _ _ [0, 1, 2, 3, 4, 5, 6, 7, 8, 9, 10, 11, 12, 13, 14, 15, 16, 17, 19] [20] _ _ (by decide) rfl rfl rfl rfl rfl ⟨_, .inr ⟨r, D, p', _, rfl, hD, hj, by decide, q1, rfl, q3⟩, .inr (.inl ⟨_, L', by decide, q2, rfl⟩)⟩
theorem replyU2 (z : Z) (o i : Int) (h0 : 0 ≤ o) (h1 : o ≤ 999999) (g0 : 0 ≤ i) (g1 : i ≤ 999999) (L0 L1 L2 L3 L4 L5 L6 L7 : List (List G)) (ps : List (List PK)) (hF : FIs 2 o i 0 [L0, L1, L2, L3, L4, L5, L6, L7] ps) : LValid P 21 [.c (.ptr 0 (.lit 0) 1 0), .c (.g (.int .i64 z))] (fabM o i 2 [L0, L1, L2, L3, L4, L5, L6, L7])
  (fun v m1 => ∃ (M0 M1 M2 M3 M4 M5 M6 M7 : List (List G)) (ps' : List (List PK)), TakeV 2 ps z.val 3 v ps' ∧ FIs 2 o i 0 [M0, M1, M2, M3, M4, M5, M6, M7] ps' ∧ m1 = fabU o i 2 [M0, M1, M2, M3, M4, M5, M6, M7]) := by
 refine LValid.sy ?_
 show LValid P 21 [.c (.ptr 0 (.lit 0) 1 0), .c (.g (.int .i64 (.sym z.val)))] _ _
 generalize z.val = z
 have htk := takeReply2 hp (.sym z) o i h0 h1 g0 g1 L0 L1 L2 L3 L4 L5 L6 L7 ps hF
 rw [show (Z.sym z).val = z from rfl] at htk
 have htk := htk.mono (R' := fun v m1 => ∃ (M0 M1 M2 M3 M4 M5 M6 M7 : List (List G)) (ps' : List (List PK)) (r : PK) (b : Bool) (D : List (List G)), v = .tup [r.told (.g (.rows 1 D)), gb b] ∧ (∀ v, v = .tup [r.told (.g (.rows 1 D)), gb b] → TakeV 2 ps z 3 v ps') ∧ FIs 2 o i 0 [M0, M1, M2, M3, M4, M5, M6, M7] ps' ∧ m1 = fabU o i 2 [M0, M1, M2, M3, M4, M5, M6, M7]) (fun v m1 ⟨M0, M1, M2, M3, M4, M5, M6, M7, ps', ⟨r, b, D, h1, h2⟩, h3⟩ => ⟨M0, M1, M2, M3, M4, M5, M6, M7, ps', r, b, D, h1, fun v hv => ⟨r, b, D, hv, h2⟩, h3⟩)
 obtain ⟨I, hI⟩ := ref
 refine fn_sim hI (mo hp) (cc hp c21) fun Post hP => ?_
 generalize TakeV 2 ps z 3 = TV at htk hP
 cbv
 refine .go [0, 1, 2, 3, 4, 5, 6, 7, 8, 9, 10, 11, 12, 13, 14, 15, 16, 17] [] [] htk rfl rfl rfl rfl rfl rfl ?_
 rintro v m1 ⟨M0, M1, M2, M3, M4, M5, M6, M7, ps', r, b, D, rfl, hT, hF1, rfl⟩
 cbv
 exact hP _ _ [0, 1, 2, 3, 4, 5, 6, 7, 8, 9, 10, 11, 12, 13, 14, 15, 16, 17, 19, 20, 21, 22, 23, 24, 25, 26] [] _ _ (by decide) rfl rfl rfl rfl rfl ⟨M0, M1, M2, M3, M4, M5, M6, M7, ps', hT _ rfl, hF1, rfl⟩
theorem waitingU2 (z : Z) (o i : Int) (h0 : 0 ≤ o) (h1 : o ≤ 999999) (g0 : 0 ≤ i) (g1 : i ≤ 999999) (L0 L1 L2 L3 L4 L5 L6 L7 : List (List G)) (ps : List (List PK)) (hF : FIs 2 o i 0 [L0, L1, L2, L3, L4, L5, L6, L7] ps) : LValid P 20 [.c (.ptr 0 (.lit 0) 1 0), .c (.g (.int .i64 z))] (fabM o i 2 [L0, L1, L2, L3, L4, L5, L6, L7])
  (fun v m1 => ∃ t1 t2 : Int, v = .tup [gi .i64 t1, gi .i64 t2] ∧ m1 = (fabM o i 2 [L0, L1, L2, L3, L4, L5, L6, L7]) ∧ NumR 2 ps z.val 1 t1 ∧ NumR 2 ps z.val 3 t2) := by
 refine LValid.sy ?_
 show LValid P 20 [.c (.ptr 0 (.lit 0) 1 0), .c (.g (.int .i64 (.sym z.val)))] _ _
 generalize z.val = z
 refine LValid.syv (R := fun v m1 => ∃ t1 t2 : Z, v = .tup [.c (.g (.int .i64 t1)), .c (.g (.int .i64 t2))] ∧ m1 = (fabM o i 2 [L0, L1, L2, L3, L4, L5, L6, L7]) ∧ NumR 2 ps z 1 t1.val ∧ NumR 2 ps z 3 t2.val) ?_ (fun v m1 ⟨t1, t2, h1, h2⟩ => ⟨t1.val, t2.val, by rw [h1]; rfl, h2⟩)
 obtain ⟨I, hI⟩ := ref
 have hbl : belB z 0 2 = true → ∃ j : Nat, isN z j ∧ j < 2 := fun h => by
  unfold belB at h
  simp only [Bool.and_eq_true, decide_eq_true_eq] at h
  exact ⟨z.toNat, by unfold isN; omega, by omega⟩
 have hno : belB z 0 2 = false → ∀ k, NumR 2 ps z k 0 := fun h k => .inl ⟨h, rfl⟩
 have hyes := fun (j k : Nat) (hj : isN z j) (hjn : j < 2) (L : List (List G)) (hL : [L0, L1, L2, L3, L4, L5, L6, L7][4 * j + k]? = some L) (x : Int) (hx : isN x L.length) => show NumR 2 ps z k x from by
  obtain ⟨p, q1, q2, _⟩ := hF.at _ _ _ _ _ hL
  exact .inr ⟨j, p, hj, by omega, q1, by rw [← q2.len]; exact hx⟩
 refine fn_sim hI (mo hp) (cc hp c20) fun Post hP => ?_
 generalize NumR 2 ps z = NR at hno hyes hP
 generalize hbz : belB z 0 2 = bz at hbl hno
 cbv
 refine .go [0, 1, 2, 3, 4, 5, 6, 7, 8, 9, 10, 11, 12, 13, 14, 15, 16, 17] [] [] (is2 hp (.sym z) o i L0 L1 L2 L3 L4 L5 L6 L7) rfl rfl rfl rfl rfl rfl ?_
 rintro v m1 ⟨t1, ht1, rfl, rfl⟩
 have ht1 : t1 = bz := (show t1 = belB z 0 2 from ht1).trans hbz
 cbv
 refine .br (fun g1 => ?_) (fun g1 => ?_)
 ·have h1 : t1 = false := by simpa [hI, ints] using g1
  have h9 := hno (by rw [← ht1, h1])
  cbv
  exact hP _ _ [0, 1, 2, 3, 4, 5, 6, 7, 8, 9, 10, 11, 12, 13, 14, 15, 16, 17] [] _ _ (by decide) rfl rfl rfl rfl rfl ⟨.lit 0, .lit 0, rfl, rfl, h9 1, h9 3⟩
 have h2 : t1 = true := by simpa [hI, ints] using g1
 obtain ⟨j, hj, hjn⟩ := hbl (by rw [← ht1]; exact h2)
 have hcs : j = 0 ∨ j = 1 := by omega
 have hy1 := hyes j 1 hj hjn
 have hy3 := hyes j 3 hj hjn
 have hk1 : Kp [4 + 8 * j, 5 + 8 * j] := ⟨⟩
 have hk2 : Kp [8 + 8 * j, 9 + 8 * j] := ⟨⟩
 clear hjn hbl ht1 g1 hbz hno hyes hF
 cbv
 refine .drawn [2, 3, 4, 5, 6, 7, 8, 9, 10, 11, 12, 13, 14, 15, 16, 17] ?_
 cbv
 rcases hcs with rfl | rfl
 all_goals
  refine .idx _ hj (by decide) ?_
  cbv
  refine .idx _ hj (by decide) ?_
  cbv
  refine .go (sOf hk1) [] [] (k_len hp _ _) rfl rfl rfl rfl rfl rfl ?_
  rintro v m1 ⟨x1, hx1, rfl, rfl⟩
  cbv
  refine .go (sOf hk2) [] [] (k_len hp _ _) rfl rfl rfl rfl rfl rfl ?_
  rintro v m1 ⟨x2, hx2, rfl, rfl⟩
  cbv
  exact hP _ _ [0, 1, 2, 3, 4, 5, 6, 7, 8, 9, 10, 11, 12, 13, 14, 15, 16, 17] [] _ _ (by decide) rfl rfl rfl rfl rfl ⟨.sym x1, .sym x2, rfl, rfl, hy1 _ rfl x1 hx1, hy3 _ rfl x2 hx2⟩
theorem roomRU2 (tb : BB) (htb : tb.val = true) (z : Z) (o i : Int) (h0 : 0 ≤ o) (h1 : o ≤ 999999) (g0 : 0 ≤ i) (g1 : i ≤ 999999) (L0 L1 L2 L3 L4 L5 L6 L7 : List (List G)) (ps : List (List PK)) (hF : FIs 2 o i 0 [L0, L1, L2, L3, L4, L5, L6, L7] ps) : LValid P 17 [.c (.ptr 0 (.lit 0) 1 0), .c (.g (.int .i64 z)), .c (.g (.bool tb))] (fabM o i 2 [L0, L1, L2, L3, L4, L5, L6, L7])
  (fun v m1 => ∃ t : Int, v = i64 t ∧ m1 = (fabM o i 2 [L0, L1, L2, L3, L4, L5, L6, L7]) ∧ ((belB z.val 0 2 = false ∧ t = 0) ∨ ∃ (j : Nat) (p : List PK), isN z.val j ∧ (j : Int) < 2 ∧ ps[4 * j + 0]? = some p ∧ t = o - (p.length : Int))) := by
 have hF' := hF
 obtain ⟨p0, r, rfl, e0, k0, l0, hF⟩ := hF.cons2 h1 g1
 obtain ⟨p1, r, rfl, e1, k1, l1, hF⟩ := hF.cons2 h1 g1
 obtain ⟨p2, r, rfl, e2, k2, l2, hF⟩ := hF.cons2 h1 g1
 obtain ⟨p3, r, rfl, e3, k3, l3, hF⟩ := hF.cons2 h1 g1
 obtain ⟨p4, r, rfl, e4, k4, l4, hF⟩ := hF.cons2 h1 g1
 obtain ⟨p5, r, rfl, e5, k5, l5, hF⟩ := hF.cons2 h1 g1
 obtain ⟨p6, r, rfl, e6, k6, l6, hF⟩ := hF.cons2 h1 g1
 obtain ⟨p7, r, rfl, e7, k7, l7, hF⟩ := hF.cons2 h1 g1
 obtain rfl := hF.nil
 clear hF
 have h1' : o ≤ 1000000 := Int.le_trans h1 (by decide)
 have g1' : i ≤ 1000000 := Int.le_trans g1 (by decide)
 refine LValid.sy ?_
 show LValid P 17 [.c (.ptr 0 (.lit 0) 1 0), .c (.g (.int .i64 (.sym z.val))), .c (.g (.bool (.sym tb.val)))] _ _
 rw [htb]
 generalize z.val = z
 refine LValid.syv (R := fun v m1 => ∃ t : Z, v = .one (.c (.g (.int .i64 t))) ∧ m1 = (fabM o i 2 [L0, L1, L2, L3, L4, L5, L6, L7]) ∧ ((belB z 0 2 = false ∧ t.val = 0) ∨ ∃ (j : Nat) (p : List PK), isN z j ∧ (j : Int) < 2 ∧ [p0, p1, p2, p3, p4, p5, p6, p7][4 * j + 0]? = some p ∧ t.val = o - (p.length : Int))) ?_ (fun v m1 ⟨t, h1, h2⟩ => ⟨t.val, by rw [h1]; rfl, h2⟩)
 obtain ⟨I, hI⟩ := ref
 have hbl : belB z 0 2 = true → ∃ j : Nat, isN z j ∧ j < 2 := fun h => by
  unfold belB at h
  simp only [Bool.and_eq_true, decide_eq_true_eq] at h
  exact ⟨z.toNat, by unfold isN; omega, by omega⟩
 have hyes := fun (j : Nat) (hj : isN z j) (hjn : j < 2) (L : List (List G)) (hL : [L0, L1, L2, L3, L4, L5, L6, L7][4 * j + 0]? = some L) (x : Int) (hx : x = o - (L.length : Int)) => show ((belB z 0 2 = false ∧ x = 0) ∨ ∃ (j : Nat) (p : List PK), isN z j ∧ (j : Int) < 2 ∧ [p0, p1, p2, p3, p4, p5, p6, p7][4 * j + 0]? = some p ∧ x = o - (p.length : Int)) from by
  obtain ⟨p, q1, q2, _⟩ := hF'.at _ _ _ _ _ hL
  exact .inr ⟨j, p, hj, by omega, q1, by rw [← q2.len]; exact hx⟩
 refine fn_sim hI (mo hp) (cc hp c17) fun Post hP => ?_
 generalize hbz : belB z 0 2 = bz at hbl hP hyes
 cbv
 refine .go [0, 1, 2, 3, 4, 5, 6, 7, 8, 9, 10, 11, 12, 13, 14, 15, 16, 17] [] [] (is2 hp (.sym z) o i L0 L1 L2 L3 L4 L5 L6 L7) rfl rfl rfl rfl rfl rfl ?_
 rintro v m1 ⟨t1, ht1, rfl, rfl⟩
 have ht1 : t1 = bz := (show t1 = belB z 0 2 from ht1).trans hbz
 cbv
 refine .br (fun g1 => ?_) (fun g1 => ?_)
 ·have h1 : t1 = false := by simpa [hI, ints] using g1
  cbv
  exact hP _ _ [0, 1, 2, 3, 4, 5, 6, 7, 8, 9, 10, 11, 12, 13, 14, 15, 16, 17] [] _ _ (by decide) rfl rfl rfl rfl rfl ⟨.lit 0, rfl, rfl, .inl ⟨by rw [← ht1, h1], rfl⟩⟩
 have h2 : t1 = true := by simpa [hI, ints] using g1
 obtain ⟨j, hj, hjn⟩ := hbl (by rw [← ht1]; exact h2)
 have hcs : j = 0 ∨ j = 1 := by omega
 have hyes := hyes j hj hjn
 have hk1 : Kp [2 + 8 * j, 3 + 8 * j, 4 + 8 * j, 5 + 8 * j, 6 + 8 * j, 7 + 8 * j, 8 + 8 * j, 9 + 8 * j] := ⟨⟩
 have hk2 : Kp [2 + 8 * j, 3 + 8 * j] := ⟨⟩
 clear hjn hbl ht1 g1 hbz
 cbv
 rcases hcs with rfl | rfl
 all_goals
  refine .idx _ hj (by decide) ?_
  cbv
  refine .go (sOf hk1) [] [] (sort_ hp (.sym true) o i _ _ _ _) rfl rfl rfl rfl rfl rfl ?_
  rintro v m1 ⟨⟨hs, rfl⟩ | ⟨hs, rfl⟩, rfl⟩
  ·cbv
   refine .go (sOf hk2) [] [] (p_room hp o _ h0 h1' (by assumption)) rfl rfl rfl rfl rfl rfl ?_
   rintro v m1 ⟨x1, hx1, rfl, rfl⟩
   cbv
   exact hP _ _ [0, 1, 2, 3, 4, 5, 6, 7, 8, 9, 10, 11, 12, 13, 14, 15, 16, 17] [] _ _ (by decide) rfl rfl rfl rfl rfl ⟨.sym x1, rfl, rfl, hyes _ rfl x1 hx1⟩
  ·cases hs
theorem roomAU2 (tb : BB) (htb : tb.val = false) (z : Z) (o i : Int) (h0 : 0 ≤ o) (h1 : o ≤ 999999) (g0 : 0 ≤ i) (g1 : i ≤ 999999) (L0 L1 L2 L3 L4 L5 L6 L7 : List (List G)) (ps : List (List PK)) (hF : FIs 2 o i 0 [L0, L1, L2, L3, L4, L5, L6, L7] ps) : LValid P 17 [.c (.ptr 0 (.lit 0) 1 0), .c (.g (.int .i64 z)), .c (.g (.bool tb))] (fabM o i 2 [L0, L1, L2, L3, L4, L5, L6, L7])
  (fun v m1 => ∃ t : Int, v = i64 t ∧ m1 = (fabM o i 2 [L0, L1, L2, L3, L4, L5, L6, L7]) ∧ ((belB z.val 0 2 = false ∧ t = 0) ∨ ∃ (j : Nat) (p : List PK), isN z.val j ∧ (j : Int) < 2 ∧ ps[4 * j + 2]? = some p ∧ t = o - (p.length : Int))) := by
 have hF' := hF
 obtain ⟨p0, r, rfl, e0, k0, l0, hF⟩ := hF.cons2 h1 g1
 obtain ⟨p1, r, rfl, e1, k1, l1, hF⟩ := hF.cons2 h1 g1
 obtain ⟨p2, r, rfl, e2, k2, l2, hF⟩ := hF.cons2 h1 g1
 obtain ⟨p3, r, rfl, e3, k3, l3, hF⟩ := hF.cons2 h1 g1
 obtain ⟨p4, r, rfl, e4, k4, l4, hF⟩ := hF.cons2 h1 g1
 obtain ⟨p5, r, rfl, e5, k5, l5, hF⟩ := hF.cons2 h1 g1
 obtain ⟨p6, r, rfl, e6, k6, l6, hF⟩ := hF.cons2 h1 g1
 obtain ⟨p7, r, rfl, e7, k7, l7, hF⟩ := hF.cons2 h1 g1
 obtain rfl := hF.nil
 clear hF
 have h1' : o ≤ 1000000 := Int.le_trans h1 (by decide)
 have g1' : i ≤ 1000000 := Int.le_trans g1 (by decide)
 refine LValid.sy ?_
 show LValid P 17 [.c (.ptr 0 (.lit 0) 1 0), .c (.g (.int .i64 (.sym z.val))), .c (.g (.bool (.sym tb.val)))] _ _
 rw [htb]
 generalize z.val = z
 refine LValid.syv (R := fun v m1 => ∃ t : Z, v = .one (.c (.g (.int .i64 t))) ∧ m1 = (fabM o i 2 [L0, L1, L2, L3, L4, L5, L6, L7]) ∧ ((belB z 0 2 = false ∧ t.val = 0) ∨ ∃ (j : Nat) (p : List PK), isN z j ∧ (j : Int) < 2 ∧ [p0, p1, p2, p3, p4, p5, p6, p7][4 * j + 2]? = some p ∧ t.val = o - (p.length : Int))) ?_ (fun v m1 ⟨t, h1, h2⟩ => ⟨t.val, by rw [h1]; rfl, h2⟩)
 obtain ⟨I, hI⟩ := ref
 have hbl : belB z 0 2 = true → ∃ j : Nat, isN z j ∧ j < 2 := fun h => by
  unfold belB at h
  simp only [Bool.and_eq_true, decide_eq_true_eq] at h
  exact ⟨z.toNat, by unfold isN; omega, by omega⟩
 have hyes := fun (j : Nat) (hj : isN z j) (hjn : j < 2) (L : List (List G)) (hL : [L0, L1, L2, L3, L4, L5, L6, L7][4 * j + 2]? = some L) (x : Int) (hx : x = o - (L.length : Int)) => show ((belB z 0 2 = false ∧ x = 0) ∨ ∃ (j : Nat) (p : List PK), isN z j ∧ (j : Int) < 2 ∧ [p0, p1, p2, p3, p4, p5, p6, p7][4 * j + 2]? = some p ∧ x = o - (p.length : Int)) from by
  obtain ⟨p, q1, q2, _⟩ := hF'.at _ _ _ _ _ hL
  exact .inr ⟨j, p, hj, by omega, q1, by rw [← q2.len]; exact hx⟩
 refine fn_sim hI (mo hp) (cc hp c17) fun Post hP => ?_
 generalize hbz : belB z 0 2 = bz at hbl hP hyes
 cbv
 refine .go [0, 1, 2, 3, 4, 5, 6, 7, 8, 9, 10, 11, 12, 13, 14, 15, 16, 17] [] [] (is2 hp (.sym z) o i L0 L1 L2 L3 L4 L5 L6 L7) rfl rfl rfl rfl rfl rfl ?_
 rintro v m1 ⟨t1, ht1, rfl, rfl⟩
 have ht1 : t1 = bz := (show t1 = belB z 0 2 from ht1).trans hbz
 cbv
 refine .br (fun g1 => ?_) (fun g1 => ?_)
 ·have h1 : t1 = false := by simpa [hI, ints] using g1
  cbv
  exact hP _ _ [0, 1, 2, 3, 4, 5, 6, 7, 8, 9, 10, 11, 12, 13, 14, 15, 16, 17] [] _ _ (by decide) rfl rfl rfl rfl rfl ⟨.lit 0, rfl, rfl, .inl ⟨by rw [← ht1, h1], rfl⟩⟩
 have h2 : t1 = true := by simpa [hI, ints] using g1
 obtain ⟨j, hj, hjn⟩ := hbl (by rw [← ht1]; exact h2)
 have hcs : j = 0 ∨ j = 1 := by omega
 have hyes := hyes j hj hjn
 have hk1 : Kp [2 + 8 * j, 3 + 8 * j, 4 + 8 * j, 5 + 8 * j, 6 + 8 * j, 7 + 8 * j, 8 + 8 * j, 9 + 8 * j] := ⟨⟩
 have hk2 : Kp [6 + 8 * j, 7 + 8 * j] := ⟨⟩
 clear hjn hbl ht1 g1 hbz
 cbv
 rcases hcs with rfl | rfl
 all_goals
  refine .idx _ hj (by decide) ?_
  cbv
  refine .go (sOf hk1) [] [] (sort_ hp (.sym false) o i _ _ _ _) rfl rfl rfl rfl rfl rfl ?_
  rintro v m1 ⟨⟨hs, rfl⟩ | ⟨hs, rfl⟩, rfl⟩
  ·cases hs
  ·cbv
   refine .go (sOf hk2) [] [] (p_room hp o _ h0 h1' (by assumption)) rfl rfl rfl rfl rfl rfl ?_
   rintro v m1 ⟨x1, hx1, rfl, rfl⟩
   cbv
   exact hP _ _ [0, 1, 2, 3, 4, 5, 6, 7, 8, 9, 10, 11, 12, 13, 14, 15, 16, 17] [] _ _ (by decide) rfl rfl rfl rfl rfl ⟨.sym x1, rfl, rfl, hyes _ rfl x1 hx1⟩
set_option maxHeartbeats 64000000 in
theorem del2 (z : Z) (hzr : -9223372036854775808 ≤ z.val ∧ z.val ≤ 9223372036854775807) (bz : Z) (hb : -9223372036854775808 ≤ bz.val ∧ bz.val ≤ 9223372036854775807) (mz : Z) (mask : BitVec 16) (hm : mz.val = w16 mask) (o i : Int) (h0 : 0 ≤ o) (h1 : o ≤ 999999) (g0 : 0 ≤ i) (g1 : i ≤ 999999) (L0 L1 L2 L3 L4 L5 L6 L7 : List (List G)) (ps : List (List PK)) (hF : FIs 2 o i 0 [L0, L1, L2, L3, L4, L5, L6, L7] ps) : LValid P 14 [.c (.ptr 0 (.lit 0) 1 0), .c (.g (.int .i64 z)), .c (.g (.int .i64 bz)), .c (.g (.int .u16 mz))] (fabM o i 2 [L0, L1, L2, L3, L4, L5, L6, L7])
  (fun v m1 => ∃ ps', (∃ t, v = i64 t ∧ DelR i ps z.val bz.val mask t ps') ∧ Mv 2 2 o i [L0, L1, L2, L3, L4, L5, L6, L7] ps' m1) := by
 have hpk := fun (z : Int) (hzr : -9223372036854775808 ≤ z ∧ z ≤ 9223372036854775807) => packet2 hp (.sym z) hzr o i h0 h1 g0 g1 L0 L1 L2 L3 L4 L5 L6 L7 ps hF
 have hF' := hF
 obtain ⟨p0, r, rfl, e0, k0, l0, hF⟩ := hF.cons2 h1 g1
 obtain ⟨p1, r, rfl, e1, k1, l1, hF⟩ := hF.cons2 h1 g1
 obtain ⟨p2, r, rfl, e2, k2, l2, hF⟩ := hF.cons2 h1 g1
 obtain ⟨p3, r, rfl, e3, k3, l3, hF⟩ := hF.cons2 h1 g1
 obtain ⟨p4, r, rfl, e4, k4, l4, hF⟩ := hF.cons2 h1 g1
 obtain ⟨p5, r, rfl, e5, k5, l5, hF⟩ := hF.cons2 h1 g1
 obtain ⟨p6, r, rfl, e6, k6, l6, hF⟩ := hF.cons2 h1 g1
 obtain ⟨p7, r, rfl, e7, k7, l7, hF⟩ := hF.cons2 h1 g1
 obtain rfl := hF.nil
 clear hF
 have h1' : o ≤ 1000000 := Int.le_trans h1 (by decide)
 have g1' : i ≤ 1000000 := Int.le_trans g1 (by decide)
 refine LValid.sy ?_
 show LValid P 14 [.c (.ptr 0 (.lit 0) 1 0), .c (.g (.int .i64 (.sym z.val))), gi .i64 bz.val, gi .u16 mz.val] _ _
 generalize z.val = z at hzr
 generalize bz.val = bit at hb
 generalize mz.val = qm at hm
 refine LValid.syv (R := fun v m1 => ∃ ps', (∃ t : Z, v = .one (.c (.g (.int .i64 t))) ∧ DelR i [p0, p1, p2, p3, p4, p5, p6, p7] z bit mask t.val ps') ∧ Mv 2 2 o i [L0, L1, L2, L3, L4, L5, L6, L7] ps' m1) ?_ (fun v m1 ⟨ps', ⟨t, h1, h2⟩, h3⟩ => ⟨ps', ⟨t.val, by rw [h1]; rfl, h2⟩, h3⟩)
 obtain ⟨I, hI⟩ := ref
 have hun : sumLen 4 [L0, L2, L4, L6] = (under [p0, p1, p2, p3, p4, p5, p6, p7]).length := (lenTo_is 4 _ _ 0 hF').trans (lenTo_all 4 _ (Nat.le_refl _))
 have hto : ∀ q, sumLen q [L0, L2, L4, L6] = lenTo q (evens [p0, p1, p2, p3, p4, p5, p6, p7]) := fun q => lenTo_is q _ _ 0 hF'
 have hpk := hpk z hzr
 refine fn_sim hI (mo hp) (cc hp c14) fun Post hP => ?_
 have hno : (z < 0 ∨ (((under [p0, p1, p2, p3, p4, p5, p6, p7]).length : Nat) : Int) ≤ z) → DelR i [p0, p1, p2, p3, p4, p5, p6, p7] z bit mask 3 [p0, p1, p2, p3, p4, p5, p6, p7] := fun h => .inl ⟨rfl, h, rfl⟩
 cbv
 refine .go [0, 1, 2, 3, 4, 5, 6, 7, 8, 9, 10, 11, 12, 13, 14, 15, 16, 17] [] [] hpk rfl rfl rfl rfl rfl rfl ?_
 rintro v m1 (⟨q, n, ps', r, D, hq, hr, hz, hD, rfl, rfl⟩ | ⟨h, rfl, rfl⟩)
 rotate_left
 ·have h9 := hno h
  cbv
  refine br_t (show I.not false = true from by rw [hI]; rfl) ?_
  cbv
  exact hP _ _ [0, 1, 2, 3, 4, 5, 6, 7, 8, 9, 10, 11, 12, 13, 14, 15, 16, 17] [] _ _ (by decide) rfl rfl rfl rfl rfl ⟨_, ⟨.lit 3, rfl, h9⟩, .inl ⟨hF', rfl⟩⟩
 have h9 := hF'.get _ _ _ (2 * q) _ (by rw [← evens_get]; exact hq)
 obtain ⟨La, hLa, hPa, hok, _⟩ := h9
 have hLa : [L0, L2, L4, L6][q]? = some La := (evens_get [L0, L1, L2, L3, L4, L5, L6, L7] q).trans hLa
 have hla : La.length ≤ 1000000 := by
  have hm := List.mem_of_getElem? hLa
  simp only [List.mem_cons, List.not_mem_nil, or_false] at hm
  rcases hm with rfl | rfl | rfl | rfl <;> assumption
 have hcs : q = 0 ∨ q = 1 ∨ q = 2 ∨ q = 3 := by
  have := (List.getElem?_eq_some_iff.1 hLa).1
  simp only [List.length_cons, List.length_nil] at this
  omega
 have hz : z = ((lenTo q (evens [p0, p1, p2, p3, p4, p5, p6, p7]) + n : Nat) : Int) := hz
 have hzs : z = ((sumLen q [L0, L2, L4, L6] + n : Nat) : Int) := by rw [hto]; exact hz
 have hna : n < La.length := by rw [hPa.len]; exact (List.getElem?_eq_some_iff.1 hr).1
 have huni : ∀ (q2 n2 : Nat) (L : List (List G)), [L0, L2, L4, L6][q2]? = some L → z = ((sumLen q2 [L0, L2, L4, L6] + n2 : Nat) : Int) → n2 < L.length → q = q2 ∧ n = n2 := fun q2 n2 L u1 u2 u3 => sumLen_uniq _ _ _ _ _ _ _ hLa u1 hna u3 (by rw [hzs] at u2; exact Int.ofNat.inj u2)
 have hbig : ¬ (z < 0 ∨ ((sumLen 4 [L0, L2, L4, L6] : Nat) : Int) ≤ z) := sumLen_big hzs hLa hna (show [L0, L2, L4, L6].length = 4 from rfl)
 have h9 := hok r (List.mem_of_getElem? hr)
 obtain ⟨hsd, hdy⟩ := h9
 have hd1 := okQ.len hok _ (List.mem_of_getElem? hr)
 have hspoil : wireB r bit mask = false → DelR i [p0, p1, p2, p3, p4, p5, p6, p7] z bit mask 2 [p0, p1, p2, p3, p4, p5, p6, p7] := fun hw => .inr ⟨q, n, ps', r, hq, hr, hz, .inl ⟨rfl, hw, rfl⟩⟩
 have hdl := (place_lt (n := 2) (N := 2) rfl hsd).2
 have hfull : wireB r bit mask = true → ∀ (c : Nat) (L : List (List G)), c = dest r → [L0, L1, L2, L3, L4, L5, L6, L7][c]? = some L → (L.length : Int) = roomQ i r → DelR i [p0, p1, p2, p3, p4, p5, p6, p7] z bit mask 5 [p0, p1, p2, p3, p4, p5, p6, p7] := fun hw c L hc hL h6 => by
  obtain ⟨pq, q1, q2, _⟩ := hF'.at _ _ _ _ _ hL
  exact .inr ⟨q, n, ps', r, hq, hr, hz, .inr ⟨hw, pq, hc ▸ q1, .inl ⟨rfl, by rw [← q2.len]; exact h6, rfl⟩⟩⟩
 have hput2 : wireB r bit mask = true → ∀ (c : Nat) (L X1 : List (List G)), c = dest r → [L0, L1, L2, L3, L4, L5, L6, L7][c]? = some L → (L.length : Int) ≠ roomQ i r → X1 = L ++ [r.row (nrow .i64 r.d)] → ∃ pq, isP X1 (pq ++ [r]) ∧ X1.length ≤ 1000000 ∧
   ∀ X2, isP X2 (ps'.eraseIdx n) → DelR i [p0, p1, p2, p3, p4, p5, p6, p7] z bit mask 0 (([p0, p1, p2, p3, p4, p5, p6, p7].set c (pq ++ [r])).set (2 * q) (ps'.eraseIdx n)) ∧ FIs 2 o i 0 ((List.set [L0, L1, L2, L3, L4, L5, L6, L7] c X1).set (2 * q) X2) (([p0, p1, p2, p3, p4, p5, p6, p7].set c (pq ++ [r])).set (2 * q) (ps'.eraseIdx n)) := fun hw c L X1 hc hL h6 hX => by
  obtain ⟨pq, q1, q2, _, q4⟩ := hF'.at _ _ _ _ _ hL
  have hX1 : isP X1 (pq ++ [r]) := by rw [hX]; exact q2.add (q := r) (show isL .i64 (nrow .i64 r.d) r.d from rfl)
  rw [hc, room_dest] at q4
  refine ⟨pq, hX1, ?_, fun X2 hX2 => ?_⟩
  ·rw [hX1.len, List.length_append]
   have : roomQ i r ≤ 999999 := by unfold roomQ; split <;> omega
   show pq.length + 1 ≤ _
   omega
  ·subst hc
   exact del_yes hF' hq hr hz hw q1 hL h6 hX1 hX2
 clear hno hzs hto hun hpk
 obtain ⟨k, f, t, i2, l, p, s, b, d⟩ := r
 have hD : isL .i64 D d := hD
 have hd1 : d.length * 8 ≤ 140737488355328 := hd1
 have htj : ∃ j : Nat, isN t j ∧ j < 2 ∧ t.toNat = j := by
  unfold sendB at hsd
  simp only [Bool.and_eq_true] at hsd
  have h := hsd.2
  unfold belB at h
  simp only [Bool.and_eq_true, decide_eq_true_eq] at h
  exact ⟨t.toNat, by unfold isN; omega, by omega, rfl⟩
 have hwi := wire_ hp ⟨k, f, t, i2, l, p, s, b, d⟩ D hD hdy bit hb qm mask hm
 have hreq := request hp (.sym k)
 rw [show (Z.sym k).val = k from rfl] at hreq
 have hdr : reqB k = true → 4 * t.toNat + 1 = dest ⟨k, f, t, i2, l, p, s, b, d⟩ ∧ roomQ i ⟨k, f, t, i2, l, p, s, b, d⟩ = i := fun h => by
  constructor
  ·show _ = 4 * t.toNat + (if reqB k then 1 else 3)
   rw [h]
   rfl
  ·show (if reqB k then i else 1) = i
   rw [h]
   rfl
 have hda : reqB k = false → 4 * t.toNat + 3 = dest ⟨k, f, t, i2, l, p, s, b, d⟩ ∧ roomQ i ⟨k, f, t, i2, l, p, s, b, d⟩ = 1 := fun h => by
  constructor
  ·show _ = 4 * t.toNat + (if reqB k then 1 else 3)
   rw [h]
   rfl
  ·show (if reqB k then i else 1) = 1
   rw [h]
   rfl
 have hrow : ∀ (D2 : List (List G)), isL .i64 D2 d → PK.row ⟨k, f, t, i2, l, p, s, b, d⟩ D2 = PK.row ⟨k, f, t, i2, l, p, s, b, d⟩ (nrow .i64 d) := fun D2 h => by rw [show D2 = nrow .i64 d from h]
 have hput2 := fun hw (D2 : List (List G)) (hD2 : isL .i64 D2 d) c L X1 h1 h2 h3 (h4 : X1 = L ++ [PK.row ⟨k, f, t, i2, l, p, s, b, d⟩ D2]) => hput2 hw c L X1 h1 h2 h3 (by rw [h4, hrow D2 hD2])
 clear hsd hdy hdl hrow hna
 generalize wireB ⟨k, f, t, i2, l, p, s, b, d⟩ bit mask = wb at hwi hspoil hfull hput2
 generalize roomQ i ⟨k, f, t, i2, l, p, s, b, d⟩ = rq0 at hdr hda hfull hput2
 generalize dest ⟨k, f, t, i2, l, p, s, b, d⟩ = de at hdr hda hfull hput2
 cbv
 refine br_f (show I.not true = false from by rw [hI]; rfl) ?_
 cbv
 refine .go [] [] [.bor 1] hwi rfl rfl rfl rfl rfl rfl ?_
 rintro v m1 (⟨hw, D2, hD2, rfl, rfl⟩ | ⟨hw, rfl, rfl⟩)
 rotate_left
 ·have h9 := hspoil hw
  cbv
  refine br_t (show I.cmp .neq 2 0 = true from by rw [hI]; rfl) ?_
  cbv
  exact hP _ _ [0, 1, 2, 3, 4, 5, 6, 7, 8, 9, 10, 11, 12, 13, 14, 15, 16, 17] [] _ _ (by decide) rfl rfl rfl rfl rfl ⟨_, ⟨.sym 2, rfl, h9⟩, .inl ⟨hF', rfl⟩⟩
 have hfull := hfull hw
 have hput2 := hput2 hw D2 hD2
 have hD2 : isL .i64 D2 d := hD2
 have hd2 : D2.length * 8 ≤ 140737488355328 := by rw [hD2.len]; exact hd1
 obtain ⟨j, hj, hjn, hjt⟩ := htj
 rw [hjt] at hdr hda
 have hk1 : Kp [2 + 8 * j, 3 + 8 * j, 4 + 8 * j, 5 + 8 * j, 6 + 8 * j, 7 + 8 * j, 8 + 8 * j, 9 + 8 * j] := ⟨⟩
 have hkr : Kp [4 + 8 * j, 5 + 8 * j] := ⟨⟩
 have hka : Kp [8 + 8 * j, 9 + 8 * j] := ⟨⟩
 have hkfr : Kp (List.set [0, 1, 2, 3, 4, 5, 6, 7, 8, 9, 10, 11, 12, 13, 14, 15, 16, 17] (5 + 8 * j) 19) := ⟨⟩
 have hkfa : Kp (List.set [0, 1, 2, 3, 4, 5, 6, 7, 8, 9, 10, 11, 12, 13, 14, 15, 16, 17] (9 + 8 * j) 19) := ⟨⟩
 have hjs : j = 0 ∨ j = 1 := by omega
 clear hwi hjn hspoil hjt hw
 cbv
 refine br_f (show I.cmp .neq 0 0 = false from by rw [hI]; rfl) ?_
 cbv
 refine .drawn [2, 3, 4, 5, 6, 7, 8, 9, 10, 11, 12, 13, 14, 15, 16, 17] ?_
 cbv
 rcases hjs with rfl | rfl
 all_goals
  refine .idx _ hj (by decide) ?_
  cbv
  refine .go [] [] [] hreq rfl rfl rfl rfl rfl rfl ?_
  rintro v m1 ⟨rq, hrq, rfl, rfl⟩
  cbv
  refine .go (sOf hk1) [] [] (sort_ hp (.sym rq) o i _ _ _ _) rfl rfl rfl rfl rfl rfl ?_
  rintro v m1 ⟨⟨hs, rfl⟩ | ⟨hs, rfl⟩, rfl⟩
  ·have hs : rq = true := hs
   have h9 := hdr (hrq.symm.trans hs)
   obtain ⟨hde, hrm⟩ := h9
   cbv
   refine .go (sOf hkr) [] [.keep, .bor 1] (k_put hp ⟨.sym k, .sym f, .sym t, .sym i2, .sym l, .sym p, .sym s, .sym b⟩ D2 d hD2 hd2 _ _ (by first | assumption | decide) (by first | assumption | decide) (by assumption)) rfl rfl rfl rfl rfl rfl ?_
   rintro v m1 ⟨t2, rfl, ⟨rfl, h6, rfl⟩ | ⟨rfl, h6, X1, hX1, rfl⟩⟩
   ·have h9 := hfull _ _ hde rfl (by rw [hrm]; exact h6)
    cbv
    refine br_t (show I.cmp .neq 5 0 = true from by rw [hI]; rfl) ?_
    cbv
    exact hP _ _ [0, 1, 2, 3, 4, 5, 6, 7, 8, 9, 10, 11, 12, 13, 14, 15, 16, 17] [] _ _ (by decide) rfl rfl rfl rfl rfl ⟨_, ⟨.sym 5, rfl, h9⟩, .inl ⟨hF', rfl⟩⟩
   ·have h9 := hput2 _ _ _ hde rfl (by rw [hrm]; exact h6) hX1
    obtain ⟨pq, hX1, lX, hfin⟩ := h9
    clear hX1 h6
    cbv
    refine br_f (show I.cmp .neq 0 0 = false from by rw [hI]; rfl) ?_
    cbv
    refine .go (sOf hkfr) [] [] (find2 hp (.sym z) hzr o i _ _ _ _ _ _ _ _ (by assumption) (by assumption) (by assumption) (by assumption) (by assumption) (by assumption) (by assumption) (by assumption)) rfl rfl rfl rfl rfl rfl ?_
    rintro v m1 (⟨q2, n2, x, L, hq2, hx, hz2, hn, rfl, rfl⟩ | ⟨h, rfl, rfl⟩)
    ·have h9 := huni q2 n2 L hq2 hz2 hn
     obtain ⟨h7, h8⟩ := h9
     subst h7
     subst h8
     cases hq2.symm.trans hLa
     have hkq : Kp [2 + 4 * q, 3 + 4 * q] := ⟨⟩
     clear huni
     rcases (show q = 0 ∨ q = 1 ∨ q = 2 ∨ q = 3 from hcs) with rfl | rfl | rfl | rfl
     all_goals
      cases hLa
      cbv
      refine .go (sOf hkq) [] [] (p_remove hp (.sym x) _ _ ps' hPa (okQ.len hok) hla) rfl rfl rfl rfl rfl rfl ?_
      rintro v m1 (⟨h, _⟩ | ⟨n3, r3, D3, LR, hn3, hr3, hD3, hLR, rfl, rfl⟩)
      ·exact absurd h (notOut hx (lenIs hPa hn))
      ·obtain rfl : n3 = n := isN_eq hn3 hx
       have h9 := hfin LR hLR
       cbv
       exact hP _ _ [0, 1, 2, 3, 4, 5, 6, 7, 8, 9, 10, 11, 12, 13, 14, 15, 16, 17, 19, 21] [] _ _ (by decide) rfl rfl rfl rfl rfl ⟨_, ⟨.lit 0, rfl, h9.1⟩, .inr (.inr ⟨_, _, X1, LR, by decide, by decide, by decide, h9.2, rfl⟩)⟩
    ·exact absurd h hbig
  ·have hs : rq = false := hs
   have h9 := hda (hrq.symm.trans hs)
   obtain ⟨hde, hrm⟩ := h9
   cbv
   refine .go (sOf hka) [] [.keep, .bor 1] (k_put hp ⟨.sym k, .sym f, .sym t, .sym i2, .sym l, .sym p, .sym s, .sym b⟩ D2 d hD2 hd2 _ _ (by first | assumption | decide) (by first | assumption | decide) (by assumption)) rfl rfl rfl rfl rfl rfl ?_
   rintro v m1 ⟨t2, rfl, ⟨rfl, h6, rfl⟩ | ⟨rfl, h6, X1, hX1, rfl⟩⟩
   ·have h9 := hfull _ _ hde rfl (by rw [hrm]; exact h6)
    cbv
    refine br_t (show I.cmp .neq 5 0 = true from by rw [hI]; rfl) ?_
    cbv
    exact hP _ _ [0, 1, 2, 3, 4, 5, 6, 7, 8, 9, 10, 11, 12, 13, 14, 15, 16, 17] [] _ _ (by decide) rfl rfl rfl rfl rfl ⟨_, ⟨.sym 5, rfl, h9⟩, .inl ⟨hF', rfl⟩⟩
   ·have h9 := hput2 _ _ _ hde rfl (by rw [hrm]; exact h6) hX1
    obtain ⟨pq, hX1, lX, hfin⟩ := h9
    clear hX1 h6
    cbv
    refine br_f (show I.cmp .neq 0 0 = false from by rw [hI]; rfl) ?_
    cbv
    refine .go (sOf hkfa) [] [] (find2 hp (.sym z) hzr o i _ _ _ _ _ _ _ _ (by assumption) (by assumption) (by assumption) (by assumption) (by assumption) (by assumption) (by assumption) (by assumption)) rfl rfl rfl rfl rfl rfl ?_
    rintro v m1 (⟨q2, n2, x, L, hq2, hx, hz2, hn, rfl, rfl⟩ | ⟨h, rfl, rfl⟩)
    ·have h9 := huni q2 n2 L hq2 hz2 hn
     obtain ⟨h7, h8⟩ := h9
     subst h7
     subst h8
     cases hq2.symm.trans hLa
     have hkq : Kp [2 + 4 * q, 3 + 4 * q] := ⟨⟩
     clear huni
     rcases (show q = 0 ∨ q = 1 ∨ q = 2 ∨ q = 3 from hcs) with rfl | rfl | rfl | rfl
     all_goals
      cases hLa
      cbv
      refine .go (sOf hkq) [] [] (p_remove hp (.sym x) _ _ ps' hPa (okQ.len hok) hla) rfl rfl rfl rfl rfl rfl ?_
      rintro v m1 (⟨h, _⟩ | ⟨n3, r3, D3, LR, hn3, hr3, hD3, hLR, rfl, rfl⟩)
      ·exact absurd h (notOut hx (lenIs hPa hn))
      ·obtain rfl : n3 = n := isN_eq hn3 hx
       have h9 := hfin LR hLR
       cbv
       exact hP _ _ [0, 1, 2, 3, 4, 5, 6, 7, 8, 9, 10, 11, 12, 13, 14, 15, 16, 17, 19, 21] [] _ _ (by decide) rfl rfl rfl rfl rfl ⟨_, ⟨.lit 0, rfl, h9.1⟩, .inr (.inr ⟨_, _, X1, LR, by decide, by decide, by decide, h9.2, rfl⟩)⟩
    ·exact absurd h hbig
theorem deliverU2 (z : Z) (hzr : -9223372036854775808 ≤ z.val ∧ z.val ≤ 9223372036854775807) (bz : Z) (hb : -9223372036854775808 ≤ bz.val ∧ bz.val ≤ 9223372036854775807) (mz : Z) (mask : BitVec 16) (hm : mz.val = w16 mask) (o i : Int) (h0 : 0 ≤ o) (h1 : o ≤ 999999) (g0 : 0 ≤ i) (g1 : i ≤ 999999) (L0 L1 L2 L3 L4 L5 L6 L7 : List (List G)) (ps : List (List PK)) (hF : FIs 2 o i 0 [L0, L1, L2, L3, L4, L5, L6, L7] ps) : LValid P 14 [.c (.ptr 0 (.lit 0) 1 0), .c (.g (.int .i64 z)), .c (.g (.int .i64 bz)), .c (.g (.int .u16 mz))] (fabM o i 2 [L0, L1, L2, L3, L4, L5, L6, L7])
  (fun v m1 => ∃ (M0 M1 M2 M3 M4 M5 M6 M7 : List (List G)) (ps' : List (List PK)), (∃ t, v = i64 t ∧ DelR i ps z.val bz.val mask t ps') ∧ FIs 2 o i 0 [M0, M1, M2, M3, M4, M5, M6, M7] ps' ∧ m1 = fabU o i 2 [M0, M1, M2, M3, M4, M5, M6, M7]) :=
 up2 (fun I v ps ⟨t, h, _⟩ => by subst h; exact ⟨rfl, fun _ _ => rfl⟩) (del2 hp z hzr bz hb mz mask hm o i h0 h1 g0 g1 L0 L1 L2 L3 L4 L5 L6 L7 ps hF)
end
end Go.Proofs.Ytofdnnjkfpomcaa.E

/- The network of 2 nodes: New. -/
namespace Go.Proofs.Ytofdnnjkfpomcaa.E
open Go
set_option linter.unusedVariables false
set_option maxRecDepth 100000
section
variable {P : Program} (hp : P = Try.prog)
include hp
set_option maxHeartbeats 16000000 in
theorem new2 (z0 z1 z2 z3 z4 z5 z6 : Z) (l : List (List G)) (hN : z0.val = 2) : LValid P 8 [.agg [.g (.int .i64 z0), .g (.int .i64 z1), .g (.int .i64 z2), .g (.int .i64 z3), .g (.int .i64 z4), .g (.int .i64 z5), .g (.int .i64 z6), .bor 1 l]] []
  (fun v m1 => ∃ ro ri : Int, ro = max 0 z5.val ∧ ri = max 0 z6.val ∧ v = .one (.c (.ptr 0 (.lit 0) 1 0)) ∧ m1 = fabM ro ri 2 [[], [], [], [], [], [], [], []]) := by
 refine LValid.sy ?_
 show LValid P 8 [.agg [.g (.int .i64 (.sym z0.val)), .g (.int .i64 (.sym z1.val)), .g (.int .i64 (.sym z2.val)), .g (.int .i64 (.sym z3.val)), .g (.int .i64 (.sym z4.val)), .g (.int .i64 (.sym z5.val)), .g (.int .i64 (.sym z6.val)), .bor 1 l]] _ _
 rw [hN]
 generalize z1.val = a1, z2.val = a2, z3.val = a3, z4.val = a4, z5.val = ou, z6.val = inn
 obtain ⟨ro, hro⟩ : ∃ ro, ro = max 0 ou := ⟨_, rfl⟩
 obtain ⟨ri, hri⟩ : ∃ ri, ri = max 0 inn := ⟨_, rfl⟩
 obtain ⟨I, hI⟩ := ref
 refine fn_sim hI (mo hp) (cc hp c8) fun Post hP => ?_
 cbv
 refine .loop_next (fun n ts m => ∃ (j : Nat) (z : Int), n = 2 - j ∧ isN z j ∧ j ≤ 2 ∧ ts = fr 34 [(1, .one (.c (.ptr 0 (.lit 0) 8 0))), (3, .one (.c (.ptr 1 (.lit 0) 1 0))), (7, i64 2), (8, i64 z)] ∧ m = newM 2 a1 a2 a3 a4 ou inn l ro ri j)
  2 _ _ [0, 1] [] [1, 3, 7, 8] (by decide) rfl rfl rfl ⟨0, 0, rfl, rfl, Nat.zero_le _, rfl, rfl⟩ ?_
 rintro next n hnext ts m ⟨j, z, hnn, hz, hj, rfl, rfl⟩
 have hz1 : isN (I.bin .add .i64 z 1) (j + 1) := by unfold isN at hz ⊢; rw [hI]; simp only [ints, rBin]; rw [wrap_in] <;> omega
 have hcm : (j < 2 → I.cmp .lss z 2 = true) ∧ (j = 2 → I.cmp .lss z 2 = false) := by
  unfold isN at hz
  rw [hI]
  simp only [ints, rCmp, decide_eq_true_eq, decide_eq_false_iff_not]
  omega
 have hcs : j = 0 ∨ j = 1 ∨ j = 2 := by omega
 clear hj
 rcases hcs with rfl | rfl | rfl
 ·have hc := hcm.1 (by decide)
  clear hcm
  cbv
  refine br_t hc ?_
  cbv
  refine .drawn [1] ?_
  repeat' first
   | (refine .both ?_ ?_ <;> cbv)
   | (refine .go [] [] [] (p_new hp (.sym ou)) rfl rfl rfl rfl rfl rfl ?_; rintro v m1 ⟨rm, hrm, rfl, rfl⟩; (obtain rfl : ro = rm := (hrm.trans hro.symm).symm); cbv)
   | (refine .go [] [] [] (k_new hp (.sym inn)) rfl rfl rfl rfl rfl rfl ?_; rintro v m1 ⟨rm, hrm, rfl, rfl⟩; (obtain rfl : ri = rm := (hrm.trans hri.symm).symm); cbv)
   | (refine .go [] [] [] (k_new hp (.lit 1)) rfl rfl rfl rfl rfl rfl ?_; rintro v m1 ⟨rm, hrm, rfl, rfl⟩; (obtain rfl : rm = 1 := hrm); cbv)
   | (refine .most (by decide) (by decide) ?_; cbv)
  all_goals exact hnext _ _ 1 [0, 1, 11, 2, 3, 4, 5, 6, 7, 8, 9] [] [1, 3, 7, 8] _ _ (by omega) (by decide) rfl rfl rfl ⟨1, _, rfl, hz1, by decide, rfl, rfl⟩
 ·have hc := hcm.1 (by decide)
  clear hcm
  cbv
  refine br_t hc ?_
  cbv
  refine .drawn [1, 2] ?_
  repeat' first
   | (refine .both ?_ ?_ <;> cbv)
   | (refine .go [] [] [] (p_new hp (.sym ou)) rfl rfl rfl rfl rfl rfl ?_; rintro v m1 ⟨rm, hrm, rfl, rfl⟩; (obtain rfl : ro = rm := (hrm.trans hro.symm).symm); cbv)
   | (refine .go [] [] [] (k_new hp (.sym inn)) rfl rfl rfl rfl rfl rfl ?_; rintro v m1 ⟨rm, hrm, rfl, rfl⟩; (obtain rfl : ri = rm := (hrm.trans hri.symm).symm); cbv)
   | (refine .go [] [] [] (k_new hp (.lit 1)) rfl rfl rfl rfl rfl rfl ?_; rintro v m1 ⟨rm, hrm, rfl, rfl⟩; (obtain rfl : rm = 1 := hrm); cbv)
   | (refine .most (by decide) (by decide) ?_; cbv)
  all_goals exact hnext _ _ 0 [0, 1, 20, 3, 4, 5, 6, 7, 8, 9, 10, 11, 12, 13, 14, 15, 16, 17, 18] [] [1, 3, 7, 8] _ _ (by omega) (by decide) rfl rfl rfl ⟨2, _, rfl, hz1, by decide, rfl, rfl⟩
 ·have hc := hcm.2 rfl
  clear hcm
  cbv
  refine br_f hc ?_
  cbv
  exact hP _ _ [1, 2, 3, 4, 5, 6, 7, 8, 9, 10, 11, 12, 13, 14, 15, 16, 17, 18] [] _ _ (by decide) rfl rfl rfl rfl rfl ⟨ro, ri, hro, hri, rfl, rfl⟩
end
end Go.Proofs.Ytofdnnjkfpomcaa.E

/- chapletlaw06.wakes. -/
namespace Go.Proofs.Ytofdnnjkfpomcaa.E
open Go
set_option linter.unusedVariables false
set_option maxRecDepth 100000
def pkA : PK := ⟨1, 0, 1, 0, 0, 0, 0, false, []⟩
section
variable {P : Program} (hp : P = Try.prog)
include hp
set_option maxHeartbeats 16000000 in
theorem wakes6 : LValid P 16 [] [] (fun v m1 => v = boo true ∧ m1 = []) := by
 have hw1 : wireB pkA 3 (5#16) = false := by decide
 have hw0 : wireB pkA 0 (0#16) = true := by decide
 have hsd : sendB 2 pkA = true := by decide
 have hp0 : place pkA < 4 * 2 := by decide
 have hd0 : dest pkA < 4 * 2 := by decide
 refine LValid.boo ?_
 obtain ⟨I, hI⟩ := ref
 refine fn_sim hI (mo hp) (cc hp c16) fun Post hP => ?_
 cbv
 refine .go [] [] [.bor 1] (new2 hp (.lit 2) (.lit 1) (.lit 1) (.lit 1) (.lit 1) (.lit 1) (.lit 1) [] rfl) rfl rfl rfl rfl rfl rfl ?_
 rintro v m1 ⟨ro, ri, hro, hri, rfl, rfl⟩
 obtain rfl : ro = 1 := hro.trans (by decide)
 obtain rfl : ri = 1 := hri.trans (by decide)
 cbv
 have hF : FIs 2 1 1 0 [[], [], [], [], [], [], [], []] (List.replicate (4 * 2) []) := FIs.nils (by decide) (by decide) 8 0
 refine .go [0, 1, 2, 3, 4, 5, 6, 7, 8, 9, 10, 11, 12, 13, 14, 15, 16, 17] [] [] (underU2 hp 1 1 (by decide) (by decide) (by decide) (by decide) [] [] [] [] [] [] [] [] _ hF) rfl rfl rfl rfl rfl rfl ?_
 rintro v m1 ⟨t, ht, rfl, rfl⟩
 rw [under_rep] at ht
 obtain rfl : t = 0 := ht
 cbv
 refine br_f (show I.cmp .neq 0 0 = false from by rw [hI]; rfl) ?_
 cbv
 refine .go [0, 1, 2, 3, 4, 5, 6, 7, 8, 9, 10, 11, 12, 13, 14, 15, 16, 17] [] [.keep, .bor 1] (sendU2 hp ⟨.lit 1, .lit 0, .lit 1, .lit 0, .lit 0, .lit 0, .lit 0, .lit false⟩ [] [] rfl (by decide) (fun y h => by cases h) 1 1 (by decide) (by decide) (by decide) (by decide) [] [] [] [] [] [] [] [] _ hF) rfl rfl rfl rfl rfl rfl ?_
 rintro v m1 ⟨M0, M1, M2, M3, M4, M5, M6, M7, ps1, ⟨t, rfl, hS⟩, hF, rfl⟩
 have h9 := way_send (N := 2) (Int.le_refl 1) hsd (show SendR 2 1 (List.replicate (4 * 2) []) pkA t ps1 from hS)
 obtain ⟨h1, h2⟩ := h9
 subst h1 h2
 clear hS
 cbv
 refine br_f (show I.cmp .neq 0 0 = false from by rw [hI]; rfl) ?_
 cbv
 refine .go [0, 1, 2, 18, 4, 19, 6, 20, 8, 21, 10, 22, 12, 23, 14, 24, 16, 25] [] [] (underU2 hp 1 1 (by decide) (by decide) (by decide) (by decide) M0 M1 M2 M3 M4 M5 M6 M7 _ hF) rfl rfl rfl rfl rfl rfl ?_
 rintro v m1 ⟨t, ht, rfl, rfl⟩
 rw [under_one pkA _ _ hp0] at ht
 obtain rfl : t = 1 := ht
 cbv
 refine br_f (show I.cmp .neq 1 1 = false from by rw [hI]; rfl) ?_
 cbv
 refine .go [0, 1, 2, 18, 4, 19, 6, 20, 8, 21, 10, 22, 12, 23, 14, 24, 16, 25] [] [] (deliverU2 hp (.lit 0) (by decide) (.lit 3) (by decide) (.lit 5) 5#16 rfl 1 1 (by decide) (by decide) (by decide) (by decide) M0 M1 M2 M3 M4 M5 M6 M7 _ hF) rfl rfl rfl rfl rfl rfl ?_
 clear hF
 rintro v m1 ⟨M0, M1, M2, M3, M4, M5, M6, M7, ps1, ⟨t, rfl, hR⟩, hF, rfl⟩
 have h9 := (way_del (t := 0) (Int.le_refl 1) hp0 hd0 hR).1 hw1
 obtain ⟨h1, h2⟩ := h9
 subst h1 h2
 clear hR
 cbv
 refine br_f (show I.cmp .neq 2 2 = false from by rw [hI]; rfl) ?_
 cbv
 refine .go [0, 1, 2, 26, 4, 27, 6, 28, 8, 29, 10, 30, 12, 31, 14, 32, 16, 33] [] [] (deliverU2 hp (.lit 0) (by decide) (.lit 0) (by decide) (.lit 0) 0#16 rfl 1 1 (by decide) (by decide) (by decide) (by decide) M0 M1 M2 M3 M4 M5 M6 M7 _ hF) rfl rfl rfl rfl rfl rfl ?_
 clear hF
 rintro v m1 ⟨M0, M1, M2, M3, M4, M5, M6, M7, ps1, ⟨t, rfl, hR⟩, hF, rfl⟩
 have h9 := (way_del (t := 0) (Int.le_refl 1) hp0 hd0 hR).2 hw0
 obtain ⟨h1, h2⟩ := h9
 subst h1 h2
 clear hR
 cbv
 refine br_f (show I.cmp .neq 0 0 = false from by rw [hI]; rfl) ?_
 cbv
 refine .go [0, 1, 2, 34, 4, 35, 6, 36, 8, 37, 10, 38, 12, 39, 14, 40, 16, 41] [] [] (requestU2 hp (.lit 1) 1 1 (by decide) (by decide) (by decide) (by decide) M0 M1 M2 M3 M4 M5 M6 M7 _ hF) rfl rfl rfl rfl rfl rfl ?_
 clear hF
 rintro v m1 ⟨M0, M1, M2, M3, M4, M5, M6, M7, ps1, ⟨r, rb, D2, rfl, hD2, hT, hok⟩, hF, rfl⟩
 have h9 := (way_take (n := 2) (N := 2) rfl hsd (q := pkA) (k := 1) hT).1 rfl
 obtain ⟨h1, h2, h3⟩ := h9
 subst h1 h2 h3
 clear hT hok
 cbv
 refine br_t (show true = true from rfl) ?_
 cbv
 refine br_t (show I.cmp .eql 1 1 = true from by rw [hI]; rfl) ?_
 cbv
 refine .go [0, 1, 2, 42, 4, 43, 6, 44, 8, 45, 10, 46, 12, 47, 14, 48, 16, 49] [] [] (underU2 hp 1 1 (by decide) (by decide) (by decide) (by decide) M0 M1 M2 M3 M4 M5 M6 M7 _ hF) rfl rfl rfl rfl rfl rfl ?_
 rintro v m1 ⟨t, ht, rfl, rfl⟩
 rw [under_rep] at ht
 obtain rfl : t = 0 := ht
 have hc0 : I.cmp .eql 0 0 = true := by rw [hI]; rfl
 cbv
 exact hP _ _ [] [] _ _ .nil rfl rfl rfl rfl rfl ⟨_, rfl, hc0, rfl⟩
end
end Go.Proofs.Ytofdnnjkfpomcaa.E

/- FabricBounds: how many packets there are, in a network of 1 nodes. -/
namespace Go.Proofs.Ytofdnnjkfpomcaa.E
open Go
set_option linter.unusedVariables false
set_option maxRecDepth 100000
section
variable {P : Program} (hp : P = Try.prog)
include hp
set_option maxHeartbeats 64000000 in
theorem bounds1 (s1 s2 s3 s4 s5 s6 s7 : Int) (l0 W0 K0 A1 V0 : List (List G)) (ys : List Int) (h0 : isL .i64 l0 ys) (A0 : List (List G)) (acts : List AC) (hA : A0 = acts.map AC.row) (hok : ∀ a ∈ acts, a.ok)
  (hn : (CFof s1 s2 s3 s4 s5 s6 s7 ys).a = 1) (ho : 1 ≤ (CFof s1 s2 s3 s4 s5 s6 s7 ys).f ∧ (CFof s1 s2 s3 s4 s5 s6 s7 ys).f ≤ 3) (hi : 1 ≤ (CFof s1 s2 s3 s4 s5 s6 s7 ys).g ∧ (CFof s1 s2 s3 s4 s5 s6 s7 ys).g ≤ 3) :
  LValid P 7 [.agg [.g (.int .i64 (.sym s1)), .g (.int .i64 (.sym s2)), .g (.int .i64 (.sym s3)), .g (.int .i64 (.sym s4)), .g (.int .i64 (.sym s5)), .g (.int .i64 (.sym s6)), .g (.int .i64 (.sym s7)), .g (.rows 1 l0), .g (.rows 1 W0), .g (.rows 1 K0), .g (.rows 1 A1), .g (.rows 1 V0)], .c (.g (.rows 14 A0))] [] (fun v _ => ∃ b : BB, b.val = true ∧ v = .one (.c (.g (.bool b)))) := by
 obtain ⟨I, hI⟩ := ref
 have hcE := configE hp s1 s2 s3 s4 s5 s6 s7 l0 W0 K0 A1 V0 ys h0
 generalize CFof s1 s2 s3 s4 s5 s6 s7 ys = q at hcE hn ho hi
 obtain ⟨qa, qb, qc, qd, qe, qf, qg, ini⟩ := q
 have hn : qa = 1 := hn
 subst hn
 have ho : 1 ≤ qf ∧ qf ≤ 3 := ho
 have hi : 1 ≤ qg ∧ qg ≤ 3 := hi
 have hmul : I.bin .mul .i64 (I.bin .mul .i64 2 1) qf = qf * ((2 : Nat) : Int) := by
  have h : qf = 1 ∨ qf = 2 ∨ qf = 3 := by omega
  rw [hI]
  rcases h with rfl | rfl | rfl <;> rfl
 refine fn_sim hI (mo hp) (ccj hp c7) fun Post hP => ?_
 cbv
 refine .go [] [] [.bor 1] hcE rfl rfl rfl rfl rfl rfl ?_
 rintro v m1 ⟨hqo, L, hL, rfl, rfl⟩
 clear hcE hqo hL
 cbv
 refine .go [] [] [.bor 1] (new1 hp (.sym 1) (.sym qb) (.sym qc) (.sym qd) (.sym qe) (.sym qf) (.sym qg) L rfl) rfl rfl rfl rfl rfl rfl ?_
 rintro v m1 ⟨ro, ri, hro, hri, rfl, rfl⟩
 obtain rfl : qf = ro := by rw [hro]; show qf = max 0 qf; omega
 obtain rfl : qg = ri := by rw [hri]; show qg = max 0 qg; omega
 clear hro hri
 cbv
 refine .loop_next (fun n ts m => ∃ (j : Nat) (z : Int) (L0 L1 L2 L3 : List (List G)) (ps : List (List PK)) (sa tb : Int) (na nb : Nat), n = 40 - j ∧ isN z j ∧ j ≤ 40 ∧ FIs 1 qf qg 0 [L0, L1, L2, L3] ps ∧ isN sa na ∧ isN tb nb ∧ na ≤ j ∧ na = nb + cnt ps ∧ ts = fr 166 [(1, .one (.c (.g (.rows 14 A0)))), (5, .one (.c (.ptr 0 (.lit 0) 8 0))), (6, .one (.c (.ptr 1 (.lit 0) 1 0))), (7, i64 sa), (8, i64 tb), (9, i64 z)] ∧ m = .lit 8 [cfg (.sym 1) (.sym qb) (.sym qc) (.sym qd) (.sym qe) (.sym qf) (.sym qg) (.g (.rows 1 L))] :: fabS 1 qf qg 1 [L0, L1, L2, L3])
  40 _ _ [1, 2, 3, 4, 5, 6, 7, 8, 9, 10, 11] [] [1, 5, 6, 7, 8, 9] (by decide) rfl rfl rfl ⟨0, 0, [], [], [], [], List.replicate 4 [], 0, 0, 0, 0, rfl, rfl, by decide, FIs.nils (by omega) (by omega) 4 0, rfl, rfl, Nat.le_refl _, rfl, rfl, rfl⟩ ?_
 rintro next n hnext ts m ⟨j, z, L0, L1, L2, L3, ps, sa, tb, na, nb, hnn, hz, hj, hF, hsa, htb, hna, hnb, rfl, rfl⟩
 have hz1 := inc_n hI hz (by omega)
 have hc9 := lss_iff hI hz (b := 40) (n := 40) rfl
 have hcl : I.cmp .lss z (I.ofNat (I.len A0)) = true ↔ j < A0.length := lss_iff hI hz (by rw [hI]; rfl)
 cbv
 refine .br (fun g => ?_) (fun g => ?_)
 rotate_left
 ·cbv
  refine .go [] [] [] (wakes6 hp) rfl rfl rfl rfl rfl rfl ?_
  rintro v m1 ⟨rfl, rfl⟩
  cbv
  exact hP _ _ [] [] _ _ .nil rfl rfl rfl rfl rfl ⟨_, rfl, rfl⟩
 have hjl := hcl.1 g
 clear hcl g
 cbv
 refine .br (fun g => ?_) (fun g => ?_)
 rotate_left
 ·cbv
  refine .go [] [] [] (wakes6 hp) rfl rfl rfl rfl rfl rfl ?_
  rintro v m1 ⟨rfl, rfl⟩
  cbv
  exact hP _ _ [] [] _ _ .nil rfl rfl rfl rfl rfl ⟨_, rfl, rfl⟩
 have hj9 := hc9.1 g
 clear hc9 g hP
 obtain ⟨ac, hx, hac⟩ : ∃ a : AC, A0[j]? = some a.row ∧ a.ok := by
  rw [hA, List.length_map] at hjl
  have h9 : acts[j]? = some acts[j] := List.getElem?_eq_getElem hjl
  exact ⟨acts[j], by rw [hA, List.getElem?_map, h9]; rfl, hok _ (List.getElem_mem hjl)⟩
 obtain ⟨ad, aa, ab, am, ⟨ak, af, at_, ai, al, ap, aS, ax, ad2⟩, ah⟩ := ac
 obtain ⟨ha1, ha2, ha3⟩ := hac
 have ha3 : ∀ y ∈ ad2, in64 y := ha3
 obtain ⟨DA, hDA⟩ : ∃ DA, DA = nrow .i64 ad2 := ⟨_, rfl⟩
 have hx : A0[j]? = some [.int .i64 (.sym ad), .int .i64 (.sym aa), .int .i64 (.sym ab), .int .u16 (.sym (w16 am)), .int .i64 (.sym ak), .int .i64 (.sym af), .int .i64 (.sym at_), .int .i64 (.sym ai), .int .i64 (.sym al), .int .i64 (.sym ap), .int .i64 (.sym aS), .bool (.sym ax), .rows 1 DA, .int .i64 (.sym ah)] := by rw [hx, hDA]; rfl
 have hDA : isL .i64 DA ad2 := hDA
 generalize hwm : w16 am = wm at hx
 cbv
 refine .idx j hz (by rw [hI]; exact hjl) ?_
 cbv
 refine .nth _ hx ?_
 cbv
 refine .go [] [] [] (withinL hp ad 5) rfl rfl rfl rfl rfl rfl ?_
 rintro r m1 ⟨y, hy, rfl, rfl⟩
 clear hy hx
 cbv
 refine .join_next (fun ts m => ∃ (L0 L1 L2 L3 : List (List G)) (ps : List (List PK)) (sa tb : Int) (na nb : Nat), FIs 1 qf qg 0 [L0, L1, L2, L3] ps ∧ isN sa na ∧ isN tb nb ∧ na ≤ j + 1 ∧ na = nb + cnt ps ∧ ts = fr 166 [(1, .one (.c (.g (.rows 14 A0)))), (5, .one (.c (.ptr 0 (.lit 0) 8 0))), (6, .one (.c (.ptr 1 (.lit 0) 1 0))), (7, i64 sa), (8, i64 tb), (9, i64 z)] ∧ m = .lit 8 [cfg (.sym 1) (.sym qb) (.sym qc) (.sym qd) (.sym qe) (.sym qf) (.sym qg) (.g (.rows 1 L))] :: fabS 1 qf qg 1 [L0, L1, L2, L3]) ?_ ?_
 ·intro next2 hnx
  clear hnext
  cbv
  refine .join_next (fun ts m => ∃ tt : Bool, ts = fr 166 [(1, .one (.c (.g (.rows 14 A0)))), (5, .one (.c (.ptr 0 (.lit 0) 8 0))), (6, .one (.c (.ptr 1 (.lit 0) 1 0))), (7, i64 sa), (8, i64 tb), (9, i64 z), (10, .one (.c (.ptr 11 (.lit 0) 14 0))), (42, i64 y), (69, boo tt)] ∧ m = .lit 8 [cfg (.sym 1) (.sym qb) (.sym qc) (.sym qd) (.sym qe) (.sym qf) (.sym qg) (.g (.rows 1 L))] :: fabS 1 qf qg 1 [L0, L1, L2, L3] ++ [.lit 14 [[.g (.int .i64 (.sym ad)), .g (.int .i64 (.sym aa)), .g (.int .i64 (.sym ab)), .g (.int .u16 (.sym wm)), .g (.int .i64 (.sym ak)), .g (.int .i64 (.sym af)), .g (.int .i64 (.sym at_)), .g (.int .i64 (.sym ai)), .g (.int .i64 (.sym al)), .g (.int .i64 (.sym ap)), .g (.int .i64 (.sym aS)), .g (.bool (.sym ax)), .g (.rows 1 DA), .g (.int .i64 (.sym ah))]]]) ?_ ?_
  ·intro next3 hnx3
   cbv
   refine .br (fun g => ?_) (fun g => ?_) <;> cbv <;> exact hnx3 _ _ [0, 1, 2, 3, 4, 5, 6, 7, 8, 9, 10, 11] [] [1, 5, 6, 7, 8, 9, 10, 42, 69] _ _ (by decide) rfl rfl rfl ⟨_, rfl, rfl⟩
  rintro ts m ⟨tt, rfl, rfl⟩
  cbv
  refine .pass ?_
  cbv
  refine .br (fun g => ?_) (fun g => ?_)
  ·clear g
   cbv
   refine .go [] [] [.bor 1] (pplayF hp ⟨ak, af, at_, ai, al, ap, aS, ax, ad2⟩ DA hDA) rfl rfl rfl rfl rfl rfl ?_
   rintro v m1 ⟨r, D, hr, hD, rfl, rfl⟩
   have hsd := pkW_send (n := 1) ⟨ak, af, at_, ai, al, ap, aS, ax, ad2⟩ (by decide) (by decide)
   have hdy : ∀ y ∈ r.d, -9223372036854775808 ≤ y ∧ y ≤ 9223372036854775807 := fun y hy => by
    rw [hr] at hy
    exact ha3 y (List.mem_of_mem_take hy)
   have hmk : ∀ (f' t' : Int), f' = win r.f 1 → t' = win r.t 1 → sendB 1 (⟨r.k, f', t', r.i, r.l, r.p, r.s, r.b, r.d⟩ : PK) = true := fun f' t' e1 e2 => by
    rw [show (⟨r.k, f', t', r.i, r.l, r.p, r.s, r.b, r.d⟩ : PK) = pkW 1 ⟨ak, af, at_, ai, al, ap, aS, ax, ad2⟩ by rw [e1, e2, hr]; rfl]
    exact hsd
   clear hsd hr
   obtain ⟨k, f, t, i2, l, p, s, b, d⟩ := r
   have hD : isL .i64 D d := hD
   have hdy : ∀ y ∈ d, -9223372036854775808 ≤ y ∧ y ≤ 9223372036854775807 := hdy
   have hmk : ∀ (f' t' : Int), f' = win f 1 → t' = win t 1 → sendB 1 (⟨k, f', t', i2, l, p, s, b, d⟩ : PK) = true := hmk
   cbv
   refine .join_next (fun ts m => ∃ (f' t' : Int), sendB 1 (⟨k, f', t', i2, l, p, s, b, d⟩ : PK) = true ∧ ts = fr 166 [(1, .one (.c (.g (.rows 14 A0)))), (5, .one (.c (.ptr 0 (.lit 0) 8 0))), (6, .one (.c (.ptr 1 (.lit 0) 1 0))), (7, i64 sa), (8, i64 tb), (9, i64 z), (11, .one (.c (.ptr 11 (.lit 0) 9 0)))] ∧ m = .lit 8 [cfg (.sym 1) (.sym qb) (.sym qc) (.sym qd) (.sym qe) (.sym qf) (.sym qg) (.g (.rows 1 L))] :: fabS 1 qf qg 1 [L0, L1, L2, L3] ++ [.lit 9 [[.g (.int .i64 (.sym k)), .g (.int .i64 (.sym f')), .g (.int .i64 (.sym t')), .g (.int .i64 (.sym i2)), .g (.int .i64 (.sym l)), .g (.int .i64 (.sym p)), .g (.int .i64 (.sym s)), .g (.bool (.sym b)), .g (.rows 1 D)]]]) ?_ ?_
   ·intro next4 hnx4
    cbv
    refine .drawn [12] ?_
    cbv
    repeat' first
     | (refine .both ?_ ?_)
     | (refine .go [] [] [] (within hp _ _) rfl rfl rfl rfl rfl rfl ?_; rintro r m1 ⟨y, hy, rfl, rfl⟩; cbv)
    all_goals exact hnx4 _ _ [0, 1, 2, 3, 4, 5, 6, 7, 8, 9, 10, 12] [] [1, 5, 6, 7, 8, 9, 11] _ _ (by decide) rfl rfl rfl ⟨_, _, hmk _ _ (by assumption) (by assumption), rfl, rfl⟩
   clear hmk
   rintro ts m ⟨f', t', hsd, rfl, rfl⟩
   have hd4 : d.length ≤ 4 := (send_kind hsd).2.2.2
   have hDl : D.length * 8 ≤ 140737488355328 := by rw [hD.len]; omega
   cbv
   refine .go [1, 2, 3, 4, 5, 6, 7, 8, 9, 10] [] [.keep, .bor 1] (sendU1 hp ⟨.sym k, .sym f', .sym t', .sym i2, .sym l, .sym p, .sym s, .sym b⟩ D d hD hDl hdy qf qg (by omega) (by omega) (by omega) (by omega) L0 L1 L2 L3 ps hF) rfl rfl rfl rfl rfl rfl ?_
   clear hF
   rintro v m1 ⟨M0, M1, M2, M3, ps1, ⟨t, rfl, hS⟩, hF, rfl⟩
   have hc := cnt_send hS
   clear hS hsd
   cbv
   refine .br (fun g => ?_) (fun g => ?_)
   ·have h1 : t = 0 := by
     rw [hI] at g
     simpa [ints, rCmp] using g
    rcases hc with ⟨_, hc⟩ | ⟨h2, _⟩
    ·have hsa1 := inc_n hI hsa (by omega)
     cbv
     exact hnx _ _ [0, 1, 2, 3, 12, 5, 13, 7, 14, 9, 15] [] [1, 5, 6, 7, 8, 9] _ _ (by decide) rfl rfl rfl ⟨M0, M1, M2, M3, ps1, _, tb, na + 1, nb, hF, hsa1, htb, by omega, by omega, rfl, rfl⟩
    ·exact absurd h1 h2
   ·have h1 : t ≠ 0 := by
     rw [hI] at g
     simpa [ints, rCmp] using g
    rcases hc with ⟨h2, _⟩ | ⟨_, hc⟩
    ·exact absurd h2 h1
    ·cbv
     exact hnx _ _ [0, 1, 2, 3, 12, 5, 13, 7, 14, 9, 15] [] [1, 5, 6, 7, 8, 9] _ _ (by decide) rfl rfl rfl ⟨M0, M1, M2, M3, ps1, sa, tb, na, nb, hF, hsa, htb, by omega, by omega, rfl, rfl⟩
  clear g
  cbv
  refine .join_next (fun ts m => ∃ tt : Bool, ts = fr 166 [(1, .one (.c (.g (.rows 14 A0)))), (5, .one (.c (.ptr 0 (.lit 0) 8 0))), (6, .one (.c (.ptr 1 (.lit 0) 1 0))), (7, i64 sa), (8, i64 tb), (9, i64 z), (10, .one (.c (.ptr 11 (.lit 0) 14 0))), (42, i64 y), (93, boo tt)] ∧ m = .lit 8 [cfg (.sym 1) (.sym qb) (.sym qc) (.sym qd) (.sym qe) (.sym qf) (.sym qg) (.g (.rows 1 L))] :: fabS 1 qf qg 1 [L0, L1, L2, L3] ++ [.lit 14 [[.g (.int .i64 (.sym ad)), .g (.int .i64 (.sym aa)), .g (.int .i64 (.sym ab)), .g (.int .u16 (.sym wm)), .g (.int .i64 (.sym ak)), .g (.int .i64 (.sym af)), .g (.int .i64 (.sym at_)), .g (.int .i64 (.sym ai)), .g (.int .i64 (.sym al)), .g (.int .i64 (.sym ap)), .g (.int .i64 (.sym aS)), .g (.bool (.sym ax)), .g (.rows 1 DA), .g (.int .i64 (.sym ah))]]]) ?_ ?_
  ·intro next3 hnx3
   cbv
   refine .br (fun g => ?_) (fun g => ?_) <;> cbv <;> exact hnx3 _ _ [0, 1, 2, 3, 4, 5, 6, 7, 8, 9, 10, 11] [] [1, 5, 6, 7, 8, 9, 10, 42, 93] _ _ (by decide) rfl rfl rfl ⟨_, rfl, rfl⟩
  rintro ts m ⟨tt, rfl, rfl⟩
  cbv
  refine .pass ?_
  cbv
  refine .br (fun g => ?_) (fun g => ?_)
  ·clear g
   cbv
   refine .drawn [1, 2, 3, 4, 5, 6, 7, 8, 9, 10] ?_
   cbv
   refine .go [1, 2, 3, 4, 5, 6, 7, 8, 9, 10] [] [] (underU1 hp qf qg (by omega) (by omega) (by omega) (by omega) L0 L1 L2 L3 ps hF) rfl rfl rfl rfl rfl rfl ?_
   rintro v m1 ⟨un, hun, rfl, rfl⟩
   cbv
   refine .go [] [] [] (within hp (.sym aa) (.sym un)) rfl rfl rfl rfl rfl rfl ?_
   rintro v m1 ⟨pl, hpl, rfl, rfl⟩
   have hpl : in64 pl := by
    have hul : (under ps).length ≤ cnt ps := by
     have := wsum_all 1 ps (hF.length _ _ _).symm
     omega
    rw [show pl = win aa un from hpl]
    unfold isN at hun
    exact win_any _ _ (by omega) (by omega)
   clear hun
   cbv
   refine .go [] [] [] (withinL hp ah 2) rfl rfl rfl rfl rfl rfl ?_
   rintro v m1 ⟨w2, hw2, rfl, rfl⟩
   clear hw2
   have hmz : I.bin .and .u16 wm (I.conv .u16 (I.bin .mul .i64 w2 65535)) = w16 (am &&& BitVec.ofInt 16 (I.conv .u16 (I.bin .mul .i64 w2 65535))) := by
    rw [← hwm]
    have := andm16 am (I.conv .u16 (I.bin .mul .i64 w2 65535))
    rw [← this, hI]
    rfl
   have h9 : ∃ mk, I.bin .and .u16 wm (I.conv .u16 (I.bin .mul .i64 w2 65535)) = w16 mk := ⟨_, hmz⟩
   clear hmz
   obtain ⟨mk, hmz⟩ := h9
   cbv
   refine .go [1, 2, 3, 4, 5, 6, 7, 8, 9, 10] [] [] (deliverU1 hp (.sym pl) hpl (.sym ab) ha2 (.sym (I.bin .and .u16 wm (I.conv .u16 (I.bin .mul .i64 w2 65535)))) mk hmz qf qg (by omega) (by omega) (by omega) (by omega) L0 L1 L2 L3 ps hF) rfl rfl rfl rfl rfl rfl ?_
   clear hF
   rintro v m1 ⟨M0, M1, M2, M3, ps1, ⟨t, rfl, hR⟩, hF, rfl⟩
   have hc := cnt_del hR
   clear hR hmz
   cbv
   exact hnx _ _ [0, 1, 2, 3, 12, 5, 13, 7, 14, 9, 15] [] [1, 5, 6, 7, 8, 9] _ _ (by decide) rfl rfl rfl ⟨M0, M1, M2, M3, ps1, sa, tb, na, nb, hF, hsa, htb, by omega, by omega, rfl, rfl⟩
  clear g
  cbv
  refine .go [] [] [] (within hp (.sym aa) (.sym 1)) rfl rfl rfl rfl rfl rfl ?_
  rintro v m1 ⟨y2, hy2, rfl, rfl⟩
  clear hy2
  cbv
  refine .go [1, 2, 3, 4, 5, 6, 7, 8, 9, 10] [] [] (requestU1 hp (.sym y2) qf qg (by omega) (by omega) (by omega) (by omega) L0 L1 L2 L3 ps hF) rfl rfl rfl rfl rfl rfl ?_
  clear hF
  rintro v m1 ⟨M0, M1, M2, M3, ps1, ⟨r, rb, D2, rfl, hD2, hT, hokr⟩, hF, rfl⟩
  have hc := cnt_take hT
  obtain ⟨rk, rf, rt, ri, rl, rp, rs, rbb, rd⟩ := r
  clear hT hokr hD2
  cbv
  refine .join_next (fun ts m => ∃ (L0 L1 L2 L3 : List (List G)) (ps : List (List PK)) (tb : Int) (nb : Nat), FIs 1 qf qg 0 [L0, L1, L2, L3] ps ∧ isN tb nb ∧ na = nb + cnt ps ∧ ts = fr 166 [(1, .one (.c (.g (.rows 14 A0)))), (5, .one (.c (.ptr 0 (.lit 0) 8 0))), (6, .one (.c (.ptr 1 (.lit 0) 1 0))), (7, i64 sa), (8, i64 tb), (9, i64 z), (10, .one (.c (.ptr 11 (.lit 0) 14 0)))] ∧ m = .lit 8 [cfg (.sym 1) (.sym qb) (.sym qc) (.sym qd) (.sym qe) (.sym qf) (.sym qg) (.g (.rows 1 L))] :: fabS 1 qf qg 1 [L0, L1, L2, L3] ++ [.lit 14 [[.g (.int .i64 (.sym ad)), .g (.int .i64 (.sym aa)), .g (.int .i64 (.sym ab)), .g (.int .u16 (.sym wm)), .g (.int .i64 (.sym ak)), .g (.int .i64 (.sym af)), .g (.int .i64 (.sym at_)), .g (.int .i64 (.sym ai)), .g (.int .i64 (.sym al)), .g (.int .i64 (.sym ap)), .g (.int .i64 (.sym aS)), .g (.bool (.sym ax)), .g (.rows 1 DA), .g (.int .i64 (.sym ah))]]]) ?_ ?_
  ·intro next3 hnx3
   cbv
   refine .br (fun g => ?_) (fun g => ?_)
   ·subst g
    rcases hc with ⟨_, hc⟩ | ⟨hc, _⟩
    ·have htb1 := inc_n hI htb (by omega)
     cbv
     exact hnx3 _ _ [0, 1, 2, 3, 12, 5, 13, 7, 14, 9, 15, 11] [] [1, 5, 6, 7, 8, 9, 10] _ _ (by decide) rfl rfl rfl ⟨M0, M1, M2, M3, ps1, _, nb + 1, hF, htb1, by omega, rfl, rfl⟩
    ·cases hc
   ·subst g
    rcases hc with ⟨hc, _⟩ | ⟨_, hc⟩
    ·cases hc
    ·cbv
     exact hnx3 _ _ [0, 1, 2, 3, 12, 5, 13, 7, 14, 9, 15, 11] [] [1, 5, 6, 7, 8, 9, 10] _ _ (by decide) rfl rfl rfl ⟨M0, M1, M2, M3, ps1, tb, nb, hF, htb, by omega, rfl, rfl⟩
  clear hc hF htb hnb
  rintro ts m ⟨L0, L1, L2, L3, ps, tb, nb, hF, htb, hnb, rfl, rfl⟩
  cbv
  refine .go [] [] [] (within hp (.sym aa) (.sym 1)) rfl rfl rfl rfl rfl rfl ?_
  rintro v m1 ⟨y3, hy3, rfl, rfl⟩
  clear hy3
  cbv
  refine .go [1, 2, 3, 4, 5, 6, 7, 8, 9, 10] [] [] (replyU1 hp (.sym y3) qf qg (by omega) (by omega) (by omega) (by omega) L0 L1 L2 L3 ps hF) rfl rfl rfl rfl rfl rfl ?_
  clear hF
  rintro v m1 ⟨M0, M1, M2, M3, ps1, ⟨r, rb, D2, rfl, hD2, hT, hokr⟩, hF, rfl⟩
  have hc := cnt_take hT
  obtain ⟨rk, rf, rt, ri, rl, rp, rs, rbb, rd⟩ := r
  clear hT hokr hD2
  cbv
  refine .br (fun g => ?_) (fun g => ?_)
  ·subst g
   rcases hc with ⟨_, hc⟩ | ⟨hc, _⟩
   ·have htb1 := inc_n hI htb (by omega)
    cbv
    exact hnx _ _ [0, 1, 2, 3, 12, 5, 13, 7, 14, 9, 15] [] [1, 5, 6, 7, 8, 9] _ _ (by decide) rfl rfl rfl ⟨M0, M1, M2, M3, ps1, sa, _, na, nb + 1, hF, hsa, htb1, by omega, by omega, rfl, rfl⟩
   ·cases hc
  ·subst g
   rcases hc with ⟨hc, _⟩ | ⟨_, hc⟩
   ·cases hc
   ·cbv
    exact hnx _ _ [0, 1, 2, 3, 12, 5, 13, 7, 14, 9, 15] [] [1, 5, 6, 7, 8, 9] _ _ (by decide) rfl rfl rfl ⟨M0, M1, M2, M3, ps1, sa, tb, na, nb, hF, hsa, htb, by omega, by omega, rfl, rfl⟩
 clear hF hsa htb hna hnb
 rintro ts m ⟨L0, L1, L2, L3, ps, sa, tb, na, nb, hF, hsa, htb, hna, hnb, rfl, rfl⟩
 have hlen := (hF.length _ _ _).symm
 have hall := wsum_all 1 ps hlen
 have hule := under_le 2 _ ps 0 rfl hlen hF
 cbv
 refine .go [1, 2, 3, 4, 5, 6, 7, 8, 9, 10] [] [] (underU1 hp qf qg (by omega) (by omega) (by omega) (by omega) L0 L1 L2 L3 ps hF) rfl rfl rfl rfl rfl rfl ?_
 rintro v m1 ⟨un, hun, rfl, rfl⟩
 have hgt : I.cmp .gtr un (I.bin .mul .i64 (I.bin .mul .i64 2 1) qf) = false := gtr_no hI (by rw [hmul]; unfold isN at hun; rw [hun]; exact hule)
 cbv
 refine br_f hgt ?_
 clear hgt hule hmul
 cbv
 refine .loop_next (fun n ts m => ∃ (c : Nat) (x nn : Int), n = 1 - c ∧ isN x c ∧ c ≤ 1 ∧ isN nn ((under ps).length + wsum c ps) ∧ ts = fr 166 [(1, .one (.c (.g (.rows 14 A0)))), (5, .one (.c (.ptr 0 (.lit 0) 8 0))), (6, .one (.c (.ptr 1 (.lit 0) 1 0))), (7, i64 sa), (8, i64 tb), (9, i64 z), (16, i64 nn), (17, i64 x)] ∧ m = .lit 8 [cfg (.sym 1) (.sym qb) (.sym qc) (.sym qd) (.sym qe) (.sym qf) (.sym qg) (.g (.rows 1 L))] :: fabS 1 qf qg 1 [L0, L1, L2, L3])
  1 _ _ [0, 1, 2, 3, 4, 5, 6, 7, 8, 9, 10] [] [1, 5, 6, 7, 8, 9, 16, 17] (by decide) rfl rfl rfl ⟨0, 0, un, rfl, rfl, Nat.zero_le _, by rw [show wsum 0 ps = 0 by cases ps <;> rfl]; exact hun, rfl, rfl⟩ ?_
 clear hun un
 rintro next2 n2 hnext2 ts m ⟨c, x, nn, hn2, hx, hc, hnn2, rfl, rfl⟩
 have hcm := lss_iff hI hx (b := 1) (n := 1) rfl
 have hx1 := inc_n hI hx (by omega)
 cbv
 refine .br (fun g => ?_) (fun g => ?_)
 ·have hcN := hcm.1 g
  clear hcm g
  cbv
  refine .go [1, 2, 3, 4, 5, 6, 7, 8, 9, 10] [] [] (waitingU1 hp (.sym x) qf qg (by omega) (by omega) (by omega) (by omega) L0 L1 L2 L3 ps hF) rfl rfl rfl rfl rfl rfl ?_
  rintro v m1 ⟨t1, t2, rfl, rfl, hn1, hn3⟩
  have h9 := num_in hF hn1 hx (by omega)
  obtain ⟨p1, q1, q2, q3⟩ := h9
  have h9 := num_in hF hn3 hx (by omega)
  obtain ⟨p3, u1, u2, u3⟩ := h9
  rw [room1] at q3
  rw [room3] at u3
  have hstep := wsum_step c ps p1 p3 q1 u1
  have hle := wsum_mono c 1 ps hc
  have hp3 : p1.length ≤ 3 ∧ p3.length ≤ 1 := by omega
  have hg1 : I.cmp .gtr t1 qg = false := gtr_no hI (by unfold isN at q2; omega)
  have hg2 : I.cmp .gtr t2 1 = false := gtr_no hI (by unfold isN at u2; omega)
  have hb : (under ps).length + wsum c ps < 900000 := by omega
  have hadd := add_n hI hnn2 (add_n hI q2 u2 (by omega)) (by omega)
  rw [show (under ps).length + wsum c ps + (p1.length + p3.length) = (under ps).length + wsum (c + 1) ps by omega] at hadd
  clear hn1 hn3 q1 q2 q3 u1 u2 u3 hstep hle hp3 hb
  cbv
  refine br_f hg1 ?_
  cbv
  refine br_f hg2 ?_
  cbv
  refine .go [1, 2, 3, 4, 5, 6, 7, 8, 9, 10] [] [] (roomRU1 hp (.lit true) rfl (.sym x) qf qg (by omega) (by omega) (by omega) (by omega) L0 L1 L2 L3 ps hF) rfl rfl rfl rfl rfl rfl ?_
  rintro v m1 ⟨t, rfl, rfl, ht⟩
  have ht0 := lss_no hI (room_in hF (room0 qf qg c) ht hx (by omega))
  clear ht
  cbv
  refine br_f ht0 ?_
  cbv
  refine .go [1, 2, 3, 4, 5, 6, 7, 8, 9, 10] [] [] (roomAU1 hp (.lit false) rfl (.sym x) qf qg (by omega) (by omega) (by omega) (by omega) L0 L1 L2 L3 ps hF) rfl rfl rfl rfl rfl rfl ?_
  rintro v m1 ⟨t4, rfl, rfl, ht⟩
  have ht4 := lss_no hI (room_in hF (room2 qf qg c) ht hx (by omega))
  clear ht
  cbv
  refine br_f ht4 ?_
  cbv
  exact hnext2 _ _ (1 - (c + 1)) [0, 1, 2, 3, 4, 5, 6, 7, 8, 9, 10] [] [1, 5, 6, 7, 8, 9, 16, 17] _ _ (by omega) (by decide) rfl rfl rfl ⟨c + 1, _, _, rfl, hx1, by omega, hadd, rfl, rfl⟩
 ·have hcN : c = 1 := by
   have := no_lss hcm g
   omega
  subst hcN
  clear hnext2 hcm g
  have hfin : I.cmp .neq (I.bin .add .i64 nn tb) sa = false := neq_eq hI (by
   have := add_n hI hnn2 htb (by omega)
   unfold isN at this hsa
   rw [this, hsa]
   omega)
  cbv
  refine br_f hfin ?_
  cbv
  exact hnext _ _ (40 - (j + 1)) [0, 1, 2, 3, 4, 5, 6, 7, 8, 9, 10] [] [1, 5, 6, 7, 8, 9] _ _ (by omega) (by decide) rfl rfl rfl ⟨j + 1, _, L0, L1, L2, L3, ps, sa, tb, na, nb, rfl, hz1, by omega, hF, hsa, htb, hna, hnb, rfl, rfl⟩
end
end Go.Proofs.Ytofdnnjkfpomcaa.E

/- FabricBounds: how many packets there are, in a network of 2 nodes. -/
namespace Go.Proofs.Ytofdnnjkfpomcaa.E
open Go
set_option linter.unusedVariables false
set_option maxRecDepth 100000
section
variable {P : Program} (hp : P = Try.prog)
include hp
set_option maxHeartbeats 64000000 in
theorem bounds2 (s1 s2 s3 s4 s5 s6 s7 : Int) (l0 W0 K0 A1 V0 : List (List G)) (ys : List Int) (h0 : isL .i64 l0 ys) (A0 : List (List G)) (acts : List AC) (hA : A0 = acts.map AC.row) (hok : ∀ a ∈ acts, a.ok)
  (hn : (CFof s1 s2 s3 s4 s5 s6 s7 ys).a = 2) (ho : 1 ≤ (CFof s1 s2 s3 s4 s5 s6 s7 ys).f ∧ (CFof s1 s2 s3 s4 s5 s6 s7 ys).f ≤ 3) (hi : 1 ≤ (CFof s1 s2 s3 s4 s5 s6 s7 ys).g ∧ (CFof s1 s2 s3 s4 s5 s6 s7 ys).g ≤ 3) :
  LValid P 7 [.agg [.g (.int .i64 (.sym s1)), .g (.int .i64 (.sym s2)), .g (.int .i64 (.sym s3)), .g (.int .i64 (.sym s4)), .g (.int .i64 (.sym s5)), .g (.int .i64 (.sym s6)), .g (.int .i64 (.sym s7)), .g (.rows 1 l0), .g (.rows 1 W0), .g (.rows 1 K0), .g (.rows 1 A1), .g (.rows 1 V0)], .c (.g (.rows 14 A0))] [] (fun v _ => ∃ b : BB, b.val = true ∧ v = .one (.c (.g (.bool b)))) := by
 obtain ⟨I, hI⟩ := ref
 have hcE := configE hp s1 s2 s3 s4 s5 s6 s7 l0 W0 K0 A1 V0 ys h0
 generalize CFof s1 s2 s3 s4 s5 s6 s7 ys = q at hcE hn ho hi
 obtain ⟨qa, qb, qc, qd, qe, qf, qg, ini⟩ := q
 have hn : qa = 2 := hn
 subst hn
 have ho : 1 ≤ qf ∧ qf ≤ 3 := ho
 have hi : 1 ≤ qg ∧ qg ≤ 3 := hi
 have hmul : I.bin .mul .i64 (I.bin .mul .i64 2 2) qf = qf * ((4 : Nat) : Int) := by
  have h : qf = 1 ∨ qf = 2 ∨ qf = 3 := by omega
  rw [hI]
  rcases h with rfl | rfl | rfl <;> rfl
 refine fn_sim hI (mo hp) (ccj hp c7) fun Post hP => ?_
 cbv
 refine .go [] [] [.bor 1] hcE rfl rfl rfl rfl rfl rfl ?_
 rintro v m1 ⟨hqo, L, hL, rfl, rfl⟩
 clear hcE hqo hL
 cbv
 refine .go [] [] [.bor 1] (new2 hp (.sym 2) (.sym qb) (.sym qc) (.sym qd) (.sym qe) (.sym qf) (.sym qg) L rfl) rfl rfl rfl rfl rfl rfl ?_
 rintro v m1 ⟨ro, ri, hro, hri, rfl, rfl⟩
 obtain rfl : qf = ro := by rw [hro]; show qf = max 0 qf; omega
 obtain rfl : qg = ri := by rw [hri]; show qg = max 0 qg; omega
 clear hro hri
 cbv
 refine .loop_next (fun n ts m => ∃ (j : Nat) (z : Int) (L0 L1 L2 L3 L4 L5 L6 L7 : List (List G)) (ps : List (List PK)) (sa tb : Int) (na nb : Nat), n = 40 - j ∧ isN z j ∧ j ≤ 40 ∧ FIs 2 qf qg 0 [L0, L1, L2, L3, L4, L5, L6, L7] ps ∧ isN sa na ∧ isN tb nb ∧ na ≤ j ∧ na = nb + cnt ps ∧ ts = fr 166 [(1, .one (.c (.g (.rows 14 A0)))), (5, .one (.c (.ptr 0 (.lit 0) 8 0))), (6, .one (.c (.ptr 1 (.lit 0) 1 0))), (7, i64 sa), (8, i64 tb), (9, i64 z)] ∧ m = .lit 8 [cfg (.sym 2) (.sym qb) (.sym qc) (.sym qd) (.sym qe) (.sym qf) (.sym qg) (.g (.rows 1 L))] :: fabS 1 qf qg 2 [L0, L1, L2, L3, L4, L5, L6, L7])
  40 _ _ [1, 2, 3, 4, 5, 6, 7, 8, 9, 10, 11, 12, 13, 14, 15, 16, 17, 18, 19] [] [1, 5, 6, 7, 8, 9] (by decide) rfl rfl rfl ⟨0, 0, [], [], [], [], [], [], [], [], List.replicate 8 [], 0, 0, 0, 0, rfl, rfl, by decide, FIs.nils (by omega) (by omega) 8 0, rfl, rfl, Nat.le_refl _, rfl, rfl, rfl⟩ ?_
 rintro next n hnext ts m ⟨j, z, L0, L1, L2, L3, L4, L5, L6, L7, ps, sa, tb, na, nb, hnn, hz, hj, hF, hsa, htb, hna, hnb, rfl, rfl⟩
 have hz1 := inc_n hI hz (by omega)
 have hc9 := lss_iff hI hz (b := 40) (n := 40) rfl
 have hcl : I.cmp .lss z (I.ofNat (I.len A0)) = true ↔ j < A0.length := lss_iff hI hz (by rw [hI]; rfl)
 cbv
 refine .br (fun g => ?_) (fun g => ?_)
 rotate_left
 ·cbv
  refine .go [] [] [] (wakes6 hp) rfl rfl rfl rfl rfl rfl ?_
  rintro v m1 ⟨rfl, rfl⟩
  cbv
  exact hP _ _ [] [] _ _ .nil rfl rfl rfl rfl rfl ⟨_, rfl, rfl⟩
 have hjl := hcl.1 g
 clear hcl g
 cbv
 refine .br (fun g => ?_) (fun g => ?_)
 rotate_left
 ·cbv
  refine .go [] [] [] (wakes6 hp) rfl rfl rfl rfl rfl rfl ?_
  rintro v m1 ⟨rfl, rfl⟩
  cbv
  exact hP _ _ [] [] _ _ .nil rfl rfl rfl rfl rfl ⟨_, rfl, rfl⟩
 have hj9 := hc9.1 g
 clear hc9 g hP
 obtain ⟨ac, hx, hac⟩ : ∃ a : AC, A0[j]? = some a.row ∧ a.ok := by
  rw [hA, List.length_map] at hjl
  have h9 : acts[j]? = some acts[j] := List.getElem?_eq_getElem hjl
  exact ⟨acts[j], by rw [hA, List.getElem?_map, h9]; rfl, hok _ (List.getElem_mem hjl)⟩
 obtain ⟨ad, aa, ab, am, ⟨ak, af, at_, ai, al, ap, aS, ax, ad2⟩, ah⟩ := ac
 obtain ⟨ha1, ha2, ha3⟩ := hac
 have ha3 : ∀ y ∈ ad2, in64 y := ha3
 obtain ⟨DA, hDA⟩ : ∃ DA, DA = nrow .i64 ad2 := ⟨_, rfl⟩
 have hx : A0[j]? = some [.int .i64 (.sym ad), .int .i64 (.sym aa), .int .i64 (.sym ab), .int .u16 (.sym (w16 am)), .int .i64 (.sym ak), .int .i64 (.sym af), .int .i64 (.sym at_), .int .i64 (.sym ai), .int .i64 (.sym al), .int .i64 (.sym ap), .int .i64 (.sym aS), .bool (.sym ax), .rows 1 DA, .int .i64 (.sym ah)] := by rw [hx, hDA]; rfl
 have hDA : isL .i64 DA ad2 := hDA
 generalize hwm : w16 am = wm at hx
 cbv
 refine .idx j hz (by rw [hI]; exact hjl) ?_
 cbv
 refine .nth _ hx ?_
 cbv
 refine .go [] [] [] (withinL hp ad 5) rfl rfl rfl rfl rfl rfl ?_
 rintro r m1 ⟨y, hy, rfl, rfl⟩
 clear hy hx
 cbv
 refine .join_next (fun ts m => ∃ (L0 L1 L2 L3 L4 L5 L6 L7 : List (List G)) (ps : List (List PK)) (sa tb : Int) (na nb : Nat), FIs 2 qf qg 0 [L0, L1, L2, L3, L4, L5, L6, L7] ps ∧ isN sa na ∧ isN tb nb ∧ na ≤ j + 1 ∧ na = nb + cnt ps ∧ ts = fr 166 [(1, .one (.c (.g (.rows 14 A0)))), (5, .one (.c (.ptr 0 (.lit 0) 8 0))), (6, .one (.c (.ptr 1 (.lit 0) 1 0))), (7, i64 sa), (8, i64 tb), (9, i64 z)] ∧ m = .lit 8 [cfg (.sym 2) (.sym qb) (.sym qc) (.sym qd) (.sym qe) (.sym qf) (.sym qg) (.g (.rows 1 L))] :: fabS 1 qf qg 2 [L0, L1, L2, L3, L4, L5, L6, L7]) ?_ ?_
 ·intro next2 hnx
  clear hnext
  cbv
  refine .join_next (fun ts m => ∃ tt : Bool, ts = fr 166 [(1, .one (.c (.g (.rows 14 A0)))), (5, .one (.c (.ptr 0 (.lit 0) 8 0))), (6, .one (.c (.ptr 1 (.lit 0) 1 0))), (7, i64 sa), (8, i64 tb), (9, i64 z), (10, .one (.c (.ptr 19 (.lit 0) 14 0))), (42, i64 y), (69, boo tt)] ∧ m = .lit 8 [cfg (.sym 2) (.sym qb) (.sym qc) (.sym qd) (.sym qe) (.sym qf) (.sym qg) (.g (.rows 1 L))] :: fabS 1 qf qg 2 [L0, L1, L2, L3, L4, L5, L6, L7] ++ [.lit 14 [[.g (.int .i64 (.sym ad)), .g (.int .i64 (.sym aa)), .g (.int .i64 (.sym ab)), .g (.int .u16 (.sym wm)), .g (.int .i64 (.sym ak)), .g (.int .i64 (.sym af)), .g (.int .i64 (.sym at_)), .g (.int .i64 (.sym ai)), .g (.int .i64 (.sym al)), .g (.int .i64 (.sym ap)), .g (.int .i64 (.sym aS)), .g (.bool (.sym ax)), .g (.rows 1 DA), .g (.int .i64 (.sym ah))]]]) ?_ ?_
  ·intro next3 hnx3
   cbv
   refine .br (fun g => ?_) (fun g => ?_) <;> cbv <;> exact hnx3 _ _ [0, 1, 2, 3, 4, 5, 6, 7, 8, 9, 10, 11, 12, 13, 14, 15, 16, 17, 18, 19] [] [1, 5, 6, 7, 8, 9, 10, 42, 69] _ _ (by decide) rfl rfl rfl ⟨_, rfl, rfl⟩
  rintro ts m ⟨tt, rfl, rfl⟩
  cbv
  refine .pass ?_
  cbv
  refine .br (fun g => ?_) (fun g => ?_)
  ·clear g
   cbv
   refine .go [] [] [.bor 1] (pplayF hp ⟨ak, af, at_, ai, al, ap, aS, ax, ad2⟩ DA hDA) rfl rfl rfl rfl rfl rfl ?_
   rintro v m1 ⟨r, D, hr, hD, rfl, rfl⟩
   have hsd := pkW_send (n := 2) ⟨ak, af, at_, ai, al, ap, aS, ax, ad2⟩ (by decide) (by decide)
   have hdy : ∀ y ∈ r.d, -9223372036854775808 ≤ y ∧ y ≤ 9223372036854775807 := fun y hy => by
    rw [hr] at hy
    exact ha3 y (List.mem_of_mem_take hy)
   have hmk : ∀ (f' t' : Int), f' = win r.f 2 → t' = win r.t 2 → sendB 2 (⟨r.k, f', t', r.i, r.l, r.p, r.s, r.b, r.d⟩ : PK) = true := fun f' t' e1 e2 => by
    rw [show (⟨r.k, f', t', r.i, r.l, r.p, r.s, r.b, r.d⟩ : PK) = pkW 2 ⟨ak, af, at_, ai, al, ap, aS, ax, ad2⟩ by rw [e1, e2, hr]; rfl]
    exact hsd
   clear hsd hr
   obtain ⟨k, f, t, i2, l, p, s, b, d⟩ := r
   have hD : isL .i64 D d := hD
   have hdy : ∀ y ∈ d, -9223372036854775808 ≤ y ∧ y ≤ 9223372036854775807 := hdy
   have hmk : ∀ (f' t' : Int), f' = win f 2 → t' = win t 2 → sendB 2 (⟨k, f', t', i2, l, p, s, b, d⟩ : PK) = true := hmk
   cbv
   refine .join_next (fun ts m => ∃ (f' t' : Int), sendB 2 (⟨k, f', t', i2, l, p, s, b, d⟩ : PK) = true ∧ ts = fr 166 [(1, .one (.c (.g (.rows 14 A0)))), (5, .one (.c (.ptr 0 (.lit 0) 8 0))), (6, .one (.c (.ptr 1 (.lit 0) 1 0))), (7, i64 sa), (8, i64 tb), (9, i64 z), (11, .one (.c (.ptr 19 (.lit 0) 9 0)))] ∧ m = .lit 8 [cfg (.sym 2) (.sym qb) (.sym qc) (.sym qd) (.sym qe) (.sym qf) (.sym qg) (.g (.rows 1 L))] :: fabS 1 qf qg 2 [L0, L1, L2, L3, L4, L5, L6, L7] ++ [.lit 9 [[.g (.int .i64 (.sym k)), .g (.int .i64 (.sym f')), .g (.int .i64 (.sym t')), .g (.int .i64 (.sym i2)), .g (.int .i64 (.sym l)), .g (.int .i64 (.sym p)), .g (.int .i64 (.sym s)), .g (.bool (.sym b)), .g (.rows 1 D)]]]) ?_ ?_
   ·intro next4 hnx4
    cbv
    refine .drawn [20] ?_
    cbv
    repeat' first
     | (refine .both ?_ ?_)
     | (refine .go [] [] [] (within hp _ _) rfl rfl rfl rfl rfl rfl ?_; rintro r m1 ⟨y, hy, rfl, rfl⟩; cbv)
    all_goals exact hnx4 _ _ [0, 1, 2, 3, 4, 5, 6, 7, 8, 9, 10, 11, 12, 13, 14, 15, 16, 17, 18, 20] [] [1, 5, 6, 7, 8, 9, 11] _ _ (by decide) rfl rfl rfl ⟨_, _, hmk _ _ (by assumption) (by assumption), rfl, rfl⟩
   clear hmk
   rintro ts m ⟨f', t', hsd, rfl, rfl⟩
   have hd4 : d.length ≤ 4 := (send_kind hsd).2.2.2
   have hDl : D.length * 8 ≤ 140737488355328 := by rw [hD.len]; omega
   cbv
   refine .go [1, 2, 3, 4, 5, 6, 7, 8, 9, 10, 11, 12, 13, 14, 15, 16, 17, 18] [] [.keep, .bor 1] (sendU2 hp ⟨.sym k, .sym f', .sym t', .sym i2, .sym l, .sym p, .sym s, .sym b⟩ D d hD hDl hdy qf qg (by omega) (by omega) (by omega) (by omega) L0 L1 L2 L3 L4 L5 L6 L7 ps hF) rfl rfl rfl rfl rfl rfl ?_
   clear hF
   rintro v m1 ⟨M0, M1, M2, M3, M4, M5, M6, M7, ps1, ⟨t, rfl, hS⟩, hF, rfl⟩
   have hc := cnt_send hS
   clear hS hsd
   cbv
   refine .br (fun g => ?_) (fun g => ?_)
   ·have h1 : t = 0 := by
     rw [hI] at g
     simpa [ints, rCmp] using g
    rcases hc with ⟨_, hc⟩ | ⟨h2, _⟩
    ·have hsa1 := inc_n hI hsa (by omega)
     cbv
     exact hnx _ _ [0, 1, 2, 3, 20, 5, 21, 7, 22, 9, 23, 11, 24, 13, 25, 15, 26, 17, 27] [] [1, 5, 6, 7, 8, 9] _ _ (by decide) rfl rfl rfl ⟨M0, M1, M2, M3, M4, M5, M6, M7, ps1, _, tb, na + 1, nb, hF, hsa1, htb, by omega, by omega, rfl, rfl⟩
    ·exact absurd h1 h2
   ·have h1 : t ≠ 0 := by
     rw [hI] at g
     simpa [ints, rCmp] using g
    rcases hc with ⟨h2, _⟩ | ⟨_, hc⟩
    ·exact absurd h2 h1
    ·cbv
     exact hnx _ _ [0, 1, 2, 3, 20, 5, 21, 7, 22, 9, 23, 11, 24, 13, 25, 15, 26, 17, 27] [] [1, 5, 6, 7, 8, 9] _ _ (by decide) rfl rfl rfl ⟨M0, M1, M2, M3, M4, M5, M6, M7, ps1, sa, tb, na, nb, hF, hsa, htb, by omega, by omega, rfl, rfl⟩
  clear g
  cbv
  refine .join_next (fun ts m => ∃ tt : Bool, ts = fr 166 [(1, .one (.c (.g (.rows 14 A0)))), (5, .one (.c (.ptr 0 (.lit 0) 8 0))), (6, .one (.c (.ptr 1 (.lit 0) 1 0))), (7, i64 sa), (8, i64 tb), (9, i64 z), (10, .one (.c (.ptr 19 (.lit 0) 14 0))), (42, i64 y), (93, boo tt)] ∧ m = .lit 8 [cfg (.sym 2) (.sym qb) (.sym qc) (.sym qd) (.sym qe) (.sym qf) (.sym qg) (.g (.rows 1 L))] :: fabS 1 qf qg 2 [L0, L1, L2, L3, L4, L5, L6, L7] ++ [.lit 14 [[.g (.int .i64 (.sym ad)), .g (.int .i64 (.sym aa)), .g (.int .i64 (.sym ab)), .g (.int .u16 (.sym wm)), .g (.int .i64 (.sym ak)), .g (.int .i64 (.sym af)), .g (.int .i64 (.sym at_)), .g (.int .i64 (.sym ai)), .g (.int .i64 (.sym al)), .g (.int .i64 (.sym ap)), .g (.int .i64 (.sym aS)), .g (.bool (.sym ax)), .g (.rows 1 DA), .g (.int .i64 (.sym ah))]]]) ?_ ?_
  ·intro next3 hnx3
   cbv
   refine .br (fun g => ?_) (fun g => ?_) <;> cbv <;> exact hnx3 _ _ [0, 1, 2, 3, 4, 5, 6, 7, 8, 9, 10, 11, 12, 13, 14, 15, 16, 17, 18, 19] [] [1, 5, 6, 7, 8, 9, 10, 42, 93] _ _ (by decide) rfl rfl rfl ⟨_, rfl, rfl⟩
  rintro ts m ⟨tt, rfl, rfl⟩
  cbv
  refine .pass ?_
  cbv
  refine .br (fun g => ?_) (fun g => ?_)
  ·clear g
   cbv
   refine .drawn [1, 2, 3, 4, 5, 6, 7, 8, 9, 10, 11, 12, 13, 14, 15, 16, 17, 18] ?_
   cbv
   refine .go [1, 2, 3, 4, 5, 6, 7, 8, 9, 10, 11, 12, 13, 14, 15, 16, 17, 18] [] [] (underU2 hp qf qg (by omega) (by omega) (by omega) (by omega) L0 L1 L2 L3 L4 L5 L6 L7 ps hF) rfl rfl rfl rfl rfl rfl ?_
   rintro v m1 ⟨un, hun, rfl, rfl⟩
   cbv
   refine .go [] [] [] (within hp (.sym aa) (.sym un)) rfl rfl rfl rfl rfl rfl ?_
   rintro v m1 ⟨pl, hpl, rfl, rfl⟩
   have hpl : in64 pl := by
    have hul : (under ps).length ≤ cnt ps := by
     have := wsum_all 2 ps (hF.length _ _ _).symm
     omega
    rw [show pl = win aa un from hpl]
    unfold isN at hun
    exact win_any _ _ (by omega) (by omega)
   clear hun
   cbv
   refine .go [] [] [] (withinL hp ah 2) rfl rfl rfl rfl rfl rfl ?_
   rintro v m1 ⟨w2, hw2, rfl, rfl⟩
   clear hw2
   have hmz : I.bin .and .u16 wm (I.conv .u16 (I.bin .mul .i64 w2 65535)) = w16 (am &&& BitVec.ofInt 16 (I.conv .u16 (I.bin .mul .i64 w2 65535))) := by
    rw [← hwm]
    have := andm16 am (I.conv .u16 (I.bin .mul .i64 w2 65535))
    rw [← this, hI]
    rfl
   have h9 : ∃ mk, I.bin .and .u16 wm (I.conv .u16 (I.bin .mul .i64 w2 65535)) = w16 mk := ⟨_, hmz⟩
   clear hmz
   obtain ⟨mk, hmz⟩ := h9
   cbv
   refine .go [1, 2, 3, 4, 5, 6, 7, 8, 9, 10, 11, 12, 13, 14, 15, 16, 17, 18] [] [] (deliverU2 hp (.sym pl) hpl (.sym ab) ha2 (.sym (I.bin .and .u16 wm (I.conv .u16 (I.bin .mul .i64 w2 65535)))) mk hmz qf qg (by omega) (by omega) (by omega) (by omega) L0 L1 L2 L3 L4 L5 L6 L7 ps hF) rfl rfl rfl rfl rfl rfl ?_
   clear hF
   rintro v m1 ⟨M0, M1, M2, M3, M4, M5, M6, M7, ps1, ⟨t, rfl, hR⟩, hF, rfl⟩
   have hc := cnt_del hR
   clear hR hmz
   cbv
   exact hnx _ _ [0, 1, 2, 3, 20, 5, 21, 7, 22, 9, 23, 11, 24, 13, 25, 15, 26, 17, 27] [] [1, 5, 6, 7, 8, 9] _ _ (by decide) rfl rfl rfl ⟨M0, M1, M2, M3, M4, M5, M6, M7, ps1, sa, tb, na, nb, hF, hsa, htb, by omega, by omega, rfl, rfl⟩
  clear g
  cbv
  refine .go [] [] [] (within hp (.sym aa) (.sym 2)) rfl rfl rfl rfl rfl rfl ?_
  rintro v m1 ⟨y2, hy2, rfl, rfl⟩
  clear hy2
  cbv
  refine .go [1, 2, 3, 4, 5, 6, 7, 8, 9, 10, 11, 12, 13, 14, 15, 16, 17, 18] [] [] (requestU2 hp (.sym y2) qf qg (by omega) (by omega) (by omega) (by omega) L0 L1 L2 L3 L4 L5 L6 L7 ps hF) rfl rfl rfl rfl rfl rfl ?_
  clear hF
  rintro v m1 ⟨M0, M1, M2, M3, M4, M5, M6, M7, ps1, ⟨r, rb, D2, rfl, hD2, hT, hokr⟩, hF, rfl⟩
  have hc := cnt_take hT
  obtain ⟨rk, rf, rt, ri, rl, rp, rs, rbb, rd⟩ := r
  clear hT hokr hD2
  cbv
  refine .join_next (fun ts m => ∃ (L0 L1 L2 L3 L4 L5 L6 L7 : List (List G)) (ps : List (List PK)) (tb : Int) (nb : Nat), FIs 2 qf qg 0 [L0, L1, L2, L3, L4, L5, L6, L7] ps ∧ isN tb nb ∧ na = nb + cnt ps ∧ ts = fr 166 [(1, .one (.c (.g (.rows 14 A0)))), (5, .one (.c (.ptr 0 (.lit 0) 8 0))), (6, .one (.c (.ptr 1 (.lit 0) 1 0))), (7, i64 sa), (8, i64 tb), (9, i64 z), (10, .one (.c (.ptr 19 (.lit 0) 14 0)))] ∧ m = .lit 8 [cfg (.sym 2) (.sym qb) (.sym qc) (.sym qd) (.sym qe) (.sym qf) (.sym qg) (.g (.rows 1 L))] :: fabS 1 qf qg 2 [L0, L1, L2, L3, L4, L5, L6, L7] ++ [.lit 14 [[.g (.int .i64 (.sym ad)), .g (.int .i64 (.sym aa)), .g (.int .i64 (.sym ab)), .g (.int .u16 (.sym wm)), .g (.int .i64 (.sym ak)), .g (.int .i64 (.sym af)), .g (.int .i64 (.sym at_)), .g (.int .i64 (.sym ai)), .g (.int .i64 (.sym al)), .g (.int .i64 (.sym ap)), .g (.int .i64 (.sym aS)), .g (.bool (.sym ax)), .g (.rows 1 DA), .g (.int .i64 (.sym ah))]]]) ?_ ?_
  ·intro next3 hnx3
   cbv
   refine .br (fun g => ?_) (fun g => ?_)
   ·subst g
    rcases hc with ⟨_, hc⟩ | ⟨hc, _⟩
    ·have htb1 := inc_n hI htb (by omega)
     cbv
     exact hnx3 _ _ [0, 1, 2, 3, 20, 5, 21, 7, 22, 9, 23, 11, 24, 13, 25, 15, 26, 17, 27, 19] [] [1, 5, 6, 7, 8, 9, 10] _ _ (by decide) rfl rfl rfl ⟨M0, M1, M2, M3, M4, M5, M6, M7, ps1, _, nb + 1, hF, htb1, by omega, rfl, rfl⟩
    ·cases hc
   ·subst g
    rcases hc with ⟨hc, _⟩ | ⟨_, hc⟩
    ·cases hc
    ·cbv
     exact hnx3 _ _ [0, 1, 2, 3, 20, 5, 21, 7, 22, 9, 23, 11, 24, 13, 25, 15, 26, 17, 27, 19] [] [1, 5, 6, 7, 8, 9, 10] _ _ (by decide) rfl rfl rfl ⟨M0, M1, M2, M3, M4, M5, M6, M7, ps1, tb, nb, hF, htb, by omega, rfl, rfl⟩
  clear hc hF htb hnb
  rintro ts m ⟨L0, L1, L2, L3, L4, L5, L6, L7, ps, tb, nb, hF, htb, hnb, rfl, rfl⟩
  cbv
  refine .go [] [] [] (within hp (.sym aa) (.sym 2)) rfl rfl rfl rfl rfl rfl ?_
  rintro v m1 ⟨y3, hy3, rfl, rfl⟩
  clear hy3
  cbv
  refine .go [1, 2, 3, 4, 5, 6, 7, 8, 9, 10, 11, 12, 13, 14, 15, 16, 17, 18] [] [] (replyU2 hp (.sym y3) qf qg (by omega) (by omega) (by omega) (by omega) L0 L1 L2 L3 L4 L5 L6 L7 ps hF) rfl rfl rfl rfl rfl rfl ?_
  clear hF
  rintro v m1 ⟨M0, M1, M2, M3, M4, M5, M6, M7, ps1, ⟨r, rb, D2, rfl, hD2, hT, hokr⟩, hF, rfl⟩
  have hc := cnt_take hT
  obtain ⟨rk, rf, rt, ri, rl, rp, rs, rbb, rd⟩ := r
  clear hT hokr hD2
  cbv
  refine .br (fun g => ?_) (fun g => ?_)
  ·subst g
   rcases hc with ⟨_, hc⟩ | ⟨hc, _⟩
   ·have htb1 := inc_n hI htb (by omega)
    cbv
    exact hnx _ _ [0, 1, 2, 3, 20, 5, 21, 7, 22, 9, 23, 11, 24, 13, 25, 15, 26, 17, 27] [] [1, 5, 6, 7, 8, 9] _ _ (by decide) rfl rfl rfl ⟨M0, M1, M2, M3, M4, M5, M6, M7, ps1, sa, _, na, nb + 1, hF, hsa, htb1, by omega, by omega, rfl, rfl⟩
   ·cases hc
  ·subst g
   rcases hc with ⟨hc, _⟩ | ⟨_, hc⟩
   ·cases hc
   ·cbv
    exact hnx _ _ [0, 1, 2, 3, 20, 5, 21, 7, 22, 9, 23, 11, 24, 13, 25, 15, 26, 17, 27] [] [1, 5, 6, 7, 8, 9] _ _ (by decide) rfl rfl rfl ⟨M0, M1, M2, M3, M4, M5, M6, M7, ps1, sa, tb, na, nb, hF, hsa, htb, by omega, by omega, rfl, rfl⟩
 clear hF hsa htb hna hnb
 rintro ts m ⟨L0, L1, L2, L3, L4, L5, L6, L7, ps, sa, tb, na, nb, hF, hsa, htb, hna, hnb, rfl, rfl⟩
 have hlen := (hF.length _ _ _).symm
 have hall := wsum_all 2 ps hlen
 have hule := under_le 4 _ ps 0 rfl hlen hF
 cbv
 refine .go [1, 2, 3, 4, 5, 6, 7, 8, 9, 10, 11, 12, 13, 14, 15, 16, 17, 18] [] [] (underU2 hp qf qg (by omega) (by omega) (by omega) (by omega) L0 L1 L2 L3 L4 L5 L6 L7 ps hF) rfl rfl rfl rfl rfl rfl ?_
 rintro v m1 ⟨un, hun, rfl, rfl⟩
 have hgt : I.cmp .gtr un (I.bin .mul .i64 (I.bin .mul .i64 2 2) qf) = false := gtr_no hI (by rw [hmul]; unfold isN at hun; rw [hun]; exact hule)
 cbv
 refine br_f hgt ?_
 clear hgt hule hmul
 cbv
 refine .loop_next (fun n ts m => ∃ (c : Nat) (x nn : Int), n = 2 - c ∧ isN x c ∧ c ≤ 2 ∧ isN nn ((under ps).length + wsum c ps) ∧ ts = fr 166 [(1, .one (.c (.g (.rows 14 A0)))), (5, .one (.c (.ptr 0 (.lit 0) 8 0))), (6, .one (.c (.ptr 1 (.lit 0) 1 0))), (7, i64 sa), (8, i64 tb), (9, i64 z), (16, i64 nn), (17, i64 x)] ∧ m = .lit 8 [cfg (.sym 2) (.sym qb) (.sym qc) (.sym qd) (.sym qe) (.sym qf) (.sym qg) (.g (.rows 1 L))] :: fabS 1 qf qg 2 [L0, L1, L2, L3, L4, L5, L6, L7])
  2 _ _ [0, 1, 2, 3, 4, 5, 6, 7, 8, 9, 10, 11, 12, 13, 14, 15, 16, 17, 18] [] [1, 5, 6, 7, 8, 9, 16, 17] (by decide) rfl rfl rfl ⟨0, 0, un, rfl, rfl, Nat.zero_le _, by rw [show wsum 0 ps = 0 by cases ps <;> rfl]; exact hun, rfl, rfl⟩ ?_
 clear hun un
 rintro next2 n2 hnext2 ts m ⟨c, x, nn, hn2, hx, hc, hnn2, rfl, rfl⟩
 have hcm := lss_iff hI hx (b := 2) (n := 2) rfl
 have hx1 := inc_n hI hx (by omega)
 cbv
 refine .br (fun g => ?_) (fun g => ?_)
 ·have hcN := hcm.1 g
  clear hcm g
  cbv
  refine .go [1, 2, 3, 4, 5, 6, 7, 8, 9, 10, 11, 12, 13, 14, 15, 16, 17, 18] [] [] (waitingU2 hp (.sym x) qf qg (by omega) (by omega) (by omega) (by omega) L0 L1 L2 L3 L4 L5 L6 L7 ps hF) rfl rfl rfl rfl rfl rfl ?_
  rintro v m1 ⟨t1, t2, rfl, rfl, hn1, hn3⟩
  have h9 := num_in hF hn1 hx (by omega)
  obtain ⟨p1, q1, q2, q3⟩ := h9
  have h9 := num_in hF hn3 hx (by omega)
  obtain ⟨p3, u1, u2, u3⟩ := h9
  rw [room1] at q3
  rw [room3] at u3
  have hstep := wsum_step c ps p1 p3 q1 u1
  have hle := wsum_mono c 2 ps hc
  have hp3 : p1.length ≤ 3 ∧ p3.length ≤ 1 := by omega
  have hg1 : I.cmp .gtr t1 qg = false := gtr_no hI (by unfold isN at q2; omega)
  have hg2 : I.cmp .gtr t2 1 = false := gtr_no hI (by unfold isN at u2; omega)
  have hb : (under ps).length + wsum c ps < 900000 := by omega
  have hadd := add_n hI hnn2 (add_n hI q2 u2 (by omega)) (by omega)
  rw [show (under ps).length + wsum c ps + (p1.length + p3.length) = (under ps).length + wsum (c + 1) ps by omega] at hadd
  clear hn1 hn3 q1 q2 q3 u1 u2 u3 hstep hle hp3 hb
  cbv
  refine br_f hg1 ?_
  cbv
  refine br_f hg2 ?_
  cbv
  refine .go [1, 2, 3, 4, 5, 6, 7, 8, 9, 10, 11, 12, 13, 14, 15, 16, 17, 18] [] [] (roomRU2 hp (.lit true) rfl (.sym x) qf qg (by omega) (by omega) (by omega) (by omega) L0 L1 L2 L3 L4 L5 L6 L7 ps hF) rfl rfl rfl rfl rfl rfl ?_
  rintro v m1 ⟨t, rfl, rfl, ht⟩
  have ht0 := lss_no hI (room_in hF (room0 qf qg c) ht hx (by omega))
  clear ht
  cbv
  refine br_f ht0 ?_
  cbv
  refine .go [1, 2, 3, 4, 5, 6, 7, 8, 9, 10, 11, 12, 13, 14, 15, 16, 17, 18] [] [] (roomAU2 hp (.lit false) rfl (.sym x) qf qg (by omega) (by omega) (by omega) (by omega) L0 L1 L2 L3 L4 L5 L6 L7 ps hF) rfl rfl rfl rfl rfl rfl ?_
  rintro v m1 ⟨t4, rfl, rfl, ht⟩
  have ht4 := lss_no hI (room_in hF (room2 qf qg c) ht hx (by omega))
  clear ht
  cbv
  refine br_f ht4 ?_
  cbv
  exact hnext2 _ _ (2 - (c + 1)) [0, 1, 2, 3, 4, 5, 6, 7, 8, 9, 10, 11, 12, 13, 14, 15, 16, 17, 18] [] [1, 5, 6, 7, 8, 9, 16, 17] _ _ (by omega) (by decide) rfl rfl rfl ⟨c + 1, _, _, rfl, hx1, by omega, hadd, rfl, rfl⟩
 ·have hcN : c = 2 := by
   have := no_lss hcm g
   omega
  subst hcN
  clear hnext2 hcm g
  have hfin : I.cmp .neq (I.bin .add .i64 nn tb) sa = false := neq_eq hI (by
   have := add_n hI hnn2 htb (by omega)
   unfold isN at this hsa
   rw [this, hsa]
   omega)
  cbv
  refine br_f hfin ?_
  cbv
  exact hnext _ _ (40 - (j + 1)) [0, 1, 2, 3, 4, 5, 6, 7, 8, 9, 10, 11, 12, 13, 14, 15, 16, 17, 18] [] [1, 5, 6, 7, 8, 9] _ _ (by omega) (by decide) rfl rfl rfl ⟨j + 1, _, L0, L1, L2, L3, L4, L5, L6, L7, ps, sa, tb, na, nb, rfl, hz1, by omega, hF, hsa, htb, hna, hnb, rfl, rfl⟩
end
end Go.Proofs.Ytofdnnjkfpomcaa.E

/- The network of 3 nodes: contracts told by lists of packets. -/
namespace Go.Proofs.Ytofdnnjkfpomcaa.E
open Go
set_option linter.unusedVariables false
set_option maxRecDepth 100000
theorem lets3 {P : Program} {f : FuncId} {args : List V1} {m : Mem} {o i : Int} {Q : A → List (List PK) → Prop} (h : LValid P f args m (fun v m1 => ∃ (Ms : List (List (List G))) (ps' : List (List PK)), Ms.length = 12 ∧ Q v ps' ∧ FIs 3 o i 0 Ms ps' ∧ m1 = fabU o i 3 Ms)) :
  LValid P f args m (fun v m1 => ∃ (M0 M1 M2 M3 M4 M5 M6 M7 M8 M9 M10 M11 : List (List G)) (ps' : List (List PK)), Q v ps' ∧ FIs 3 o i 0 [M0, M1, M2, M3, M4, M5, M6, M7, M8, M9, M10, M11] ps' ∧ m1 = fabU o i 3 [M0, M1, M2, M3, M4, M5, M6, M7, M8, M9, M10, M11]) :=
 h.mono fun v m1 ⟨Ms, ps', h1⟩ => by
  have hl := h1.1
  obtain ⟨M0, N0, rfl, q0⟩ := cons_len hl
  obtain ⟨M1, N1, rfl, q1⟩ := cons_len q0
  obtain ⟨M2, N2, rfl, q2⟩ := cons_len q1
  obtain ⟨M3, N3, rfl, q3⟩ := cons_len q2
  obtain ⟨M4, N4, rfl, q4⟩ := cons_len q3
  obtain ⟨M5, N5, rfl, q5⟩ := cons_len q4
  obtain ⟨M6, N6, rfl, q6⟩ := cons_len q5
  obtain ⟨M7, N7, rfl, q7⟩ := cons_len q6
  obtain ⟨M8, N8, rfl, q8⟩ := cons_len q7
  obtain ⟨M9, N9, rfl, q9⟩ := cons_len q8
  obtain ⟨M10, N10, rfl, q10⟩ := cons_len q9
  obtain ⟨M11, N11, rfl, q11⟩ := cons_len q10
  obtain rfl := List.length_eq_zero_iff.1 q11
  exact ⟨M0, M1, M2, M3, M4, M5, M6, M7, M8, M9, M10, M11, ps', h1.2⟩
set_option maxHeartbeats 64000000 in
theorem up3 {P : Program} {f : FuncId} {args : List V1} {o i : Int} {L0 L1 L2 L3 L4 L5 L6 L7 L8 L9 L10 L11 : List (List G)} {Q : A → List (List PK) → Prop} (hQ : ∀ (I : Ints) (v : A) (ps : List (List PK)), Q v ps → v.free = true ∧ ∀ σ m, v.inv I σ (.frz []) m = v)
  (h : LValid P f args (fabM o i 3 [L0, L1, L2, L3, L4, L5, L6, L7, L8, L9, L10, L11]) (fun v m1 => ∃ ps', Q v ps' ∧ Mv 3 3 o i [L0, L1, L2, L3, L4, L5, L6, L7, L8, L9, L10, L11] ps' m1)) :
  LValid P f args (fabM o i 3 [L0, L1, L2, L3, L4, L5, L6, L7, L8, L9, L10, L11]) (fun v m1 => ∃ (M0 M1 M2 M3 M4 M5 M6 M7 M8 M9 M10 M11 : List (List G)) (ps' : List (List PK)), Q v ps' ∧ FIs 3 o i 0 [M0, M1, M2, M3, M4, M5, M6, M7, M8, M9, M10, M11] ps' ∧ m1 = fabU o i 3 [M0, M1, M2, M3, M4, M5, M6, M7, M8, M9, M10, M11]) := by
 obtain ⟨I, hI⟩ := ref
 refine lets3 (LValid.postB hI h ?_)
 rintro v m1 ⟨ps', hq, ⟨hF, rfl⟩ | ⟨c, X, hc, hF, rfl⟩ | ⟨c, q, X, X', hod, hc, hqk, hF, rfl⟩⟩
 ·obtain ⟨q1, q2⟩ := hQ I v ps' hq
  refine ⟨sgU 3 999 999, [], by kernel_rfl, by kernel_rfl, ?_⟩
  rw [q2]
  exact ⟨q1, by kernel_rfl, [L0, L1, L2, L3, L4, L5, L6, L7, L8, L9, L10, L11], ps', rfl, hq, hF, by kernel_rfl⟩
 ·obtain ⟨q1, q2⟩ := hQ I v ps' hq
  have hk : Kp (sgU 3 c 999) := ⟨⟩
  have hl : (List.set [L0, L1, L2, L3, L4, L5, L6, L7, L8, L9, L10, L11] c X).length = 12 := by rw [List.length_set]; rfl
  have hcs : c = 0 ∨ c = 1 ∨ c = 2 ∨ c = 3 ∨ c = 4 ∨ c = 5 ∨ c = 6 ∨ c = 7 ∨ c = 8 ∨ c = 9 ∨ c = 10 ∨ c = 11 := by omega
  clear hc
  rcases hcs with rfl | rfl | rfl | rfl | rfl | rfl | rfl | rfl | rfl | rfl | rfl | rfl
  all_goals
   refine ⟨sOf hk, [], by kernel_rfl, by kernel_rfl, ?_⟩
   rw [q2]
   exact ⟨q1, by kernel_rfl, _, ps', hl, hq, hF, by kernel_rfl⟩
 ·obtain ⟨q1, q2⟩ := hQ I v ps' hq
  have hk : Kp (sgU 3 c (2 * q)) := ⟨⟩
  have hl : ((List.set [L0, L1, L2, L3, L4, L5, L6, L7, L8, L9, L10, L11] c X).set (2 * q) X').length = 12 := by rw [List.length_set, List.length_set]; rfl
  have hcs : c = 1 ∨ c = 3 ∨ c = 5 ∨ c = 7 ∨ c = 9 ∨ c = 11 := by omega
  have hqs : q = 0 ∨ q = 1 ∨ q = 2 ∨ q = 3 ∨ q = 4 ∨ q = 5 := by omega
  clear hc hod hqk
  rcases hcs with rfl | rfl | rfl | rfl | rfl | rfl <;> rcases hqs with rfl | rfl | rfl | rfl | rfl | rfl
  all_goals
   refine ⟨sOf hk, [], by kernel_rfl, by kernel_rfl, ?_⟩
   rw [q2]
   exact ⟨q1, by kernel_rfl, _, ps', hl, hq, hF, by kernel_rfl⟩
section
variable {P : Program} (hp : P = Try.prog)
include hp
theorem is3 (z : Z) (o i : Int) (L0 L1 L2 L3 L4 L5 L6 L7 L8 L9 L10 L11 : List (List G)) : LValid P 31 [.c (.ptr 0 (.lit 0) 1 0), .c (.g (.int .i64 z))] (fabM o i 3 [L0, L1, L2, L3, L4, L5, L6, L7, L8, L9, L10, L11]) (fun v m1 => ∃ t, t = belB z.val 0 3 ∧ v = boo t ∧ m1 = (fabM o i 3 [L0, L1, L2, L3, L4, L5, L6, L7, L8, L9, L10, L11])) := by
 refine bx' (LValid.boo (LValid.sy ?_))
 show LValid P 31 [.c (.ptr 0 (.lit 0) 1 0), .c (.g (.int .i64 (.sym z.val)))] _ _
 generalize z.val = z
 obtain ⟨I, hI⟩ := ref
 refine fn_sim hI (mo hp) (cc hp c31) fun Post hP => ?_
 cbv
 refine .br (fun h => ?_) (fun h => ?_)
 ·have h2 : 0 ≤ z := by simpa [hI, ints, rCmp] using h
  cbv
  exact hP _ _ [0, 1, 2, 3, 4, 5, 6, 7, 8, 9, 10, 11, 12, 13, 14, 15, 16, 17, 18, 19, 20, 21, 22, 23, 24, 25] [] _ _ (by decide) rfl rfl rfl rfl rfl ⟨_, rfl, by
   show I.cmp .lss z 3 = _
   rw [hI]
   show decide (z < 3) = belB z 0 3
   unfold belB
   rw [decide_eq_true h2]
   rfl, rfl⟩
 ·have h2 : ¬ 0 ≤ z := by simpa [hI, ints, rCmp] using h
  cbv
  exact hP _ _ [0, 1, 2, 3, 4, 5, 6, 7, 8, 9, 10, 11, 12, 13, 14, 15, 16, 17, 18, 19, 20, 21, 22, 23, 24, 25] [] _ _ (by decide) rfl rfl rfl rfl rfl ⟨_, rfl, by
   show false = belB z 0 3
   unfold belB
   rw [decide_eq_false h2]
   rfl, rfl⟩
set_option maxHeartbeats 16000000 in
theorem snd3 (z : PZ) (D : List (List G)) (d : List Int) (hD : isL .i64 D d) (hd : D.length * 8 ≤ 140737488355328) (hdy : ∀ y ∈ d, -9223372036854775808 ≤ y ∧ y ≤ 9223372036854775807) (o i : Int) (h0 : 0 ≤ o) (h1 : o ≤ 999999) (g0 : 0 ≤ i) (g1 : i ≤ 999999) (L0 L1 L2 L3 L4 L5 L6 L7 L8 L9 L10 L11 : List (List G)) (ps : List (List PK)) (hF : FIs 3 o i 0 [L0, L1, L2, L3, L4, L5, L6, L7, L8, L9, L10, L11] ps) : LValid P 10 [.c (.ptr 0 (.lit 0) 1 0), z.arg D] (fabM o i 3 [L0, L1, L2, L3, L4, L5, L6, L7, L8, L9, L10, L11])
  (fun v m1 => ∃ ps', (∃ t, v = i64 t ∧ SendR 3 o ps (z.pk d) t ps') ∧ Mv 3 3 o i [L0, L1, L2, L3, L4, L5, L6, L7, L8, L9, L10, L11] ps' m1) := by
 have hF' := hF
 obtain ⟨p0, r, rfl, e0, k0, l0, hF⟩ := hF.cons2 h1 g1
 obtain ⟨p1, r, rfl, e1, k1, l1, hF⟩ := hF.cons2 h1 g1
 obtain ⟨p2, r, rfl, e2, k2, l2, hF⟩ := hF.cons2 h1 g1
 obtain ⟨p3, r, rfl, e3, k3, l3, hF⟩ := hF.cons2 h1 g1
 obtain ⟨p4, r, rfl, e4, k4, l4, hF⟩ := hF.cons2 h1 g1
 obtain ⟨p5, r, rfl, e5, k5, l5, hF⟩ := hF.cons2 h1 g1
 obtain ⟨p6, r, rfl, e6, k6, l6, hF⟩ := hF.cons2 h1 g1
 obtain ⟨p7, r, rfl, e7, k7, l7, hF⟩ := hF.cons2 h1 g1
 obtain ⟨p8, r, rfl, e8, k8, l8, hF⟩ := hF.cons2 h1 g1
 obtain ⟨p9, r, rfl, e9, k9, l9, hF⟩ := hF.cons2 h1 g1
 obtain ⟨p10, r, rfl, e10, k10, l10, hF⟩ := hF.cons2 h1 g1
 obtain ⟨p11, r, rfl, e11, k11, l11, hF⟩ := hF.cons2 h1 g1
 obtain rfl := hF.nil
 clear hF
 have h1' : o ≤ 1000000 := Int.le_trans h1 (by decide)
 have g1' : i ≤ 1000000 := Int.le_trans g1 (by decide)
 refine LValid.sy ?_
 show LValid P 10 [.c (.ptr 0 (.lit 0) 1 0), .agg [.g (.int .i64 (.sym z.k.val)), .g (.int .i64 (.sym z.f.val)), .g (.int .i64 (.sym z.t.val)), .g (.int .i64 (.sym z.i.val)), .g (.int .i64 (.sym z.l.val)), .g (.int .i64 (.sym z.p.val)), .g (.int .i64 (.sym z.s.val)), .g (.bool (.sym z.b.val)), .bor 1 D]] _ _
 rw [show z.pk d = ⟨z.k.val, z.f.val, z.t.val, z.i.val, z.l.val, z.p.val, z.s.val, z.b.val, d⟩ from rfl]
 generalize z.k.val = k, z.f.val = f, z.t.val = t, z.i.val = i2, z.l.val = l, z.p.val = p, z.s.val = s, z.b.val = b
 refine LValid.syv (R := fun v m1 => ∃ ps', (∃ t' : Z, v = .one (.c (.g (.int .i64 t'))) ∧ SendR 3 o [p0, p1, p2, p3, p4, p5, p6, p7, p8, p9, p10, p11] ⟨k, f, t, i2, l, p, s, b, d⟩ t'.val ps') ∧ Mv 3 3 o i [L0, L1, L2, L3, L4, L5, L6, L7, L8, L9, L10, L11] ps' m1) ?_ (fun v m1 ⟨ps', ⟨t', h1, h2⟩, h3⟩ => ⟨ps', ⟨t'.val, by rw [h1]; rfl, h2⟩, h3⟩)
 obtain ⟨I, hI⟩ := ref
 have hchk := check hp ⟨.sym k, .sym f, .sym t, .sym i2, .sym l, .sym p, .sym s, .sym b⟩ D d hD
 have hreq := request hp (.sym k)
 rw [show PZ.pk ⟨.sym k, .sym f, .sym t, .sym i2, .sym l, .sym p, .sym s, .sym b⟩ d = ⟨k, f, t, i2, l, p, s, b, d⟩ from rfl] at hchk
 rw [show (Z.sym k).val = k from rfl] at hreq
 have hput := fun (L : List (List G)) (h : L.length ≤ 1000000) => p_put hp ⟨.sym k, .sym f, .sym t, .sym i2, .sym l, .sym p, .sym s, .sym b⟩ D d hD hd o L h0 h1' h
 rw [show PZ.pk ⟨.sym k, .sym f, .sym t, .sym i2, .sym l, .sym p, .sym s, .sym b⟩ d = ⟨k, f, t, i2, l, p, s, b, d⟩ from rfl] at hput
 have hno : sendB 3 ⟨k, f, t, i2, l, p, s, b, d⟩ = false → SendR 3 o [p0, p1, p2, p3, p4, p5, p6, p7, p8, p9, p10, p11] ⟨k, f, t, i2, l, p, s, b, d⟩ 1 [p0, p1, p2, p3, p4, p5, p6, p7, p8, p9, p10, p11] := fun h => .inl ⟨rfl, h, rfl⟩
 have hyes := fun hs => send_yes (N := 3) rfl rfl hF' h1 (q := ⟨k, f, t, i2, l, p, s, b, d⟩) hD hdy hs
 have hsb : sendB 3 ⟨k, f, t, i2, l, p, s, b, d⟩ = (checkB ⟨k, f, t, i2, l, p, s, b, d⟩ && belB f 0 3 && belB t 0 3) := rfl
 have hpr : reqB k = true → place ⟨k, f, t, i2, l, p, s, b, d⟩ = 4 * f.toNat + 0 := fun h => by show 4 * f.toNat + (if reqB k then 0 else 2) = _; rw [h]; rfl
 have hpa : reqB k = false → place ⟨k, f, t, i2, l, p, s, b, d⟩ = 4 * f.toNat + 2 := fun h => by show 4 * f.toNat + (if reqB k then 0 else 2) = _; rw [h]; rfl
 have hbl : belB f 0 3 = true → ∃ j : Nat, isN f j ∧ j < 3 ∧ f.toNat = j := fun h => by
  unfold belB at h
  simp only [Bool.and_eq_true, decide_eq_true_eq] at h
  exact ⟨f.toNat, by unfold isN; omega, by omega, rfl⟩
 generalize SendR 3 o [p0, p1, p2, p3, p4, p5, p6, p7, p8, p9, p10, p11] ⟨k, f, t, i2, l, p, s, b, d⟩ = SR at hno hyes ⊢
 generalize sendB 3 ⟨k, f, t, i2, l, p, s, b, d⟩ = sb at hsb hno hyes
 generalize place ⟨k, f, t, i2, l, p, s, b, d⟩ = pl at hpr hpa hyes
 generalize checkB ⟨k, f, t, i2, l, p, s, b, d⟩ = ck at hchk hsb
 generalize hbf : belB f 0 3 = bf at hsb hbl
 generalize hbt : belB t 0 3 = bt at hsb
 refine fn_sim hI (mo hp) (cc hp c10) fun Post hP => ?_
 cbv
 refine .go [] [] [] hchk rfl rfl rfl rfl rfl rfl ?_
 rintro v m1 ⟨e, he, rfl, rfl⟩
 clear hchk
 cases ck with
 | false =>
  have he : e = 1 := he
  subst he
  cbv
  refine br_t (show I.cmp .neq 1 0 = true from by rw [hI]; rfl) ?_
  cbv
  exact hP _ _ [0, 1, 2, 3, 4, 5, 6, 7, 8, 9, 10, 11, 12, 13, 14, 15, 16, 17, 18, 19, 20, 21, 22, 23, 24, 25] [] _ _ (by decide) rfl rfl rfl rfl rfl ⟨_, ⟨.lit 1, rfl, hno (by rw [hsb]; rfl)⟩, .inl ⟨hF', rfl⟩⟩
 | true =>
 have he : e = 0 := he
 subst he
 cbv
 refine br_f (show I.cmp .neq 0 0 = false from by rw [hI]; rfl) ?_
 cbv
 refine .go [0, 1, 2, 3, 4, 5, 6, 7, 8, 9, 10, 11, 12, 13, 14, 15, 16, 17, 18, 19, 20, 21, 22, 23, 24, 25] [] [] (is3 hp (.sym f) o i L0 L1 L2 L3 L4 L5 L6 L7 L8 L9 L10 L11) rfl rfl rfl rfl rfl rfl ?_
 rintro v m1 ⟨t1, ht1, rfl, rfl⟩
 have ht1 : t1 = bf := (show t1 = belB f 0 3 from ht1).trans hbf
 cbv
 refine .br (fun g1 => ?_) (fun g1 => ?_)
 ·have h1 : t1 = false := by simpa [hI, ints] using g1
  cbv
  exact hP _ _ [0, 1, 2, 3, 4, 5, 6, 7, 8, 9, 10, 11, 12, 13, 14, 15, 16, 17, 18, 19, 20, 21, 22, 23, 24, 25] [] _ _ (by decide) rfl rfl rfl rfl rfl ⟨_, ⟨.lit 1, rfl, hno (by rw [hsb, ← ht1, h1]; rfl)⟩, .inl ⟨hF', rfl⟩⟩
 have h2 : t1 = true := by simpa [hI, ints] using g1
 obtain ⟨j, hj, hjn, hjt⟩ := hbl (by rw [← ht1]; exact h2)
 cbv
 refine .go [0, 1, 2, 3, 4, 5, 6, 7, 8, 9, 10, 11, 12, 13, 14, 15, 16, 17, 18, 19, 20, 21, 22, 23, 24, 25] [] [] (is3 hp (.sym t) o i L0 L1 L2 L3 L4 L5 L6 L7 L8 L9 L10 L11) rfl rfl rfl rfl rfl rfl ?_
 rintro v m1 ⟨t2, ht2, rfl, rfl⟩
 have ht2 : t2 = bt := (show t2 = belB t 0 3 from ht2).trans hbt
 rw [← ht1, ← ht2, h2] at hsb
 clear hbl ht1 ht2 h2 g1
 cbv
 refine .br (fun g2 => ?_) (fun g2 => ?_)
 ·have h1 : t2 = false := by simpa [hI, ints] using g2
  cbv
  exact hP _ _ [0, 1, 2, 3, 4, 5, 6, 7, 8, 9, 10, 11, 12, 13, 14, 15, 16, 17, 18, 19, 20, 21, 22, 23, 24, 25] [] _ _ (by decide) rfl rfl rfl rfl rfl ⟨_, ⟨.lit 1, rfl, hno (by rw [hsb, h1]; rfl)⟩, .inl ⟨hF', rfl⟩⟩
 have h2 : t2 = true := by simpa [hI, ints] using g2
 rw [h2] at hsb
 have hsb : sb = true := hsb
 clear h2 g2 hno
 rw [hjt] at hpr hpa
 have h9 := hyes hsb
 obtain ⟨p', Lp, hLp, hll, h5', h0'⟩ := h9
 have hk1 : Kp [2 + 8 * j, 3 + 8 * j, 4 + 8 * j, 5 + 8 * j, 6 + 8 * j, 7 + 8 * j, 8 + 8 * j, 9 + 8 * j] := ⟨⟩
 have hkr : Kp [2 + 8 * j, 3 + 8 * j] := ⟨⟩
 have hka : Kp [6 + 8 * j, 7 + 8 * j] := ⟨⟩
 cbv
 refine .drawn [2, 3, 4, 5, 6, 7, 8, 9, 10, 11, 12, 13, 14, 15, 16, 17, 18, 19, 20, 21, 22, 23, 24, 25] ?_
 cbv
 have hcs : j = 0 ∨ j = 1 ∨ j = 2 := by omega
 clear hjt hjn hyes hsb
 rcases hcs with rfl | rfl | rfl
 all_goals
  refine .idx _ hj (by decide) ?_
  cbv
  refine .go [] [] [] hreq rfl rfl rfl rfl rfl rfl ?_
  rintro v m1 ⟨rq, hrq, rfl, rfl⟩
  cbv
  refine .go (sOf hk1) [] [] (sort_ hp (.sym rq) o i _ _ _ _) rfl rfl rfl rfl rfl rfl ?_
  rintro v m1 ⟨⟨hs, rfl⟩ | ⟨hs, rfl⟩, rfl⟩
  ·have hs : rq = true := hs
   have hpl2 := hpr (hrq.symm.trans hs)
   subst hpl2
   cases hLp
   cbv
   refine .go (sOf hkr) [] [] (hput _ hll) rfl rfl rfl rfl rfl rfl ?_
   rintro v m1 ⟨t, rfl, ⟨rfl, h6, rfl⟩ | ⟨rfl, h6, L', hL', rfl⟩⟩
   ·have h9 := h5' h6
    cbv
    exact hP _ _ [0, 1, 2, 3, 4, 5, 6, 7, 8, 9, 10, 11, 12, 13, 14, 15, 16, 17, 18, 19, 20, 21, 22, 23, 24, 25] [] _ _ (by decide) rfl rfl rfl rfl rfl ⟨_, ⟨.sym 5, rfl, h9⟩, .inl ⟨hF', rfl⟩⟩
   ·have h9 := h0' L' h6 hL'
    obtain ⟨u1, u2⟩ := h9
    cbv
    exact hP _ _ [0, 1, 2, 3, 4, 5, 6, 7, 8, 9, 10, 11, 12, 13, 14, 15, 16, 17, 18, 19, 20, 21, 22, 23, 24, 25, 27] [] _ _ (by decide) rfl rfl rfl rfl rfl ⟨_, ⟨.sym 0, rfl, u1⟩, .inr (.inl ⟨_, L', by decide, u2, rfl⟩)⟩
  ·have hs : rq = false := hs
   have hpl2 := hpa (hrq.symm.trans hs)
   subst hpl2
   cases hLp
   cbv
   refine .go (sOf hka) [] [] (hput _ hll) rfl rfl rfl rfl rfl rfl ?_
   rintro v m1 ⟨t, rfl, ⟨rfl, h6, rfl⟩ | ⟨rfl, h6, L', hL', rfl⟩⟩
   ·have h9 := h5' h6
    cbv
    exact hP _ _ [0, 1, 2, 3, 4, 5, 6, 7, 8, 9, 10, 11, 12, 13, 14, 15, 16, 17, 18, 19, 20, 21, 22, 23, 24, 25] [] _ _ (by decide) rfl rfl rfl rfl rfl ⟨_, ⟨.sym 5, rfl, h9⟩, .inl ⟨hF', rfl⟩⟩
   ·have h9 := h0' L' h6 hL'
    obtain ⟨u1, u2⟩ := h9
    cbv
    exact hP _ _ [0, 1, 2, 3, 4, 5, 6, 7, 8, 9, 10, 11, 12, 13, 14, 15, 16, 17, 18, 19, 20, 21, 22, 23, 24, 25, 27] [] _ _ (by decide) rfl rfl rfl rfl rfl ⟨_, ⟨.sym 0, rfl, u1⟩, .inr (.inl ⟨_, L', by decide, u2, rfl⟩)⟩
theorem sendU3 (z : PZ) (D : List (List G)) (d : List Int) (hD : isL .i64 D d) (hd : D.length * 8 ≤ 140737488355328) (hdy : ∀ y ∈ d, -9223372036854775808 ≤ y ∧ y ≤ 9223372036854775807) (o i : Int) (h0 : 0 ≤ o) (h1 : o ≤ 999999) (g0 : 0 ≤ i) (g1 : i ≤ 999999) (L0 L1 L2 L3 L4 L5 L6 L7 L8 L9 L10 L11 : List (List G)) (ps : List (List PK)) (hF : FIs 3 o i 0 [L0, L1, L2, L3, L4, L5, L6, L7, L8, L9, L10, L11] ps) : LValid P 10 [.c (.ptr 0 (.lit 0) 1 0), z.arg D] (fabM o i 3 [L0, L1, L2, L3, L4, L5, L6, L7, L8, L9, L10, L11])
  (fun v m1 => ∃ (M0 M1 M2 M3 M4 M5 M6 M7 M8 M9 M10 M11 : List (List G)) (ps' : List (List PK)), (∃ t, v = i64 t ∧ SendR 3 o ps (z.pk d) t ps') ∧ FIs 3 o i 0 [M0, M1, M2, M3, M4, M5, M6, M7, M8, M9, M10, M11] ps' ∧ m1 = fabU o i 3 [M0, M1, M2, M3, M4, M5, M6, M7, M8, M9, M10, M11]) :=
 up3 (fun I v ps ⟨t, h, _⟩ => by subst h; exact ⟨rfl, fun _ _ => rfl⟩) (snd3 hp z D d hD hd hdy o i h0 h1 g0 g1 L0 L1 L2 L3 L4 L5 L6 L7 L8 L9 L10 L11 ps hF)
set_option maxHeartbeats 16000000 in
theorem pools3 (o i : Int) (L0 L1 L2 L3 L4 L5 L6 L7 L8 L9 L10 L11 : List (List G)) : LValid P 35 [.c (.ptr 0 (.lit 0) 1 0)] (fabM o i 3 [L0, L1, L2, L3, L4, L5, L6, L7, L8, L9, L10, L11])
  (fun v m1 => v = .one (.c (.row 26 2 none)) ∧ m1 = (fabM o i 3 [L0, L1, L2, L3, L4, L5, L6, L7, L8, L9, L10, L11]) ++ outB 3) := by
 obtain ⟨I, hI⟩ := ref
 refine fn_sim hI (mo hp) (cc hp c35) fun Post hP => ?_
 cbv
 refine .loop_next (fun n ts m => ∃ (j : Nat) (z : Int), n = 3 - j ∧ isN z j ∧ j ≤ 3 ∧ ts = fr 24 [(0, .one (.c (.ptr 0 (.lit 0) 1 0))), (3, .one (.c (outC 26 j))), (9, .one (.c (.row 1 4 none))), (10, i64 3), (11, i64 z)] ∧ m = (fabM o i 3 [L0, L1, L2, L3, L4, L5, L6, L7, L8, L9, L10, L11]) ++ outB j)
  3 _ _ [0, 1, 2, 3, 4, 5, 6, 7, 8, 9, 10, 11, 12, 13, 14, 15, 16, 17, 18, 19, 20, 21, 22, 23, 24, 25] [] [0, 3, 9, 10, 11] (by decide) rfl rfl rfl ⟨0, 0, rfl, rfl, Nat.zero_le _, rfl, rfl⟩ ?_
 rintro next n hnext ts m ⟨j, z, hnn, hz, hj, rfl, rfl⟩
 have hz1 : isN (I.bin .add .i64 z 1) (j + 1) := by unfold isN at hz ⊢; rw [hI]; simp only [ints, rBin]; rw [wrap_in] <;> omega
 have hcm : (j < 3 → I.cmp .lss z 3 = true) ∧ (j = 3 → I.cmp .lss z 3 = false) := by
  unfold isN at hz
  rw [hI]
  simp only [ints, rCmp, decide_eq_true_eq, decide_eq_false_iff_not]
  omega
 have hcs : j = 0 ∨ j = 1 ∨ j = 2 ∨ j = 3 := by omega
 clear hj
 rcases hcs with rfl | rfl | rfl | rfl
 ·have hc := hcm.1 (by decide)
  clear hcm
  cbv
  refine br_t hc ?_
  cbv
  refine .idx _ hz (by decide) ?_
  cbv
  refine .most (by decide) (by decide) ?_
  cbv
  exact hnext _ _ 2 [0, 1, 2, 3, 4, 5, 6, 7, 8, 9, 10, 11, 12, 13, 14, 15, 16, 17, 18, 19, 20, 21, 22, 23, 24, 25, 28] [] [0, 3, 9, 10, 11] _ _ (by omega) (by decide) rfl rfl rfl ⟨1, _, rfl, hz1, by decide, rfl, rfl⟩
 ·have hc := hcm.1 (by decide)
  clear hcm
  cbv
  refine br_t hc ?_
  cbv
  refine .idx _ hz (by decide) ?_
  cbv
  refine .most (by decide) (by decide) ?_
  cbv
  exact hnext _ _ 1 [0, 1, 2, 3, 4, 5, 6, 7, 8, 9, 10, 11, 12, 13, 14, 15, 16, 17, 18, 19, 20, 21, 22, 23, 24, 25, 29] [] [0, 3, 9, 10, 11] _ _ (by omega) (by decide) rfl rfl rfl ⟨2, _, rfl, hz1, by decide, rfl, rfl⟩
 ·have hc := hcm.1 (by decide)
  clear hcm
  cbv
  refine br_t hc ?_
  cbv
  refine .idx _ hz (by decide) ?_
  cbv
  refine .most (by decide) (by decide) ?_
  cbv
  exact hnext _ _ 0 [0, 1, 2, 3, 4, 5, 6, 7, 8, 9, 10, 11, 12, 13, 14, 15, 16, 17, 18, 19, 20, 21, 22, 23, 24, 25, 29] [] [0, 3, 9, 10, 11] _ _ (by omega) (by decide) rfl rfl rfl ⟨3, _, rfl, hz1, by decide, rfl, rfl⟩
 ·have hc := hcm.2 rfl
  clear hcm
  cbv
  refine br_f hc ?_
  cbv
  exact hP _ _ [0, 1, 2, 3, 4, 5, 6, 7, 8, 9, 10, 11, 12, 13, 14, 15, 16, 17, 18, 19, 20, 21, 22, 23, 24, 25, 26] [] _ _ (by decide) rfl rfl rfl rfl rfl ⟨rfl, rfl⟩
theorem underU3 (o i : Int) (h0 : 0 ≤ o) (h1 : o ≤ 999999) (g0 : 0 ≤ i) (g1 : i ≤ 999999) (L0 L1 L2 L3 L4 L5 L6 L7 L8 L9 L10 L11 : List (List G)) (ps : List (List PK)) (hF : FIs 3 o i 0 [L0, L1, L2, L3, L4, L5, L6, L7, L8, L9, L10, L11] ps) : LValid P 11 [.c (.ptr 0 (.lit 0) 1 0)] (fabM o i 3 [L0, L1, L2, L3, L4, L5, L6, L7, L8, L9, L10, L11]) (fun v m1 => ∃ t, isN t (under ps).length ∧ v = i64 t ∧ m1 = (fabM o i 3 [L0, L1, L2, L3, L4, L5, L6, L7, L8, L9, L10, L11])) := by
 have hF' := hF
 obtain ⟨p0, r, rfl, e0, k0, l0, hF⟩ := hF.cons2 h1 g1
 obtain ⟨p1, r, rfl, e1, k1, l1, hF⟩ := hF.cons2 h1 g1
 obtain ⟨p2, r, rfl, e2, k2, l2, hF⟩ := hF.cons2 h1 g1
 obtain ⟨p3, r, rfl, e3, k3, l3, hF⟩ := hF.cons2 h1 g1
 obtain ⟨p4, r, rfl, e4, k4, l4, hF⟩ := hF.cons2 h1 g1
 obtain ⟨p5, r, rfl, e5, k5, l5, hF⟩ := hF.cons2 h1 g1
 obtain ⟨p6, r, rfl, e6, k6, l6, hF⟩ := hF.cons2 h1 g1
 obtain ⟨p7, r, rfl, e7, k7, l7, hF⟩ := hF.cons2 h1 g1
 obtain ⟨p8, r, rfl, e8, k8, l8, hF⟩ := hF.cons2 h1 g1
 obtain ⟨p9, r, rfl, e9, k9, l9, hF⟩ := hF.cons2 h1 g1
 obtain ⟨p10, r, rfl, e10, k10, l10, hF⟩ := hF.cons2 h1 g1
 obtain ⟨p11, r, rfl, e11, k11, l11, hF⟩ := hF.cons2 h1 g1
 obtain rfl := hF.nil
 clear hF
 have h1' : o ≤ 1000000 := Int.le_trans h1 (by decide)
 have g1' : i ≤ 1000000 := Int.le_trans g1 (by decide)
 have hun : sumLen 6 [L0, L2, L4, L6, L8, L10] = (under [p0, p1, p2, p3, p4, p5, p6, p7, p8, p9, p10, p11]).length := (lenTo_is 6 _ _ 0 hF').trans (lenTo_all 6 _ (Nat.le_refl _))
 rw [← hun]
 have hbd : ∀ j, j ≤ 6 → sumLen j [L0, L2, L4, L6, L8, L10] ≤ 100000000 := fun j hj => Nat.le_trans (sumLen_bound [L0, L2, L4, L6, L8, L10] j 1000000 (by simp only [List.forall_mem_cons]; refine ⟨by assumption, by assumption, by assumption, by assumption, by assumption, by assumption, fun _ h => (by cases h)⟩)) (by omega)
 obtain ⟨I, hI⟩ := ref
 refine fn_sim hI (mo hp) (cc hp c11) fun Post hP => ?_
 cbv
 refine .go [0, 1, 2, 3, 4, 5, 6, 7, 8, 9, 10, 11, 12, 13, 14, 15, 16, 17, 18, 19, 20, 21, 22, 23, 24, 25] [] [] (pools3 hp o i L0 L1 L2 L3 L4 L5 L6 L7 L8 L9 L10 L11) rfl rfl rfl rfl rfl rfl ?_
 rintro v m1 ⟨rfl, rfl⟩
 cbv
 refine .loop_next (fun n ts m => ∃ (j : Nat) (z y : Int), n = 6 - j ∧ isN z j ∧ j ≤ 6 ∧ isN y (sumLen j [L0, L2, L4, L6, L8, L10]) ∧ ts = fr 20 [(0, .one (.c (.ptr 0 (.lit 0) 1 0))), (3, i64 y), (7, .one (.c (.row 26 2 none))), (8, i64 6), (9, i64 z)] ∧ m = (fabM o i 3 [L0, L1, L2, L3, L4, L5, L6, L7, L8, L9, L10, L11]) ++ outB 3)
  6 _ _ [0, 1, 2, 3, 4, 5, 6, 7, 8, 9, 10, 11, 12, 13, 14, 15, 16, 17, 18, 19, 20, 21, 22, 23, 24, 25, 26] [] [0, 3, 7, 8, 9] (by decide) rfl rfl rfl ⟨0, 0, 0, rfl, rfl, Nat.zero_le _, rfl, rfl, rfl⟩ ?_
 rintro next n hnext ts m ⟨j, z, y, hnn, hz, hj, hy, rfl, rfl⟩
 have hz1 : isN (I.bin .add .i64 z 1) (j + 1) := by unfold isN at hz ⊢; rw [hI]; simp only [ints, rBin]; rw [wrap_in] <;> omega
 have hcm : (j < 6 → I.cmp .lss z 6 = true) ∧ (j = 6 → I.cmp .lss z 6 = false) := by
  unfold isN at hz
  rw [hI]
  simp only [ints, rCmp, decide_eq_true_eq, decide_eq_false_iff_not]
  omega
 have hst := fun (L : List (List G)) (x : Int) (hL : [L0, L2, L4, L6, L8, L10][j]? = some L) (hx : x = ((L.length : Nat) : Int)) => sumLen_add hI hy hL hx (hbd (j + 1) (by have := (List.getElem?_eq_some_iff.1 hL).1; simp only [List.length_cons, List.length_nil] at this; omega))
 have hk : Kp [2 + 4 * j, 3 + 4 * j] := ⟨⟩
 have hn1 : j < 6 → 6 - (j + 1) < n := fun h => by omega
 have hcs : j = 0 ∨ j = 1 ∨ j = 2 ∨ j = 3 ∨ j = 4 ∨ j = 5 ∨ j = 6 := by omega
 clear hj hbd hun
 rcases hcs with rfl | rfl | rfl | rfl | rfl | rfl | rfl
 rotate_left 6
 ·have hc := hcm.2 rfl
  clear hcm
  cbv
  refine br_f hc ?_
  cbv
  exact hP _ _ [0, 1, 2, 3, 4, 5, 6, 7, 8, 9, 10, 11, 12, 13, 14, 15, 16, 17, 18, 19, 20, 21, 22, 23, 24, 25] [] _ _ (by decide) rfl rfl rfl rfl rfl ⟨_, hy, rfl, rfl⟩
 all_goals
  have hc := hcm.1 (by decide)
  have hn2 := hn1 (by decide)
  clear hcm hn1
  cbv
  refine br_t hc ?_
  cbv
  refine .idx _ hz (by decide) ?_
  cbv
  refine .go (sOf hk) [] [] (p_len hp o _) rfl rfl rfl rfl rfl rfl ?_
  rintro v m1 ⟨x, hx, rfl, rfl⟩
  have hy1 := hst _ x rfl hx
  clear hst hx
  cbv
  exact hnext _ _ _ [0, 1, 2, 3, 4, 5, 6, 7, 8, 9, 10, 11, 12, 13, 14, 15, 16, 17, 18, 19, 20, 21, 22, 23, 24, 25, 26] [] [0, 3, 7, 8, 9] _ _ hn2 (by decide) rfl rfl rfl ⟨_, _, _, rfl, hz1, by decide, hy1, rfl, rfl⟩
set_option maxHeartbeats 16000000 in
theorem find3 (z : Z) (hzr : -9223372036854775808 ≤ z.val ∧ z.val ≤ 9223372036854775807) (o i : Int) (L0 L1 L2 L3 L4 L5 L6 L7 L8 L9 L10 L11 : List (List G)) (l0 : L0.length ≤ 1000000) (l1 : L1.length ≤ 1000000) (l2 : L2.length ≤ 1000000) (l3 : L3.length ≤ 1000000) (l4 : L4.length ≤ 1000000) (l5 : L5.length ≤ 1000000) (l6 : L6.length ≤ 1000000) (l7 : L7.length ≤ 1000000) (l8 : L8.length ≤ 1000000) (l9 : L9.length ≤ 1000000) (l10 : L10.length ≤ 1000000) (l11 : L11.length ≤ 1000000) : LValid P 37 [.c (.ptr 0 (.lit 0) 1 0), .c (.g (.int .i64 z))] (fabM o i 3 [L0, L1, L2, L3, L4, L5, L6, L7, L8, L9, L10, L11])
  (fun v m1 => (∃ (q n : Nat) (x : Int) (L : List (List G)), [L0, L2, L4, L6, L8, L10][q]? = some L ∧ isN x n ∧ z.val = ((sumLen q [L0, L2, L4, L6, L8, L10] + n : Nat) : Int) ∧ n < L.length ∧ v = .tup [.agg [.ptr (2 + 4 * q) (.lit 0) 2 0, .ptr (4 + 4 * q) (.lit 0) 2 0], gi .i64 x, gb true] ∧ m1 = (fabM o i 3 [L0, L1, L2, L3, L4, L5, L6, L7, L8, L9, L10, L11])) ∨ ((z.val < 0 ∨ ((sumLen 6 [L0, L2, L4, L6, L8, L10] : Nat) : Int) ≤ z.val) ∧ v = .tup [.agg [.g .nilp, .g .nilp], gi .i64 0, gb false] ∧ m1 = (fabM o i 3 [L0, L1, L2, L3, L4, L5, L6, L7, L8, L9, L10, L11]))) := by
 refine LValid.sy ?_
 show LValid P 37 [.c (.ptr 0 (.lit 0) 1 0), .c (.g (.int .i64 (.sym z.val)))] _ _
 generalize z.val = z at hzr
 have hbd : ∀ j, j ≤ 6 → sumLen j [L0, L2, L4, L6, L8, L10] ≤ 100000000 := fun j hj => Nat.le_trans (sumLen_bound [L0, L2, L4, L6, L8, L10] j 1000000 (by simp only [List.forall_mem_cons]; refine ⟨by assumption, by assumption, by assumption, by assumption, by assumption, by assumption, fun _ h => (by cases h)⟩)) (by omega)
 refine LValid.syv (R := fun v m1 => (∃ (q n : Nat) (x : Int) (L : List (List G)), [L0, L2, L4, L6, L8, L10][q]? = some L ∧ isN x n ∧ z = ((sumLen q [L0, L2, L4, L6, L8, L10] + n : Nat) : Int) ∧ n < L.length ∧ v = .tup [.agg [.ptr (2 + 4 * q) (.lit 0) 2 0, .ptr (4 + 4 * q) (.lit 0) 2 0], gi .i64 x, .c (.g (.bool (.lit true)))] ∧ m1 = (fabM o i 3 [L0, L1, L2, L3, L4, L5, L6, L7, L8, L9, L10, L11])) ∨ ((z < 0 ∨ ((sumLen 6 [L0, L2, L4, L6, L8, L10] : Nat) : Int) ≤ z) ∧ v = .tup [.agg [.g .nilp, .g .nilp], .c (.g (.int .i64 (.lit 0))), .c (.g (.bool (.lit false)))] ∧ m1 = (fabM o i 3 [L0, L1, L2, L3, L4, L5, L6, L7, L8, L9, L10, L11]))) ?_
  (fun v m1 h => h.imp (fun ⟨q, n, x, L, h1, h2, h3, h4, h5, h6⟩ => ⟨q, n, x, L, h1, h2, h3, h4, by rw [h5]; rfl, h6⟩) (fun ⟨h1, h2, h3⟩ => ⟨h1, by rw [h2]; rfl, h3⟩))
 obtain ⟨I, hI⟩ := ref
 refine fn_sim hI (mo hp) (cc hp c37) fun Post hP => ?_
 cbv
 refine .go [0, 1, 2, 3, 4, 5, 6, 7, 8, 9, 10, 11, 12, 13, 14, 15, 16, 17, 18, 19, 20, 21, 22, 23, 24, 25] [] [] (pools3 hp o i L0 L1 L2 L3 L4 L5 L6 L7 L8 L9 L10 L11) rfl rfl rfl rfl rfl rfl ?_
 rintro v m1 ⟨rfl, rfl⟩
 cbv
 refine .loop_next (fun n ts m => ∃ (j : Nat) (y a : Int), n = 6 - j ∧ isN y j ∧ j ≤ 6 ∧ isA a z j [L0, L2, L4, L6, L8, L10] ∧ ts = fr 34 [(0, .one (.c (.ptr 0 (.lit 0) 1 0))), (1, i64 a), (4, .one (.c (.ptr 26 (.lit 0) 2 0))), (10, .one (.c (.row 27 2 none))), (11, i64 6), (12, i64 y)] ∧ m = (fabM o i 3 [L0, L1, L2, L3, L4, L5, L6, L7, L8, L9, L10, L11]) ++ [.lit 2 [[.g .nilp, .g .nilp]], .lit 2 (fabR 2 3)])
  6 _ _ [0, 1, 2, 3, 4, 5, 6, 7, 8, 9, 10, 11, 12, 13, 14, 15, 16, 17, 18, 19, 20, 21, 22, 23, 24, 25, 26, 27] [] [0, 1, 4, 10, 11, 12] (by decide) rfl rfl rfl ⟨0, 0, z, rfl, rfl, Nat.zero_le _, isA_nil hzr, rfl, rfl⟩ ?_
 rintro next n hnext ts m ⟨j, y, a, hnn, hy, hj, ha, rfl, rfl⟩
 have hy1 : isN (I.bin .add .i64 y 1) (j + 1) := by unfold isN at hy ⊢; rw [hI]; simp only [ints, rBin]; rw [wrap_in] <;> omega
 have hcm : (j < 6 → I.cmp .lss y 6 = true) ∧ (j = 6 → I.cmp .lss y 6 = false) := by
  unfold isN at hy
  rw [hI]
  simp only [ints, rCmp, decide_eq_true_eq, decide_eq_false_iff_not]
  omega
 have hst := fun (L : List (List G)) (x : Int) (hL : [L0, L2, L4, L6, L8, L10][j]? = some L) (hx : x = ((L.length : Nat) : Int)) => isA_step hzr (L := L) ha hL hx (by rw [← sumLen_step j _ L hL]; exact hbd (j + 1) (by have := (List.getElem?_eq_some_iff.1 hL).1; simp only [List.length_cons, List.length_nil] at this; omega))
 rw [show ints = I from hI.symm] at hst
 have hk : Kp [2 + 4 * j, 3 + 4 * j] := ⟨⟩
 have hn1 : j < 6 → 6 - (j + 1) < n := fun h => by omega
 have hcs : j = 0 ∨ j = 1 ∨ j = 2 ∨ j = 3 ∨ j = 4 ∨ j = 5 ∨ j = 6 := by omega
 clear hj hbd
 rcases hcs with rfl | rfl | rfl | rfl | rfl | rfl | rfl
 rotate_left 6
 ·have hc := hcm.2 rfl
  have ha2 := ha.2
  clear hcm ha hst
  cbv
  refine br_f hc ?_
  cbv
  exact hP _ _ [0, 1, 2, 3, 4, 5, 6, 7, 8, 9, 10, 11, 12, 13, 14, 15, 16, 17, 18, 19, 20, 21, 22, 23, 24, 25] [] _ _ (by decide) rfl rfl rfl rfl rfl (.inr ⟨ha2, rfl, rfl⟩)
 all_goals
  have hc := hcm.1 (by decide)
  have hn2 := hn1 (by decide)
  clear hcm ha hn1
  cbv
  refine br_t hc ?_
  cbv
  refine .idx _ hy (by decide) ?_
  cbv
  refine .br (fun g1 => ?_) (fun g1 => ?_)
  ·cbv
   refine .go (sOf hk) [] [] (p_len hp o _) rfl rfl rfl rfl rfl rfl ?_
   rintro v m1 ⟨x, hx, rfl, rfl⟩
   have hst := hst _ x rfl hx
   cbv
   refine .br (fun g2 => ?_) (fun g2 => ?_)
   ·have h9 := hst.1 g1 g2
    obtain ⟨n, q1, q2, q3⟩ := h9
    clear hst hx g1 g2
    cbv
    exact hP _ _ [0, 1, 2, 3, 4, 5, 6, 7, 8, 9, 10, 11, 12, 13, 14, 15, 16, 17, 18, 19, 20, 21, 22, 23, 24, 25] [] _ _ (by decide) rfl rfl rfl rfl rfl (.inl ⟨_, n, _, _, rfl, q1, q2, q3, rfl, rfl⟩)
   ·have q1 := hst.2.1 g1 g2
    clear hst g1 g2
    cbv
    refine .go (sOf hk) [] [] (p_len hp o _) rfl rfl rfl rfl rfl rfl ?_
    rintro v m1 ⟨x', hx', rfl, rfl⟩
    obtain rfl : x' = x := hx'.trans hx.symm
    clear hx hx'
    cbv
    exact hnext _ _ _ [0, 1, 2, 3, 4, 5, 6, 7, 8, 9, 10, 11, 12, 13, 14, 15, 16, 17, 18, 19, 20, 21, 22, 23, 24, 25, 26, 27] [] [0, 1, 4, 10, 11, 12] _ _ hn2 (by decide) rfl rfl rfl ⟨_, _, _, rfl, hy1, by decide, q1, rfl, rfl⟩
  ·cbv
   refine .go (sOf hk) [] [] (p_len hp o _) rfl rfl rfl rfl rfl rfl ?_
   rintro v m1 ⟨x, hx, rfl, rfl⟩
   have q1 := (hst _ x rfl hx).2.2 g1
   clear hst g1 hx
   cbv
   exact hnext _ _ _ [0, 1, 2, 3, 4, 5, 6, 7, 8, 9, 10, 11, 12, 13, 14, 15, 16, 17, 18, 19, 20, 21, 22, 23, 24, 25, 26, 27] [] [0, 1, 4, 10, 11, 12] _ _ hn2 (by decide) rfl rfl rfl ⟨_, _, _, rfl, hy1, by decide, q1, rfl, rfl⟩
set_option maxHeartbeats 16000000 in
theorem packet3 (z : Z) (hzr : -9223372036854775808 ≤ z.val ∧ z.val ≤ 9223372036854775807) (o i : Int) (h0 : 0 ≤ o) (h1 : o ≤ 999999) (g0 : 0 ≤ i) (g1 : i ≤ 999999) (L0 L1 L2 L3 L4 L5 L6 L7 L8 L9 L10 L11 : List (List G)) (ps : List (List PK)) (hF : FIs 3 o i 0 [L0, L1, L2, L3, L4, L5, L6, L7, L8, L9, L10, L11] ps) : LValid P 12 [.c (.ptr 0 (.lit 0) 1 0), .c (.g (.int .i64 z))] (fabM o i 3 [L0, L1, L2, L3, L4, L5, L6, L7, L8, L9, L10, L11])
  (fun v m1 => (∃ (q n : Nat) (p : List PK) (r : PK) (D : List (List G)), (evens ps)[q]? = some p ∧ p[n]? = some r ∧ z.val = ((lenTo q (evens ps) + n : Nat) : Int) ∧ isL .i64 D r.d ∧ v = .tup [r.told (.g (.rows 1 D)), gb true] ∧ m1 = (fabM o i 3 [L0, L1, L2, L3, L4, L5, L6, L7, L8, L9, L10, L11])) ∨ ((z.val < 0 ∨ (((under ps).length : Nat) : Int) ≤ z.val) ∧ v = .tup [PK.nought.told (.g .nil), gb false] ∧ m1 = (fabM o i 3 [L0, L1, L2, L3, L4, L5, L6, L7, L8, L9, L10, L11]))) := by
 have hF' := hF
 obtain ⟨p0, r, rfl, e0, k0, l0, hF⟩ := hF.cons2 h1 g1
 obtain ⟨p1, r, rfl, e1, k1, l1, hF⟩ := hF.cons2 h1 g1
 obtain ⟨p2, r, rfl, e2, k2, l2, hF⟩ := hF.cons2 h1 g1
 obtain ⟨p3, r, rfl, e3, k3, l3, hF⟩ := hF.cons2 h1 g1
 obtain ⟨p4, r, rfl, e4, k4, l4, hF⟩ := hF.cons2 h1 g1
 obtain ⟨p5, r, rfl, e5, k5, l5, hF⟩ := hF.cons2 h1 g1
 obtain ⟨p6, r, rfl, e6, k6, l6, hF⟩ := hF.cons2 h1 g1
 obtain ⟨p7, r, rfl, e7, k7, l7, hF⟩ := hF.cons2 h1 g1
 obtain ⟨p8, r, rfl, e8, k8, l8, hF⟩ := hF.cons2 h1 g1
 obtain ⟨p9, r, rfl, e9, k9, l9, hF⟩ := hF.cons2 h1 g1
 obtain ⟨p10, r, rfl, e10, k10, l10, hF⟩ := hF.cons2 h1 g1
 obtain ⟨p11, r, rfl, e11, k11, l11, hF⟩ := hF.cons2 h1 g1
 obtain rfl := hF.nil
 clear hF
 have h1' : o ≤ 1000000 := Int.le_trans h1 (by decide)
 have g1' : i ≤ 1000000 := Int.le_trans g1 (by decide)
 refine LValid.sy ?_
 show LValid P 12 [.c (.ptr 0 (.lit 0) 1 0), .c (.g (.int .i64 (.sym z.val)))] _ _
 generalize z.val = z at hzr
 have hun : sumLen 6 [L0, L2, L4, L6, L8, L10] = (under [p0, p1, p2, p3, p4, p5, p6, p7, p8, p9, p10, p11]).length := (lenTo_is 6 _ _ 0 hF').trans (lenTo_all 6 _ (Nat.le_refl _))
 have hto : ∀ q, sumLen q [L0, L2, L4, L6, L8, L10] = lenTo q (evens [p0, p1, p2, p3, p4, p5, p6, p7, p8, p9, p10, p11]) := fun q => lenTo_is q _ _ 0 hF'
 refine LValid.syv (R := fun v m1 => (∃ (q n : Nat) (p : List PK) (r : PK) (D : List (List G)), (evens [p0, p1, p2, p3, p4, p5, p6, p7, p8, p9, p10, p11])[q]? = some p ∧ p[n]? = some r ∧ z = ((lenTo q (evens [p0, p1, p2, p3, p4, p5, p6, p7, p8, p9, p10, p11]) + n : Nat) : Int) ∧ isL .i64 D r.d ∧ v = .tup [r.told (.g (.rows 1 D)), gb true] ∧ m1 = (fabM o i 3 [L0, L1, L2, L3, L4, L5, L6, L7, L8, L9, L10, L11])) ∨ ((z < 0 ∨ (((under [p0, p1, p2, p3, p4, p5, p6, p7, p8, p9, p10, p11]).length : Nat) : Int) ≤ z) ∧ v = .tup [noughtL, .c (.g (.bool (.lit false)))] ∧ m1 = (fabM o i 3 [L0, L1, L2, L3, L4, L5, L6, L7, L8, L9, L10, L11]))) ?_ (fun v m1 h => h.imp (fun h => h.imp fun q h => h.imp fun n h => h.imp fun ps h => h.imp fun r h => h.imp fun D ⟨h1, h2, h3, h4, h5, h6⟩ => ⟨h1, h2, h3, h4, by rw [h5]; rfl, h6⟩) (fun ⟨h1, h2, h3⟩ => ⟨h1, by rw [h2]; rfl, h3⟩))
 obtain ⟨I, hI⟩ := ref
 refine fn_sim hI (mo hp) (cc hp c12) fun Post hP => ?_
 cbv
 refine .go [0, 1, 2, 3, 4, 5, 6, 7, 8, 9, 10, 11, 12, 13, 14, 15, 16, 17, 18, 19, 20, 21, 22, 23, 24, 25] [] [] (find3 hp (.sym z) hzr o i L0 L1 L2 L3 L4 L5 L6 L7 L8 L9 L10 L11 l0 l1 l2 l3 l4 l5 l6 l7 l8 l9 l10 l11) rfl rfl rfl rfl rfl rfl ?_
 rintro v m1 (⟨q, n, x, L, hq, hx, hz, hn, rfl, rfl⟩ | ⟨h, rfl, rfl⟩)
 ·have hz : z = ((sumLen q [L0, L2, L4, L6, L8, L10] + n : Nat) : Int) := hz
  have hz0 : I.cmp .lss z 0 = false := by
   rw [hI, hz]
   simp only [ints, rCmp, decide_eq_false_iff_not]
   omega
  rw [hto] at hz
  have h9 := hF'.at _ _ _ (2 * q) _ (by rw [← evens_get]; exact hq)
  obtain ⟨p, hpq, eP, kP, _⟩ := h9
  rw [← evens_get] at hpq
  have hl : L.length ≤ 1000000 := by
   have hm := List.mem_of_getElem? hq
   simp only [List.mem_cons, List.not_mem_nil, or_false] at hm
   rcases hm with rfl | rfl | rfl | rfl | rfl | rfl <;> assumption
  have hcs : q = 0 ∨ q = 1 ∨ q = 2 ∨ q = 3 ∨ q = 4 ∨ q = 5 := by
   have := (List.getElem?_eq_some_iff.1 hq).1
   simp only [List.length_cons, List.length_nil] at this
   omega
  have hk : Kp [2 + 4 * q, 3 + 4 * q] := ⟨⟩
  clear hto hun
  rcases hcs with rfl | rfl | rfl | rfl | rfl | rfl
  all_goals
   cases hq
   cbv
   refine br_f (show I.not true = false from by rw [hI]; rfl) ?_
   cbv
   refine br_f hz0 ?_
   cbv
   refine .go (sOf hk) [] [] (p_get hp (.sym x) _ _ p eP (okQ.len kP) hl) rfl rfl rfl rfl rfl rfl ?_
   rintro v m1 (⟨h, _⟩ | ⟨n2, r, D, hn2, hr, hD, rfl, rfl⟩)
   ·exact absurd h (notOut hx (lenIs eP hn))
   ·obtain rfl : n2 = n := isN_eq hn2 hx
    cbv
    exact hP _ _ [0, 1, 2, 3, 4, 5, 6, 7, 8, 9, 10, 11, 12, 13, 14, 15, 16, 17, 18, 19, 20, 21, 22, 23, 24, 25] [28] _ _ (by decide) rfl rfl rfl rfl rfl (.inl ⟨_, n2, p, r, D, hpq, hr, hz, hD, rfl, rfl⟩)
 ·rw [hun] at h
  cbv
  refine br_t (show I.not false = true from by rw [hI]; rfl) ?_
  cbv
  exact hP _ _ [0, 1, 2, 3, 4, 5, 6, 7, 8, 9, 10, 11, 12, 13, 14, 15, 16, 17, 18, 19, 20, 21, 22, 23, 24, 25] [] _ _ (by decide) rfl rfl rfl rfl rfl (.inr ⟨h, rfl, rfl⟩)
set_option maxHeartbeats 16000000 in
theorem takeRequest3 (z : Z) (o i : Int) (h0 : 0 ≤ o) (h1 : o ≤ 999999) (g0 : 0 ≤ i) (g1 : i ≤ 999999) (L0 L1 L2 L3 L4 L5 L6 L7 L8 L9 L10 L11 : List (List G)) (ps : List (List PK)) (hF : FIs 3 o i 0 [L0, L1, L2, L3, L4, L5, L6, L7, L8, L9, L10, L11] ps) : LValid P 42 [.c (.ptr 0 (.lit 0) 1 0), .c (.g (.int .i64 z)), .c (.g (.bool (.lit true)))] (fabM o i 3 [L0, L1, L2, L3, L4, L5, L6, L7, L8, L9, L10, L11])
  (fun v m1 => ∃ (M0 M1 M2 M3 M4 M5 M6 M7 M8 M9 M10 M11 : List (List G)) (ps' : List (List PK)), TakeV 3 ps z.val 1 v ps' ∧ FIs 3 o i 0 [M0, M1, M2, M3, M4, M5, M6, M7, M8, M9, M10, M11] ps' ∧ m1 = fabU o i 3 [M0, M1, M2, M3, M4, M5, M6, M7, M8, M9, M10, M11]) := by
 refine up3 (fun I v ps ⟨r, b, D, h, _⟩ => by subst h; exact ⟨rfl, fun _ _ => rfl⟩) (takeW ?_)
 have hF' := hF
 obtain ⟨p0, r, rfl, e0, k0, l0, hF⟩ := hF.cons2 h1 g1
 obtain ⟨p1, r, rfl, e1, k1, l1, hF⟩ := hF.cons2 h1 g1
 obtain ⟨p2, r, rfl, e2, k2, l2, hF⟩ := hF.cons2 h1 g1
 obtain ⟨p3, r, rfl, e3, k3, l3, hF⟩ := hF.cons2 h1 g1
 obtain ⟨p4, r, rfl, e4, k4, l4, hF⟩ := hF.cons2 h1 g1
 obtain ⟨p5, r, rfl, e5, k5, l5, hF⟩ := hF.cons2 h1 g1
 obtain ⟨p6, r, rfl, e6, k6, l6, hF⟩ := hF.cons2 h1 g1
 obtain ⟨p7, r, rfl, e7, k7, l7, hF⟩ := hF.cons2 h1 g1
 obtain ⟨p8, r, rfl, e8, k8, l8, hF⟩ := hF.cons2 h1 g1
 obtain ⟨p9, r, rfl, e9, k9, l9, hF⟩ := hF.cons2 h1 g1
 obtain ⟨p10, r, rfl, e10, k10, l10, hF⟩ := hF.cons2 h1 g1
 obtain ⟨p11, r, rfl, e11, k11, l11, hF⟩ := hF.cons2 h1 g1
 obtain rfl := hF.nil
 clear hF
 have h1' : o ≤ 1000000 := Int.le_trans h1 (by decide)
 have g1' : i ≤ 1000000 := Int.le_trans g1 (by decide)
 refine LValid.sy ?_
 show LValid P 42 [.c (.ptr 0 (.lit 0) 1 0), .c (.g (.int .i64 (.sym z.val))), .c (.g (.bool (.sym true)))] _ _
 generalize z.val = z
 obtain ⟨I, hI⟩ := ref
 have hbl : belB z 0 3 = true → ∃ j : Nat, isN z j ∧ j < 3 := fun h => by
  unfold belB at h
  simp only [Bool.and_eq_true, decide_eq_true_eq] at h
  exact ⟨z.toNat, by unfold isN; omega, by omega⟩
 have hno : belB z 0 3 = false → ∀ v, v = .tup [noughtL, .c (.g (.bool (.lit false)))] → TakeW 3 [p0, p1, p2, p3, p4, p5, p6, p7, p8, p9, p10, p11] z 1 v [p0, p1, p2, p3, p4, p5, p6, p7, p8, p9, p10, p11] := fun h v hv => .inl ⟨.inl hv, rfl, .inl h⟩
 refine fn_sim hI (mo hp) (cc hp c42) fun Post hP => ?_
 generalize hbz : belB z 0 3 = bz at hbl hno
 cbv
 refine .go [0, 1, 2, 3, 4, 5, 6, 7, 8, 9, 10, 11, 12, 13, 14, 15, 16, 17, 18, 19, 20, 21, 22, 23, 24, 25] [] [] (is3 hp (.sym z) o i L0 L1 L2 L3 L4 L5 L6 L7 L8 L9 L10 L11) rfl rfl rfl rfl rfl rfl ?_
 rintro v m1 ⟨t1, ht1, rfl, rfl⟩
 have ht1 : t1 = bz := (show t1 = belB z 0 3 from ht1).trans hbz
 cbv
 refine .br (fun g1 => ?_) (fun g1 => ?_)
 ·have h1 : t1 = false := by simpa [hI, ints] using g1
  have h9 := hno (by rw [← ht1, h1])
  cbv
  exact hP _ _ [0, 1, 2, 3, 4, 5, 6, 7, 8, 9, 10, 11, 12, 13, 14, 15, 16, 17, 18, 19, 20, 21, 22, 23, 24, 25] [] _ _ (by decide) rfl rfl rfl rfl rfl ⟨_, h9 _ rfl, .inl ⟨hF', rfl⟩⟩
 have h2 : t1 = true := by simpa [hI, ints] using g1
 obtain ⟨j, hj, hjn⟩ := hbl (by rw [← ht1]; exact h2)
 have htk := fun (p : List PK) (r : PK) (L' : List (List G)) (h1 : [p0, p1, p2, p3, p4, p5, p6, p7, p8, p9, p10, p11][4 * j + 1]? = some p) (h2 : p[0]? = some r) (h3 : isP L' (p.eraseIdx 0)) => take_yes hF' h1 h2 h3
 have hk1 : Kp [2 + 8 * j, 3 + 8 * j, 4 + 8 * j, 5 + 8 * j, 6 + 8 * j, 7 + 8 * j, 8 + 8 * j, 9 + 8 * j] := ⟨⟩
 have hk2 : Kp [4 + 8 * j, 5 + 8 * j] := ⟨⟩
 have hcs : j = 0 ∨ j = 1 ∨ j = 2 := by omega
 clear hjn hbl ht1 g1 hbz hno
 cbv
 rcases hcs with rfl | rfl | rfl
 all_goals
  refine .idx _ hj (by decide) ?_
  cbv
  refine .go (sOf hk1) [] [] (sort_ hp (.sym true) o i _ _ _ _) rfl rfl rfl rfl rfl rfl ?_
  rintro v m1 ⟨⟨hs, rfl⟩ | ⟨hs, rfl⟩, rfl⟩
  ·have h9 := htk
   cbv
   refine .go (sOf hk2) [] [] (k_take hp _ _ _ (by assumption) (okQ.len (by assumption)) (by assumption)) rfl rfl rfl rfl rfl rfl ?_
   rintro v m1 (⟨h, rfl, rfl⟩ | ⟨r, D, L', hr, hD, hL', rfl, rfl⟩)
   ·subst h
    cbv
    exact hP _ _ [0, 1, 2, 3, 4, 5, 6, 7, 8, 9, 10, 11, 12, 13, 14, 15, 16, 17, 18, 19, 20, 21, 22, 23, 24, 25] [] _ _ (by decide) rfl rfl rfl rfl rfl ⟨_, .inl ⟨.inr rfl, rfl, .inr ⟨_, hj, by decide, rfl⟩⟩, .inl ⟨hF', rfl⟩⟩
   ·have h9 := htk _ _ _ rfl hr hL'
    obtain ⟨p', q1, q2, q3⟩ := h9
    cbv
    exact hP _ _ [0, 1, 2, 3, 4, 5, 6, 7, 8, 9, 10, 11, 12, 13, 14, 15, 16, 17, 18, 19, 20, 21, 22, 23, 24, 25, 27] [28] _ _ (by decide) rfl rfl rfl rfl rfl ⟨_, .inr ⟨r, D, p', _, rfl, hD, hj, by decide, q1, rfl, q3⟩, .inr (.inl ⟨_, L', by decide, q2, rfl⟩)⟩
  ·cases hs
theorem requestU3 (z : Z) (o i : Int) (h0 : 0 ≤ o) (h1 : o ≤ 999999) (g0 : 0 ≤ i) (g1 : i ≤ 999999) (L0 L1 L2 L3 L4 L5 L6 L7 L8 L9 L10 L11 : List (List G)) (ps : List (List PK)) (hF : FIs 3 o i 0 [L0, L1, L2, L3, L4, L5, L6, L7, L8, L9, L10, L11] ps) : LValid P 15 [.c (.ptr 0 (.lit 0) 1 0), .c (.g (.int .i64 z))] (fabM o i 3 [L0, L1, L2, L3, L4, L5, L6, L7, L8, L9, L10, L11])
  (fun v m1 => ∃ (M0 M1 M2 M3 M4 M5 M6 M7 M8 M9 M10 M11 : List (List G)) (ps' : List (List PK)), TakeV 3 ps z.val 1 v ps' ∧ FIs 3 o i 0 [M0, M1, M2, M3, M4, M5, M6, M7, M8, M9, M10, M11] ps' ∧ m1 = fabU o i 3 [M0, M1, M2, M3, M4, M5, M6, M7, M8, M9, M10, M11]) := by
 refine LValid.sy ?_
 show LValid P 15 [.c (.ptr 0 (.lit 0) 1 0), .c (.g (.int .i64 (.sym z.val)))] _ _
 generalize z.val = z
 have htk := takeRequest3 hp (.sym z) o i h0 h1 g0 g1 L0 L1 L2 L3 L4 L5 L6 L7 L8 L9 L10 L11 ps hF
 rw [show (Z.sym z).val = z from rfl] at htk
 have htk := htk.mono (R' := fun v m1 => ∃ (M0 M1 M2 M3 M4 M5 M6 M7 M8 M9 M10 M11 : List (List G)) (ps' : List (List PK)) (r : PK) (b : Bool) (D : List (List G)), v = .tup [r.told (.g (.rows 1 D)), gb b] ∧ (∀ v, v = .tup [r.told (.g (.rows 1 D)), gb b] → TakeV 3 ps z 1 v ps') ∧ FIs 3 o i 0 [M0, M1, M2, M3, M4, M5, M6, M7, M8, M9, M10, M11] ps' ∧ m1 = fabU o i 3 [M0, M1, M2, M3, M4, M5, M6, M7, M8, M9, M10, M11]) (fun v m1 ⟨M0, M1, M2, M3, M4, M5, M6, M7, M8, M9, M10, M11, ps', ⟨r, b, D, h1, h2⟩, h3⟩ => ⟨M0, M1, M2, M3, M4, M5, M6, M7, M8, M9, M10, M11, ps', r, b, D, h1, fun v hv => ⟨r, b, D, hv, h2⟩, h3⟩)
 obtain ⟨I, hI⟩ := ref
 refine fn_sim hI (mo hp) (cc hp c15) fun Post hP => ?_
 generalize TakeV 3 ps z 1 = TV at htk hP
 cbv
 refine .go [0, 1, 2, 3, 4, 5, 6, 7, 8, 9, 10, 11, 12, 13, 14, 15, 16, 17, 18, 19, 20, 21, 22, 23, 24, 25] [] [] htk rfl rfl rfl rfl rfl rfl ?_
 rintro v m1 ⟨M0, M1, M2, M3, M4, M5, M6, M7, M8, M9, M10, M11, ps', r, b, D, rfl, hT, hF1, rfl⟩
 cbv
 exact hP _ _ [0, 1, 2, 3, 4, 5, 6, 7, 8, 9, 10, 11, 12, 13, 14, 15, 16, 17, 18, 19, 20, 21, 22, 23, 24, 25, 27, 28, 29, 30, 31, 32, 33, 34, 35, 36, 37, 38] [] _ _ (by decide) rfl rfl rfl rfl rfl ⟨M0, M1, M2, M3, M4, M5, M6, M7, M8, M9, M10, M11, ps', hT _ rfl, hF1, rfl⟩
set_option maxHeartbeats 16000000 in
theorem takeReply3 (z : Z) (o i : Int) (h0 : 0 ≤ o) (h1 : o ≤ 999999) (g0 : 0 ≤ i) (g1 : i ≤ 999999) (L0 L1 L2 L3 L4 L5 L6 L7 L8 L9 L10 L11 : List (List G)) (ps : List (List PK)) (hF : FIs 3 o i 0 [L0, L1, L2, L3, L4, L5, L6, L7, L8, L9, L10, L11] ps) : LValid P 42 [.c (.ptr 0 (.lit 0) 1 0), .c (.g (.int .i64 z)), .c (.g (.bool (.lit false)))] (fabM o i 3 [L0, L1, L2, L3, L4, L5, L6, L7, L8, L9, L10, L11])
  (fun v m1 => ∃ (M0 M1 M2 M3 M4 M5 M6 M7 M8 M9 M10 M11 : List (List G)) (ps' : List (List PK)), TakeV 3 ps z.val 3 v ps' ∧ FIs 3 o i 0 [M0, M1, M2, M3, M4, M5, M6, M7, M8, M9, M10, M11] ps' ∧ m1 = fabU o i 3 [M0, M1, M2, M3, M4, M5, M6, M7, M8, M9, M10, M11]) := by
 refine up3 (fun I v ps ⟨r, b, D, h, _⟩ => by subst h; exact ⟨rfl, fun _ _ => rfl⟩) (takeW ?_)
 have hF' := hF
 obtain ⟨p0, r, rfl, e0, k0, l0, hF⟩ := hF.cons2 h1 g1
 obtain ⟨p1, r, rfl, e1, k1, l1, hF⟩ := hF.cons2 h1 g1
 obtain ⟨p2, r, rfl, e2, k2, l2, hF⟩ := hF.cons2 h1 g1
 obtain ⟨p3, r, rfl, e3, k3, l3, hF⟩ := hF.cons2 h1 g1
 obtain ⟨p4, r, rfl, e4, k4, l4, hF⟩ := hF.cons2 h1 g1
 obtain ⟨p5, r, rfl, e5, k5, l5, hF⟩ := hF.cons2 h1 g1
 obtain ⟨p6, r, rfl, e6, k6, l6, hF⟩ := hF.cons2 h1 g1
 obtain ⟨p7, r, rfl, e7, k7, l7, hF⟩ := hF.cons2 h1 g1
 obtain ⟨p8, r, rfl, e8, k8, l8, hF⟩ := hF.cons2 h1 g1
 obtain ⟨p9, r, rfl, e9, k9, l9, hF⟩ := hF.cons2 h1 g1
 obtain ⟨p10, r, rfl, e10, k10, l10, hF⟩ := hF.cons2 h1 g1
 obtain ⟨p11, r, rfl, e11, k11, l11, hF⟩ := hF.cons2 h1 g1
 obtain rfl := hF.nil
 clear hF
 have h1' : o ≤ 1000000 := Int.le_trans h1 (by decide)
 have g1' : i ≤ 1000000 := Int.le_trans g1 (by decide)
 refine LValid.sy ?_
 show LValid P 42 [.c (.ptr 0 (.lit 0) 1 0), .c (.g (.int .i64 (.sym z.val))), .c (.g (.bool (.sym false)))] _ _
 generalize z.val = z
 obtain ⟨I, hI⟩ := ref
 have hbl : belB z 0 3 = true → ∃ j : Nat, isN z j ∧ j < 3 := fun h => by
  unfold belB at h
  simp only [Bool.and_eq_true, decide_eq_true_eq] at h
  exact ⟨z.toNat, by unfold isN; omega, by omega⟩
 have hno : belB z 0 3 = false → ∀ v, v = .tup [noughtL, .c (.g (.bool (.lit false)))] → TakeW 3 [p0, p1, p2, p3, p4, p5, p6, p7, p8, p9, p10, p11] z 3 v [p0, p1, p2, p3, p4, p5, p6, p7, p8, p9, p10, p11] := fun h v hv => .inl ⟨.inl hv, rfl, .inl h⟩
 refine fn_sim hI (mo hp) (cc hp c42) fun Post hP => ?_
 generalize hbz : belB z 0 3 = bz at hbl hno
 cbv
 refine .go [0, 1, 2, 3, 4, 5, 6, 7, 8, 9, 10, 11, 12, 13, 14, 15, 16, 17, 18, 19, 20, 21, 22, 23, 24, 25] [] [] (is3 hp (.sym z) o i L0 L1 L2 L3 L4 L5 L6 L7 L8 L9 L10 L11) rfl rfl rfl rfl rfl rfl ?_
 rintro v m1 ⟨t1, ht1, rfl, rfl⟩
 have ht1 : t1 = bz := (show t1 = belB z 0 3 from ht1).trans hbz
 cbv
 refine .br (fun g1 => ?_) (fun g1 => ?_)
 ·have h1 : t1 = false := by simpa [hI, ints] using g1
  have h9 := hno (by rw [← ht1, h1])
  cbv
  exact hP _ _ [0, 1, 2, 3, 4, 5, 6, 7, 8, 9, 10, 11, 12, 13, 14, 15, 16, 17, 18, 19, 20, 21, 22, 23, 24, 25] [] _ _ (by decide) rfl rfl rfl rfl rfl ⟨_, h9 _ rfl, .inl ⟨hF', rfl⟩⟩
 have h2 : t1 = true := by simpa [hI, ints] using g1
 obtain ⟨j, hj, hjn⟩ := hbl (by rw [← ht1]; exact h2)
 have htk := fun (p : List PK) (r : PK) (L' : List (List G)) (h1 : [p0, p1, p2, p3, p4, p5, p6, p7, p8, p9, p10, p11][4 * j + 3]? = some p) (h2 : p[0]? = some r) (h3 : isP L' (p.eraseIdx 0)) => take_yes hF' h1 h2 h3
 have hk1 : Kp [2 + 8 * j, 3 + 8 * j, 4 + 8 * j, 5 + 8 * j, 6 + 8 * j, 7 + 8 * j, 8 + 8 * j, 9 + 8 * j] := ⟨⟩
 have hk2 : Kp [8 + 8 * j, 9 + 8 * j] := ⟨⟩
 have hcs : j = 0 ∨ j = 1 ∨ j = 2 := by omega
 clear hjn hbl ht1 g1 hbz hno
 cbv
 rcases hcs with rfl | rfl | rfl
 all_goals
  refine .idx _ hj (by decide) ?_
  cbv
  refine .go (sOf hk1) [] [] (sort_ hp (.sym false) o i _ _ _ _) rfl rfl rfl rfl rfl rfl ?_
  rintro v m1 ⟨⟨hs, rfl⟩ | ⟨hs, rfl⟩, rfl⟩
  ·cases hs
  ·have h9 := htk
   cbv
   refine .go (sOf hk2) [] [] (k_take hp _ _ _ (by assumption) (okQ.len (by assumption)) (by assumption)) rfl rfl rfl rfl rfl rfl ?_
   rintro v m1 (⟨h, rfl, rfl⟩ | ⟨r, D, L', hr, hD, hL', rfl, rfl⟩)
   ·subst h
    cbv
    exact hP _ _ [0, 1, 2, 3, 4, 5, 6, 7, 8, 9, 10, 11, 12, 13, 14, 15, 16, 17, 18, 19, 20, 21, 22, 23, 24, 25] [] _ _ (by decide) rfl rfl rfl rfl rfl ⟨_, .inl ⟨.inr rfl, rfl, .inr ⟨_, hj, by decide, rfl⟩⟩, .inl ⟨hF', rfl⟩⟩
   ·have h9 := htk _ _ _ rfl hr hL'
    obtain ⟨p', q1, q2, q3⟩ := h9
    cbv
    exact hP _ _ [0, 1, 2, 3, 4, 5, 6, 7, 8, 9, 10, 11, 12, 13, 14, 15, 16, 17, 18, 19, 20, 21, 22, 23, 24, 25, 27] [28] _ _ (by decide) rfl rfl rfl rfl rfl ⟨_, .inr ⟨r, D, p', _, rfl, hD, hj, by decide, q1, rfl, q3⟩, .inr (.inl ⟨_, L', by decide, q2, rfl⟩)⟩
theorem replyU3 (z : Z) (o i : Int) (h0 : 0 ≤ o) (h1 : o ≤ 999999) (g0 : 0 ≤ i) (g1 : i ≤ 999999) (L0 L1 L2 L3 L4 L5 L6 L7 L8 L9 L10 L11 : List (List G)) (ps : List (List PK)) (hF : FIs 3 o i 0 [L0, L1, L2, L3, L4, L5, L6, L7, L8, L9, L10, L11] ps) : LValid P 21 [.c (.ptr 0 (.lit 0) 1 0), .c (.g (.int .i64 z))] (fabM o i 3 [L0, L1, L2, L3, L4, L5, L6, L7, L8, L9, L10, L11])
  (fun v m1 => ∃ (M0 M1 M2 M3 M4 M5 M6 M7 M8 M9 M10 M11 : List (List G)) (ps' : List (List PK)), TakeV 3 ps z.val 3 v ps' ∧ FIs 3 o i 0 [M0, M1, M2, M3, M4, M5, M6, M7, M8, M9, M10, M11] ps' ∧ m1 = fabU o i 3 [M0, M1, M2, M3, M4, M5, M6, M7, M8, M9, M10, M11]) := by
 refine LValid.sy ?_
 show LValid P 21 [.c (.ptr 0 (.lit 0) 1 0), .c (.g (.int .i64 (.sym z.val)))] _ _
 generalize z.val = z
 have htk := takeReply3 hp (.sym z) o i h0 h1 g0 g1 L0 L1 L2 L3 L4 L5 L6 L7 L8 L9 L10 L11 ps hF
 rw [show (Z.sym z).val = z from rfl] at htk
 have htk := htk.mono (R' := fun v m1 => ∃ (M0 M1 M2 M3 M4 M5 M6 M7 M8 M9 M10 M11 : List (List G)) (ps' : List (List PK)) (r : PK) (b : Bool) (D : List (List G)), v = .tup [r.told (.g (.rows 1 D)), gb b] ∧ (∀ v, v = .tup [r.told (.g (.rows 1 D)), gb b] → TakeV 3 ps z 3 v ps') ∧ FIs 3 o i 0 [M0, M1, M2, M3, M4, M5, M6, M7, M8, M9, M10, M11] ps' ∧ m1 = fabU o i 3 [M0, M1, M2, M3, M4, M5, M6, M7, M8, M9, M10, M11]) (fun v m1 ⟨M0, M1, M2, M3, M4, M5, M6, M7, M8, M9, M10, M11, ps', ⟨r, b, D, h1, h2⟩, h3⟩ => ⟨M0, M1, M2, M3, M4, M5, M6, M7, M8, M9, M10, M11, ps', r, b, D, h1, fun v hv => ⟨r, b, D, hv, h2⟩, h3⟩)
 obtain ⟨I, hI⟩ := ref
 refine fn_sim hI (mo hp) (cc hp c21) fun Post hP => ?_
 generalize TakeV 3 ps z 3 = TV at htk hP
 cbv
 refine .go [0, 1, 2, 3, 4, 5, 6, 7, 8, 9, 10, 11, 12, 13, 14, 15, 16, 17, 18, 19, 20, 21, 22, 23, 24, 25] [] [] htk rfl rfl rfl rfl rfl rfl ?_
 rintro v m1 ⟨M0, M1, M2, M3, M4, M5, M6, M7, M8, M9, M10, M11, ps', r, b, D, rfl, hT, hF1, rfl⟩
 cbv
 exact hP _ _ [0, 1, 2, 3, 4, 5, 6, 7, 8, 9, 10, 11, 12, 13, 14, 15, 16, 17, 18, 19, 20, 21, 22, 23, 24, 25, 27, 28, 29, 30, 31, 32, 33, 34, 35, 36, 37, 38] [] _ _ (by decide) rfl rfl rfl rfl rfl ⟨M0, M1, M2, M3, M4, M5, M6, M7, M8, M9, M10, M11, ps', hT _ rfl, hF1, rfl⟩
theorem waitingU3 (z : Z) (o i : Int) (h0 : 0 ≤ o) (h1 : o ≤ 999999) (g0 : 0 ≤ i) (g1 : i ≤ 999999) (L0 L1 L2 L3 L4 L5 L6 L7 L8 L9 L10 L11 : List (List G)) (ps : List (List PK)) (hF : FIs 3 o i 0 [L0, L1, L2, L3, L4, L5, L6, L7, L8, L9, L10, L11] ps) : LValid P 20 [.c (.ptr 0 (.lit 0) 1 0), .c (.g (.int .i64 z))] (fabM o i 3 [L0, L1, L2, L3, L4, L5, L6, L7, L8, L9, L10, L11])
  (fun v m1 => ∃ t1 t2 : Int, v = .tup [gi .i64 t1, gi .i64 t2] ∧ m1 = (fabM o i 3 [L0, L1, L2, L3, L4, L5, L6, L7, L8, L9, L10, L11]) ∧ NumR 3 ps z.val 1 t1 ∧ NumR 3 ps z.val 3 t2) := by
 refine LValid.sy ?_
 show LValid P 20 [.c (.ptr 0 (.lit 0) 1 0), .c (.g (.int .i64 (.sym z.val)))] _ _
 generalize z.val = z
 refine LValid.syv (R := fun v m1 => ∃ t1 t2 : Z, v = .tup [.c (.g (.int .i64 t1)), .c (.g (.int .i64 t2))] ∧ m1 = (fabM o i 3 [L0, L1, L2, L3, L4, L5, L6, L7, L8, L9, L10, L11]) ∧ NumR 3 ps z 1 t1.val ∧ NumR 3 ps z 3 t2.val) ?_ (fun v m1 ⟨t1, t2, h1, h2⟩ => ⟨t1.val, t2.val, by rw [h1]; rfl, h2⟩)
 obtain ⟨I, hI⟩ := ref
 have hbl : belB z 0 3 = true → ∃ j : Nat, isN z j ∧ j < 3 := fun h => by
  unfold belB at h
  simp only [Bool.and_eq_true, decide_eq_true_eq] at h
  exact ⟨z.toNat, by unfold isN; omega, by omega⟩
 have hno : belB z 0 3 = false → ∀ k, NumR 3 ps z k 0 := fun h k => .inl ⟨h, rfl⟩
 have hyes := fun (j k : Nat) (hj : isN z j) (hjn : j < 3) (L : List (List G)) (hL : [L0, L1, L2, L3, L4, L5, L6, L7, L8, L9, L10, L11][4 * j + k]? = some L) (x : Int) (hx : isN x L.length) => show NumR 3 ps z k x from by
  obtain ⟨p, q1, q2, _⟩ := hF.at _ _ _ _ _ hL
  exact .inr ⟨j, p, hj, by omega, q1, by rw [← q2.len]; exact hx⟩
 refine fn_sim hI (mo hp) (cc hp c20) fun Post hP => ?_
 generalize NumR 3 ps z = NR at hno hyes hP
 generalize hbz : belB z 0 3 = bz at hbl hno
 cbv
 refine .go [0, 1, 2, 3, 4, 5, 6, 7, 8, 9, 10, 11, 12, 13, 14, 15, 16, 17, 18, 19, 20, 21, 22, 23, 24, 25] [] [] (is3 hp (.sym z) o i L0 L1 L2 L3 L4 L5 L6 L7 L8 L9 L10 L11) rfl rfl rfl rfl rfl rfl ?_
 rintro v m1 ⟨t1, ht1, rfl, rfl⟩
 have ht1 : t1 = bz := (show t1 = belB z 0 3 from ht1).trans hbz
 cbv
 refine .br (fun g1 => ?_) (fun g1 => ?_)
 ·have h1 : t1 = false := by simpa [hI, ints] using g1
  have h9 := hno (by rw [← ht1, h1])
  cbv
  exact hP _ _ [0, 1, 2, 3, 4, 5, 6, 7, 8, 9, 10, 11, 12, 13, 14, 15, 16, 17, 18, 19, 20, 21, 22, 23, 24, 25] [] _ _ (by decide) rfl rfl rfl rfl rfl ⟨.lit 0, .lit 0, rfl, rfl, h9 1, h9 3⟩
 have h2 : t1 = true := by simpa [hI, ints] using g1
 obtain ⟨j, hj, hjn⟩ := hbl (by rw [← ht1]; exact h2)
 have hcs : j = 0 ∨ j = 1 ∨ j = 2 := by omega
 have hy1 := hyes j 1 hj hjn
 have hy3 := hyes j 3 hj hjn
 have hk1 : Kp [4 + 8 * j, 5 + 8 * j] := ⟨⟩
 have hk2 : Kp [8 + 8 * j, 9 + 8 * j] := ⟨⟩
 clear hjn hbl ht1 g1 hbz hno hyes hF
 cbv
 refine .drawn [2, 3, 4, 5, 6, 7, 8, 9, 10, 11, 12, 13, 14, 15, 16, 17, 18, 19, 20, 21, 22, 23, 24, 25] ?_
 cbv
 rcases hcs with rfl | rfl | rfl
 all_goals
  refine .idx _ hj (by decide) ?_
  cbv
  refine .idx _ hj (by decide) ?_
  cbv
  refine .go (sOf hk1) [] [] (k_len hp _ _) rfl rfl rfl rfl rfl rfl ?_
  rintro v m1 ⟨x1, hx1, rfl, rfl⟩
  cbv
  refine .go (sOf hk2) [] [] (k_len hp _ _) rfl rfl rfl rfl rfl rfl ?_
  rintro v m1 ⟨x2, hx2, rfl, rfl⟩
  cbv
  exact hP _ _ [0, 1, 2, 3, 4, 5, 6, 7, 8, 9, 10, 11, 12, 13, 14, 15, 16, 17, 18, 19, 20, 21, 22, 23, 24, 25] [] _ _ (by decide) rfl rfl rfl rfl rfl ⟨.sym x1, .sym x2, rfl, rfl, hy1 _ rfl x1 hx1, hy3 _ rfl x2 hx2⟩
theorem roomRU3 (tb : BB) (htb : tb.val = true) (z : Z) (o i : Int) (h0 : 0 ≤ o) (h1 : o ≤ 999999) (g0 : 0 ≤ i) (g1 : i ≤ 999999) (L0 L1 L2 L3 L4 L5 L6 L7 L8 L9 L10 L11 : List (List G)) (ps : List (List PK)) (hF : FIs 3 o i 0 [L0, L1, L2, L3, L4, L5, L6, L7, L8, L9, L10, L11] ps) : LValid P 17 [.c (.ptr 0 (.lit 0) 1 0), .c (.g (.int .i64 z)), .c (.g (.bool tb))] (fabM o i 3 [L0, L1, L2, L3, L4, L5, L6, L7, L8, L9, L10, L11])
  (fun v m1 => ∃ t : Int, v = i64 t ∧ m1 = (fabM o i 3 [L0, L1, L2, L3, L4, L5, L6, L7, L8, L9, L10, L11]) ∧ ((belB z.val 0 3 = false ∧ t = 0) ∨ ∃ (j : Nat) (p : List PK), isN z.val j ∧ (j : Int) < 3 ∧ ps[4 * j + 0]? = some p ∧ t = o - (p.length : Int))) := by
 have hF' := hF
 obtain ⟨p0, r, rfl, e0, k0, l0, hF⟩ := hF.cons2 h1 g1
 obtain ⟨p1, r, rfl, e1, k1, l1, hF⟩ := hF.cons2 h1 g1
 obtain ⟨p2, r, rfl, e2, k2, l2, hF⟩ := hF.cons2 h1 g1
 obtain ⟨p3, r, rfl, e3, k3, l3, hF⟩ := hF.cons2 h1 g1
 obtain ⟨p4, r, rfl, e4, k4, l4, hF⟩ := hF.cons2 h1 g1
 obtain ⟨p5, r, rfl, e5, k5, l5, hF⟩ := hF.cons2 h1 g1
 obtain ⟨p6, r, rfl, e6, k6, l6, hF⟩ := hF.cons2 h1 g1
 obtain ⟨p7, r, rfl, e7, k7, l7, hF⟩ := hF.cons2 h1 g1
 obtain ⟨p8, r, rfl, e8, k8, l8, hF⟩ := hF.cons2 h1 g1
 obtain ⟨p9, r, rfl, e9, k9, l9, hF⟩ := hF.cons2 h1 g1
 obtain ⟨p10, r, rfl, e10, k10, l10, hF⟩ := hF.cons2 h1 g1
 obtain ⟨p11, r, rfl, e11, k11, l11, hF⟩ := hF.cons2 h1 g1
 obtain rfl := hF.nil
 clear hF
 have h1' : o ≤ 1000000 := Int.le_trans h1 (by decide)
 have g1' : i ≤ 1000000 := Int.le_trans g1 (by decide)
 refine LValid.sy ?_
 show LValid P 17 [.c (.ptr 0 (.lit 0) 1 0), .c (.g (.int .i64 (.sym z.val))), .c (.g (.bool (.sym tb.val)))] _ _
 rw [htb]
 generalize z.val = z
 refine LValid.syv (R := fun v m1 => ∃ t : Z, v = .one (.c (.g (.int .i64 t))) ∧ m1 = (fabM o i 3 [L0, L1, L2, L3, L4, L5, L6, L7, L8, L9, L10, L11]) ∧ ((belB z 0 3 = false ∧ t.val = 0) ∨ ∃ (j : Nat) (p : List PK), isN z j ∧ (j : Int) < 3 ∧ [p0, p1, p2, p3, p4, p5, p6, p7, p8, p9, p10, p11][4 * j + 0]? = some p ∧ t.val = o - (p.length : Int))) ?_ (fun v m1 ⟨t, h1, h2⟩ => ⟨t.val, by rw [h1]; rfl, h2⟩)
 obtain ⟨I, hI⟩ := ref
 have hbl : belB z 0 3 = true → ∃ j : Nat, isN z j ∧ j < 3 := fun h => by
  unfold belB at h
  simp only [Bool.and_eq_true, decide_eq_true_eq] at h
  exact ⟨z.toNat, by unfold isN; omega, by omega⟩
 have hyes := fun (j : Nat) (hj : isN z j) (hjn : j < 3) (L : List (List G)) (hL : [L0, L1, L2, L3, L4, L5, L6, L7, L8, L9, L10, L11][4 * j + 0]? = some L) (x : Int) (hx : x = o - (L.length : Int)) => show ((belB z 0 3 = false ∧ x = 0) ∨ ∃ (j : Nat) (p : List PK), isN z j ∧ (j : Int) < 3 ∧ [p0, p1, p2, p3, p4, p5, p6, p7, p8, p9, p10, p11][4 * j + 0]? = some p ∧ x = o - (p.length : Int)) from by
  obtain ⟨p, q1, q2, _⟩ := hF'.at _ _ _ _ _ hL
  exact .inr ⟨j, p, hj, by omega, q1, by rw [← q2.len]; exact hx⟩
 refine fn_sim hI (mo hp) (cc hp c17) fun Post hP => ?_
 generalize hbz : belB z 0 3 = bz at hbl hP hyes
 cbv
 refine .go [0, 1, 2, 3, 4, 5, 6, 7, 8, 9, 10, 11, 12, 13, 14, 15, 16, 17, 18, 19, 20, 21, 22, 23, 24, 25] [] [] (is3 hp (.sym z) o i L0 L1 L2 L3 L4 L5 L6 L7 L8 L9 L10 L11) rfl rfl rfl rfl rfl rfl ?_
 rintro v m1 ⟨t1, ht1, rfl, rfl⟩
 have ht1 : t1 = bz := (show t1 = belB z 0 3 from ht1).trans hbz
 cbv
 refine .br (fun g1 => ?_) (fun g1 => ?_)
 ·have h1 : t1 = false := by simpa [hI, ints] using g1
  cbv
  exact hP _ _ [0, 1, 2, 3, 4, 5, 6, 7, 8, 9, 10, 11, 12, 13, 14, 15, 16, 17, 18, 19, 20, 21, 22, 23, 24, 25] [] _ _ (by decide) rfl rfl rfl rfl rfl ⟨.lit 0, rfl, rfl, .inl ⟨by rw [← ht1, h1], rfl⟩⟩
 have h2 : t1 = true := by simpa [hI, ints] using g1
 obtain ⟨j, hj, hjn⟩ := hbl (by rw [← ht1]; exact h2)
 have hcs : j = 0 ∨ j = 1 ∨ j = 2 := by omega
 have hyes := hyes j hj hjn
 have hk1 : Kp [2 + 8 * j, 3 + 8 * j, 4 + 8 * j, 5 + 8 * j, 6 + 8 * j, 7 + 8 * j, 8 + 8 * j, 9 + 8 * j] := ⟨⟩
 have hk2 : Kp [2 + 8 * j, 3 + 8 * j] := ⟨⟩
 clear hjn hbl ht1 g1 hbz
 cbv
 rcases hcs with rfl | rfl | rfl
 all_goals
  refine .idx _ hj (by decide) ?_
  cbv
  refine .go (sOf hk1) [] [] (sort_ hp (.sym true) o i _ _ _ _) rfl rfl rfl rfl rfl rfl ?_
  rintro v m1 ⟨⟨hs, rfl⟩ | ⟨hs, rfl⟩, rfl⟩
  ·cbv
   refine .go (sOf hk2) [] [] (p_room hp o _ h0 h1' (by assumption)) rfl rfl rfl rfl rfl rfl ?_
   rintro v m1 ⟨x1, hx1, rfl, rfl⟩
   cbv
   exact hP _ _ [0, 1, 2, 3, 4, 5, 6, 7, 8, 9, 10, 11, 12, 13, 14, 15, 16, 17, 18, 19, 20, 21, 22, 23, 24, 25] [] _ _ (by decide) rfl rfl rfl rfl rfl ⟨.sym x1, rfl, rfl, hyes _ rfl x1 hx1⟩
  ·cases hs
theorem roomAU3 (tb : BB) (htb : tb.val = false) (z : Z) (o i : Int) (h0 : 0 ≤ o) (h1 : o ≤ 999999) (g0 : 0 ≤ i) (g1 : i ≤ 999999) (L0 L1 L2 L3 L4 L5 L6 L7 L8 L9 L10 L11 : List (List G)) (ps : List (List PK)) (hF : FIs 3 o i 0 [L0, L1, L2, L3, L4, L5, L6, L7, L8, L9, L10, L11] ps) : LValid P 17 [.c (.ptr 0 (.lit 0) 1 0), .c (.g (.int .i64 z)), .c (.g (.bool tb))] (fabM o i 3 [L0, L1, L2, L3, L4, L5, L6, L7, L8, L9, L10, L11])
  (fun v m1 => ∃ t : Int, v = i64 t ∧ m1 = (fabM o i 3 [L0, L1, L2, L3, L4, L5, L6, L7, L8, L9, L10, L11]) ∧ ((belB z.val 0 3 = false ∧ t = 0) ∨ ∃ (j : Nat) (p : List PK), isN z.val j ∧ (j : Int) < 3 ∧ ps[4 * j + 2]? = some p ∧ t = o - (p.length : Int))) := by
 have hF' := hF
 obtain ⟨p0, r, rfl, e0, k0, l0, hF⟩ := hF.cons2 h1 g1
 obtain ⟨p1, r, rfl, e1, k1, l1, hF⟩ := hF.cons2 h1 g1
 obtain ⟨p2, r, rfl, e2, k2, l2, hF⟩ := hF.cons2 h1 g1
 obtain ⟨p3, r, rfl, e3, k3, l3, hF⟩ := hF.cons2 h1 g1
 obtain ⟨p4, r, rfl, e4, k4, l4, hF⟩ := hF.cons2 h1 g1
 obtain ⟨p5, r, rfl, e5, k5, l5, hF⟩ := hF.cons2 h1 g1
 obtain ⟨p6, r, rfl, e6, k6, l6, hF⟩ := hF.cons2 h1 g1
 obtain ⟨p7, r, rfl, e7, k7, l7, hF⟩ := hF.cons2 h1 g1
 obtain ⟨p8, r, rfl, e8, k8, l8, hF⟩ := hF.cons2 h1 g1
 obtain ⟨p9, r, rfl, e9, k9, l9, hF⟩ := hF.cons2 h1 g1
 obtain ⟨p10, r, rfl, e10, k10, l10, hF⟩ := hF.cons2 h1 g1
 obtain ⟨p11, r, rfl, e11, k11, l11, hF⟩ := hF.cons2 h1 g1
 obtain rfl := hF.nil
 clear hF
 have h1' : o ≤ 1000000 := Int.le_trans h1 (by decide)
 have g1' : i ≤ 1000000 := Int.le_trans g1 (by decide)
 refine LValid.sy ?_
 show LValid P 17 [.c (.ptr 0 (.lit 0) 1 0), .c (.g (.int .i64 (.sym z.val))), .c (.g (.bool (.sym tb.val)))] _ _
 rw [htb]
 generalize z.val = z
 refine LValid.syv (R := fun v m1 => ∃ t : Z, v = .one (.c (.g (.int .i64 t))) ∧ m1 = (fabM o i 3 [L0, L1, L2, L3, L4, L5, L6, L7, L8, L9, L10, L11]) ∧ ((belB z 0 3 = false ∧ t.val = 0) ∨ ∃ (j : Nat) (p : List PK), isN z j ∧ (j : Int) < 3 ∧ [p0, p1, p2, p3, p4, p5, p6, p7, p8, p9, p10, p11][4 * j + 2]? = some p ∧ t.val = o - (p.length : Int))) ?_ (fun v m1 ⟨t, h1, h2⟩ => ⟨t.val, by rw [h1]; rfl, h2⟩)
 obtain ⟨I, hI⟩ := ref
 have hbl : belB z 0 3 = true → ∃ j : Nat, isN z j ∧ j < 3 := fun h => by
  unfold belB at h
  simp only [Bool.and_eq_true, decide_eq_true_eq] at h
  exact ⟨z.toNat, by unfold isN; omega, by omega⟩
 have hyes := fun (j : Nat) (hj : isN z j) (hjn : j < 3) (L : List (List G)) (hL : [L0, L1, L2, L3, L4, L5, L6, L7, L8, L9, L10, L11][4 * j + 2]? = some L) (x : Int) (hx : x = o - (L.length : Int)) => show ((belB z 0 3 = false ∧ x = 0) ∨ ∃ (j : Nat) (p : List PK), isN z j ∧ (j : Int) < 3 ∧ [p0, p1, p2, p3, p4, p5, p6, p7, p8, p9, p10, p11][4 * j + 2]? = some p ∧ x = o - (p.length : Int)) from by
  obtain ⟨p, q1, q2, _⟩ := hF'.at _ _ _ _ _ hL
  exact .inr ⟨j, p, hj, by omega, q1, by rw [← q2.len]; exact hx⟩
 refine fn_sim hI (mo hp) (cc hp c17) fun Post hP => ?_
 generalize hbz : belB z 0 3 = bz at hbl hP hyes
 cbv
 refine .go [0, 1, 2, 3, 4, 5, 6, 7, 8, 9, 10, 11, 12, 13, 14, 15, 16, 17, 18, 19, 20, 21, 22, 23, 24, 25] [] [] (is3 hp (.sym z) o i L0 L1 L2 L3 L4 L5 L6 L7 L8 L9 L10 L11) rfl rfl rfl rfl rfl rfl ?_
 rintro v m1 ⟨t1, ht1, rfl, rfl⟩
 have ht1 : t1 = bz := (show t1 = belB z 0 3 from ht1).trans hbz
 cbv
 refine .br (fun g1 => ?_) (fun g1 => ?_)
 ·have h1 : t1 = false := by simpa [hI, ints] using g1
  cbv
  exact hP _ _ [0, 1, 2, 3, 4, 5, 6, 7, 8, 9, 10, 11, 12, 13, 14, 15, 16, 17, 18, 19, 20, 21, 22, 23, 24, 25] [] _ _ (by decide) rfl rfl rfl rfl rfl ⟨.lit 0, rfl, rfl, .inl ⟨by rw [← ht1, h1], rfl⟩⟩
 have h2 : t1 = true := by simpa [hI, ints] using g1
 obtain ⟨j, hj, hjn⟩ := hbl (by rw [← ht1]; exact h2)
 have hcs : j = 0 ∨ j = 1 ∨ j = 2 := by omega
 have hyes := hyes j hj hjn
 have hk1 : Kp [2 + 8 * j, 3 + 8 * j, 4 + 8 * j, 5 + 8 * j, 6 + 8 * j, 7 + 8 * j, 8 + 8 * j, 9 + 8 * j] := ⟨⟩
 have hk2 : Kp [6 + 8 * j, 7 + 8 * j] := ⟨⟩
 clear hjn hbl ht1 g1 hbz
 cbv
 rcases hcs with rfl | rfl | rfl
 all_goals
  refine .idx _ hj (by decide) ?_
  cbv
  refine .go (sOf hk1) [] [] (sort_ hp (.sym false) o i _ _ _ _) rfl rfl rfl rfl rfl rfl ?_
  rintro v m1 ⟨⟨hs, rfl⟩ | ⟨hs, rfl⟩, rfl⟩
  ·cases hs
  ·cbv
   refine .go (sOf hk2) [] [] (p_room hp o _ h0 h1' (by assumption)) rfl rfl rfl rfl rfl rfl ?_
   rintro v m1 ⟨x1, hx1, rfl, rfl⟩
   cbv
   exact hP _ _ [0, 1, 2, 3, 4, 5, 6, 7, 8, 9, 10, 11, 12, 13, 14, 15, 16, 17, 18, 19, 20, 21, 22, 23, 24, 25] [] _ _ (by decide) rfl rfl rfl rfl rfl ⟨.sym x1, rfl, rfl, hyes _ rfl x1 hx1⟩
set_option maxHeartbeats 64000000 in
theorem del3 (z : Z) (hzr : -9223372036854775808 ≤ z.val ∧ z.val ≤ 9223372036854775807) (bz : Z) (hb : -9223372036854775808 ≤ bz.val ∧ bz.val ≤ 9223372036854775807) (mz : Z) (mask : BitVec 16) (hm : mz.val = w16 mask) (o i : Int) (h0 : 0 ≤ o) (h1 : o ≤ 999999) (g0 : 0 ≤ i) (g1 : i ≤ 999999) (L0 L1 L2 L3 L4 L5 L6 L7 L8 L9 L10 L11 : List (List G)) (ps : List (List PK)) (hF : FIs 3 o i 0 [L0, L1, L2, L3, L4, L5, L6, L7, L8, L9, L10, L11] ps) : LValid P 14 [.c (.ptr 0 (.lit 0) 1 0), .c (.g (.int .i64 z)), .c (.g (.int .i64 bz)), .c (.g (.int .u16 mz))] (fabM o i 3 [L0, L1, L2, L3, L4, L5, L6, L7, L8, L9, L10, L11])
  (fun v m1 => ∃ ps', (∃ t, v = i64 t ∧ DelR i ps z.val bz.val mask t ps') ∧ Mv 3 3 o i [L0, L1, L2, L3, L4, L5, L6, L7, L8, L9, L10, L11] ps' m1) := by
 have hpk := fun (z : Int) (hzr : -9223372036854775808 ≤ z ∧ z ≤ 9223372036854775807) => packet3 hp (.sym z) hzr o i h0 h1 g0 g1 L0 L1 L2 L3 L4 L5 L6 L7 L8 L9 L10 L11 ps hF
 have hF' := hF
 obtain ⟨p0, r, rfl, e0, k0, l0, hF⟩ := hF.cons2 h1 g1
 obtain ⟨p1, r, rfl, e1, k1, l1, hF⟩ := hF.cons2 h1 g1
 obtain ⟨p2, r, rfl, e2, k2, l2, hF⟩ := hF.cons2 h1 g1
 obtain ⟨p3, r, rfl, e3, k3, l3, hF⟩ := hF.cons2 h1 g1
 obtain ⟨p4, r, rfl, e4, k4, l4, hF⟩ := hF.cons2 h1 g1
 obtain ⟨p5, r, rfl, e5, k5, l5, hF⟩ := hF.cons2 h1 g1
 obtain ⟨p6, r, rfl, e6, k6, l6, hF⟩ := hF.cons2 h1 g1
 obtain ⟨p7, r, rfl, e7, k7, l7, hF⟩ := hF.cons2 h1 g1
 obtain ⟨p8, r, rfl, e8, k8, l8, hF⟩ := hF.cons2 h1 g1
 obtain ⟨p9, r, rfl, e9, k9, l9, hF⟩ := hF.cons2 h1 g1
 obtain ⟨p10, r, rfl, e10, k10, l10, hF⟩ := hF.cons2 h1 g1
 obtain ⟨p11, r, rfl, e11, k11, l11, hF⟩ := hF.cons2 h1 g1
 obtain rfl := hF.nil
 clear hF
 have h1' : o ≤ 1000000 := Int.le_trans h1 (by decide)
 have g1' : i ≤ 1000000 := Int.le_trans g1 (by decide)
 refine LValid.sy ?_
 show LValid P 14 [.c (.ptr 0 (.lit 0) 1 0), .c (.g (.int .i64 (.sym z.val))), gi .i64 bz.val, gi .u16 mz.val] _ _
 generalize z.val = z at hzr
 generalize bz.val = bit at hb
 generalize mz.val = qm at hm
 refine LValid.syv (R := fun v m1 => ∃ ps', (∃ t : Z, v = .one (.c (.g (.int .i64 t))) ∧ DelR i [p0, p1, p2, p3, p4, p5, p6, p7, p8, p9, p10, p11] z bit mask t.val ps') ∧ Mv 3 3 o i [L0, L1, L2, L3, L4, L5, L6, L7, L8, L9, L10, L11] ps' m1) ?_ (fun v m1 ⟨ps', ⟨t, h1, h2⟩, h3⟩ => ⟨ps', ⟨t.val, by rw [h1]; rfl, h2⟩, h3⟩)
 obtain ⟨I, hI⟩ := ref
 have hun : sumLen 6 [L0, L2, L4, L6, L8, L10] = (under [p0, p1, p2, p3, p4, p5, p6, p7, p8, p9, p10, p11]).length := (lenTo_is 6 _ _ 0 hF').trans (lenTo_all 6 _ (Nat.le_refl _))
 have hto : ∀ q, sumLen q [L0, L2, L4, L6, L8, L10] = lenTo q (evens [p0, p1, p2, p3, p4, p5, p6, p7, p8, p9, p10, p11]) := fun q => lenTo_is q _ _ 0 hF'
 have hpk := hpk z hzr
 refine fn_sim hI (mo hp) (cc hp c14) fun Post hP => ?_
 have hno : (z < 0 ∨ (((under [p0, p1, p2, p3, p4, p5, p6, p7, p8, p9, p10, p11]).length : Nat) : Int) ≤ z) → DelR i [p0, p1, p2, p3, p4, p5, p6, p7, p8, p9, p10, p11] z bit mask 3 [p0, p1, p2, p3, p4, p5, p6, p7, p8, p9, p10, p11] := fun h => .inl ⟨rfl, h, rfl⟩
 cbv
 refine .go [0, 1, 2, 3, 4, 5, 6, 7, 8, 9, 10, 11, 12, 13, 14, 15, 16, 17, 18, 19, 20, 21, 22, 23, 24, 25] [] [] hpk rfl rfl rfl rfl rfl rfl ?_
 rintro v m1 (⟨q, n, ps', r, D, hq, hr, hz, hD, rfl, rfl⟩ | ⟨h, rfl, rfl⟩)
 rotate_left
 ·have h9 := hno h
  cbv
  refine br_t (show I.not false = true from by rw [hI]; rfl) ?_
  cbv
  exact hP _ _ [0, 1, 2, 3, 4, 5, 6, 7, 8, 9, 10, 11, 12, 13, 14, 15, 16, 17, 18, 19, 20, 21, 22, 23, 24, 25] [] _ _ (by decide) rfl rfl rfl rfl rfl ⟨_, ⟨.lit 3, rfl, h9⟩, .inl ⟨hF', rfl⟩⟩
 have h9 := hF'.get _ _ _ (2 * q) _ (by rw [← evens_get]; exact hq)
 obtain ⟨La, hLa, hPa, hok, _⟩ := h9
 have hLa : [L0, L2, L4, L6, L8, L10][q]? = some La := (evens_get [L0, L1, L2, L3, L4, L5, L6, L7, L8, L9, L10, L11] q).trans hLa
 have hla : La.length ≤ 1000000 := by
  have hm := List.mem_of_getElem? hLa
  simp only [List.mem_cons, List.not_mem_nil, or_false] at hm
  rcases hm with rfl | rfl | rfl | rfl | rfl | rfl <;> assumption
 have hcs : q = 0 ∨ q = 1 ∨ q = 2 ∨ q = 3 ∨ q = 4 ∨ q = 5 := by
  have := (List.getElem?_eq_some_iff.1 hLa).1
  simp only [List.length_cons, List.length_nil] at this
  omega
 have hz : z = ((lenTo q (evens [p0, p1, p2, p3, p4, p5, p6, p7, p8, p9, p10, p11]) + n : Nat) : Int) := hz
 have hzs : z = ((sumLen q [L0, L2, L4, L6, L8, L10] + n : Nat) : Int) := by rw [hto]; exact hz
 have hna : n < La.length := by rw [hPa.len]; exact (List.getElem?_eq_some_iff.1 hr).1
 have huni : ∀ (q2 n2 : Nat) (L : List (List G)), [L0, L2, L4, L6, L8, L10][q2]? = some L → z = ((sumLen q2 [L0, L2, L4, L6, L8, L10] + n2 : Nat) : Int) → n2 < L.length → q = q2 ∧ n = n2 := fun q2 n2 L u1 u2 u3 => sumLen_uniq _ _ _ _ _ _ _ hLa u1 hna u3 (by rw [hzs] at u2; exact Int.ofNat.inj u2)
 have hbig : ¬ (z < 0 ∨ ((sumLen 6 [L0, L2, L4, L6, L8, L10] : Nat) : Int) ≤ z) := sumLen_big hzs hLa hna (show [L0, L2, L4, L6, L8, L10].length = 6 from rfl)
 have h9 := hok r (List.mem_of_getElem? hr)
 obtain ⟨hsd, hdy⟩ := h9
 have hd1 := okQ.len hok _ (List.mem_of_getElem? hr)
 have hspoil : wireB r bit mask = false → DelR i [p0, p1, p2, p3, p4, p5, p6, p7, p8, p9, p10, p11] z bit mask 2 [p0, p1, p2, p3, p4, p5, p6, p7, p8, p9, p10, p11] := fun hw => .inr ⟨q, n, ps', r, hq, hr, hz, .inl ⟨rfl, hw, rfl⟩⟩
 have hdl := (place_lt (n := 3) (N := 3) rfl hsd).2
 have hfull : wireB r bit mask = true → ∀ (c : Nat) (L : List (List G)), c = dest r → [L0, L1, L2, L3, L4, L5, L6, L7, L8, L9, L10, L11][c]? = some L → (L.length : Int) = roomQ i r → DelR i [p0, p1, p2, p3, p4, p5, p6, p7, p8, p9, p10, p11] z bit mask 5 [p0, p1, p2, p3, p4, p5, p6, p7, p8, p9, p10, p11] := fun hw c L hc hL h6 => by
  obtain ⟨pq, q1, q2, _⟩ := hF'.at _ _ _ _ _ hL
  exact .inr ⟨q, n, ps', r, hq, hr, hz, .inr ⟨hw, pq, hc ▸ q1, .inl ⟨rfl, by rw [← q2.len]; exact h6, rfl⟩⟩⟩
 have hput2 : wireB r bit mask = true → ∀ (c : Nat) (L X1 : List (List G)), c = dest r → [L0, L1, L2, L3, L4, L5, L6, L7, L8, L9, L10, L11][c]? = some L → (L.length : Int) ≠ roomQ i r → X1 = L ++ [r.row (nrow .i64 r.d)] → ∃ pq, isP X1 (pq ++ [r]) ∧ X1.length ≤ 1000000 ∧
   ∀ X2, isP X2 (ps'.eraseIdx n) → DelR i [p0, p1, p2, p3, p4, p5, p6, p7, p8, p9, p10, p11] z bit mask 0 (([p0, p1, p2, p3, p4, p5, p6, p7, p8, p9, p10, p11].set c (pq ++ [r])).set (2 * q) (ps'.eraseIdx n)) ∧ FIs 3 o i 0 ((List.set [L0, L1, L2, L3, L4, L5, L6, L7, L8, L9, L10, L11] c X1).set (2 * q) X2) (([p0, p1, p2, p3, p4, p5, p6, p7, p8, p9, p10, p11].set c (pq ++ [r])).set (2 * q) (ps'.eraseIdx n)) := fun hw c L X1 hc hL h6 hX => by
  obtain ⟨pq, q1, q2, _, q4⟩ := hF'.at _ _ _ _ _ hL
  have hX1 : isP X1 (pq ++ [r]) := by rw [hX]; exact q2.add (q := r) (show isL .i64 (nrow .i64 r.d) r.d from rfl)
  rw [hc, room_dest] at q4
  refine ⟨pq, hX1, ?_, fun X2 hX2 => ?_⟩
  ·rw [hX1.len, List.length_append]
   have : roomQ i r ≤ 999999 := by unfold roomQ; split <;> omega
   show pq.length + 1 ≤ _
   omega
  ·subst hc
   exact del_yes hF' hq hr hz hw q1 hL h6 hX1 hX2
 clear hno hzs hto hun hpk
 obtain ⟨k, f, t, i2, l, p, s, b, d⟩ := r
 have hD : isL .i64 D d := hD
 have hd1 : d.length * 8 ≤ 140737488355328 := hd1
 have htj : ∃ j : Nat, isN t j ∧ j < 3 ∧ t.toNat = j := by
  unfold sendB at hsd
  simp only [Bool.and_eq_true] at hsd
  have h := hsd.2
  unfold belB at h
  simp only [Bool.and_eq_true, decide_eq_true_eq] at h
  exact ⟨t.toNat, by unfold isN; omega, by omega, rfl⟩
 have hwi := wire_ hp ⟨k, f, t, i2, l, p, s, b, d⟩ D hD hdy bit hb qm mask hm
 have hreq := request hp (.sym k)
 rw [show (Z.sym k).val = k from rfl] at hreq
 have hdr : reqB k = true → 4 * t.toNat + 1 = dest ⟨k, f, t, i2, l, p, s, b, d⟩ ∧ roomQ i ⟨k, f, t, i2, l, p, s, b, d⟩ = i := fun h => by
  constructor
  ·show _ = 4 * t.toNat + (if reqB k then 1 else 3)
   rw [h]
   rfl
  ·show (if reqB k then i else 1) = i
   rw [h]
   rfl
 have hda : reqB k = false → 4 * t.toNat + 3 = dest ⟨k, f, t, i2, l, p, s, b, d⟩ ∧ roomQ i ⟨k, f, t, i2, l, p, s, b, d⟩ = 1 := fun h => by
  constructor
  ·show _ = 4 * t.toNat + (if reqB k then 1 else 3)
   rw [h]
   rfl
  ·show (if reqB k then i else 1) = 1
   rw [h]
   rfl
 have hrow : ∀ (D2 : List (List G)), isL .i64 D2 d → PK.row ⟨k, f, t, i2, l, p, s, b, d⟩ D2 = PK.row ⟨k, f, t, i2, l, p, s, b, d⟩ (nrow .i64 d) := fun D2 h => by rw [show D2 = nrow .i64 d from h]
 have hput2 := fun hw (D2 : List (List G)) (hD2 : isL .i64 D2 d) c L X1 h1 h2 h3 (h4 : X1 = L ++ [PK.row ⟨k, f, t, i2, l, p, s, b, d⟩ D2]) => hput2 hw c L X1 h1 h2 h3 (by rw [h4, hrow D2 hD2])
 clear hsd hdy hdl hrow hna
 generalize wireB ⟨k, f, t, i2, l, p, s, b, d⟩ bit mask = wb at hwi hspoil hfull hput2
 generalize roomQ i ⟨k, f, t, i2, l, p, s, b, d⟩ = rq0 at hdr hda hfull hput2
 generalize dest ⟨k, f, t, i2, l, p, s, b, d⟩ = de at hdr hda hfull hput2
 cbv
 refine br_f (show I.not true = false from by rw [hI]; rfl) ?_
 cbv
 refine .go [] [] [.bor 1] hwi rfl rfl rfl rfl rfl rfl ?_
 rintro v m1 (⟨hw, D2, hD2, rfl, rfl⟩ | ⟨hw, rfl, rfl⟩)
 rotate_left
 ·have h9 := hspoil hw
  cbv
  refine br_t (show I.cmp .neq 2 0 = true from by rw [hI]; rfl) ?_
  cbv
  exact hP _ _ [0, 1, 2, 3, 4, 5, 6, 7, 8, 9, 10, 11, 12, 13, 14, 15, 16, 17, 18, 19, 20, 21, 22, 23, 24, 25] [] _ _ (by decide) rfl rfl rfl rfl rfl ⟨_, ⟨.sym 2, rfl, h9⟩, .inl ⟨hF', rfl⟩⟩
 have hfull := hfull hw
 have hput2 := hput2 hw D2 hD2
 have hD2 : isL .i64 D2 d := hD2
 have hd2 : D2.length * 8 ≤ 140737488355328 := by rw [hD2.len]; exact hd1
 obtain ⟨j, hj, hjn, hjt⟩ := htj
 rw [hjt] at hdr hda
 have hk1 : Kp [2 + 8 * j, 3 + 8 * j, 4 + 8 * j, 5 + 8 * j, 6 + 8 * j, 7 + 8 * j, 8 + 8 * j, 9 + 8 * j] := ⟨⟩
 have hkr : Kp [4 + 8 * j, 5 + 8 * j] := ⟨⟩
 have hka : Kp [8 + 8 * j, 9 + 8 * j] := ⟨⟩
 have hkfr : Kp (List.set [0, 1, 2, 3, 4, 5, 6, 7, 8, 9, 10, 11, 12, 13, 14, 15, 16, 17, 18, 19, 20, 21, 22, 23, 24, 25] (5 + 8 * j) 27) := ⟨⟩
 have hkfa : Kp (List.set [0, 1, 2, 3, 4, 5, 6, 7, 8, 9, 10, 11, 12, 13, 14, 15, 16, 17, 18, 19, 20, 21, 22, 23, 24, 25] (9 + 8 * j) 27) := ⟨⟩
 have hjs : j = 0 ∨ j = 1 ∨ j = 2 := by omega
 clear hwi hjn hspoil hjt hw
 cbv
 refine br_f (show I.cmp .neq 0 0 = false from by rw [hI]; rfl) ?_
 cbv
 refine .drawn [2, 3, 4, 5, 6, 7, 8, 9, 10, 11, 12, 13, 14, 15, 16, 17, 18, 19, 20, 21, 22, 23, 24, 25] ?_
 cbv
 rcases hjs with rfl | rfl | rfl
 all_goals
  refine .idx _ hj (by decide) ?_
  cbv
  refine .go [] [] [] hreq rfl rfl rfl rfl rfl rfl ?_
  rintro v m1 ⟨rq, hrq, rfl, rfl⟩
  cbv
  refine .go (sOf hk1) [] [] (sort_ hp (.sym rq) o i _ _ _ _) rfl rfl rfl rfl rfl rfl ?_
  rintro v m1 ⟨⟨hs, rfl⟩ | ⟨hs, rfl⟩, rfl⟩
  ·have hs : rq = true := hs
   have h9 := hdr (hrq.symm.trans hs)
   obtain ⟨hde, hrm⟩ := h9
   cbv
   refine .go (sOf hkr) [] [.keep, .bor 1] (k_put hp ⟨.sym k, .sym f, .sym t, .sym i2, .sym l, .sym p, .sym s, .sym b⟩ D2 d hD2 hd2 _ _ (by first | assumption | decide) (by first | assumption | decide) (by assumption)) rfl rfl rfl rfl rfl rfl ?_
   rintro v m1 ⟨t2, rfl, ⟨rfl, h6, rfl⟩ | ⟨rfl, h6, X1, hX1, rfl⟩⟩
   ·have h9 := hfull _ _ hde rfl (by rw [hrm]; exact h6)
    cbv
    refine br_t (show I.cmp .neq 5 0 = true from by rw [hI]; rfl) ?_
    cbv
    exact hP _ _ [0, 1, 2, 3, 4, 5, 6, 7, 8, 9, 10, 11, 12, 13, 14, 15, 16, 17, 18, 19, 20, 21, 22, 23, 24, 25] [] _ _ (by decide) rfl rfl rfl rfl rfl ⟨_, ⟨.sym 5, rfl, h9⟩, .inl ⟨hF', rfl⟩⟩
   ·have h9 := hput2 _ _ _ hde rfl (by rw [hrm]; exact h6) hX1
    obtain ⟨pq, hX1, lX, hfin⟩ := h9
    clear hX1 h6
    cbv
    refine br_f (show I.cmp .neq 0 0 = false from by rw [hI]; rfl) ?_
    cbv
    refine .go (sOf hkfr) [] [] (find3 hp (.sym z) hzr o i _ _ _ _ _ _ _ _ _ _ _ _ (by assumption) (by assumption) (by assumption) (by assumption) (by assumption) (by assumption) (by assumption) (by assumption) (by assumption) (by assumption) (by assumption) (by assumption)) rfl rfl rfl rfl rfl rfl ?_
    rintro v m1 (⟨q2, n2, x, L, hq2, hx, hz2, hn, rfl, rfl⟩ | ⟨h, rfl, rfl⟩)
    ·have h9 := huni q2 n2 L hq2 hz2 hn
     obtain ⟨h7, h8⟩ := h9
     subst h7
     subst h8
     cases hq2.symm.trans hLa
     have hkq : Kp [2 + 4 * q, 3 + 4 * q] := ⟨⟩
     clear huni
     rcases (show q = 0 ∨ q = 1 ∨ q = 2 ∨ q = 3 ∨ q = 4 ∨ q = 5 from hcs) with rfl | rfl | rfl | rfl | rfl | rfl
     all_goals
      cases hLa
      cbv
      refine .go (sOf hkq) [] [] (p_remove hp (.sym x) _ _ ps' hPa (okQ.len hok) hla) rfl rfl rfl rfl rfl rfl ?_
      rintro v m1 (⟨h, _⟩ | ⟨n3, r3, D3, LR, hn3, hr3, hD3, hLR, rfl, rfl⟩)
      ·exact absurd h (notOut hx (lenIs hPa hn))
      ·obtain rfl : n3 = n := isN_eq hn3 hx
       have h9 := hfin LR hLR
       cbv
       exact hP _ _ [0, 1, 2, 3, 4, 5, 6, 7, 8, 9, 10, 11, 12, 13, 14, 15, 16, 17, 18, 19, 20, 21, 22, 23, 24, 25, 27, 29] [] _ _ (by decide) rfl rfl rfl rfl rfl ⟨_, ⟨.lit 0, rfl, h9.1⟩, .inr (.inr ⟨_, _, X1, LR, by decide, by decide, by decide, h9.2, rfl⟩)⟩
    ·exact absurd h hbig
  ·have hs : rq = false := hs
   have h9 := hda (hrq.symm.trans hs)
   obtain ⟨hde, hrm⟩ := h9
   cbv
   refine .go (sOf hka) [] [.keep, .bor 1] (k_put hp ⟨.sym k, .sym f, .sym t, .sym i2, .sym l, .sym p, .sym s, .sym b⟩ D2 d hD2 hd2 _ _ (by first | assumption | decide) (by first | assumption | decide) (by assumption)) rfl rfl rfl rfl rfl rfl ?_
   rintro v m1 ⟨t2, rfl, ⟨rfl, h6, rfl⟩ | ⟨rfl, h6, X1, hX1, rfl⟩⟩
   ·have h9 := hfull _ _ hde rfl (by rw [hrm]; exact h6)
    cbv
    refine br_t (show I.cmp .neq 5 0 = true from by rw [hI]; rfl) ?_
    cbv
    exact hP _ _ [0, 1, 2, 3, 4, 5, 6, 7, 8, 9, 10, 11, 12, 13, 14, 15, 16, 17, 18, 19, 20, 21, 22, 23, 24, 25] [] _ _ (by decide) rfl rfl rfl rfl rfl ⟨_, ⟨.sym 5, rfl, h9⟩, .inl ⟨hF', rfl⟩⟩
   ·have h9 := hput2 _ _ _ hde rfl (by rw [hrm]; exact h6) hX1
    obtain ⟨pq, hX1, lX, hfin⟩ := h9
    clear hX1 h6
    cbv
    refine br_f (show I.cmp .neq 0 0 = false from by rw [hI]; rfl) ?_
    cbv
    refine .go (sOf hkfa) [] [] (find3 hp (.sym z) hzr o i _ _ _ _ _ _ _ _ _ _ _ _ (by assumption) (by assumption) (by assumption) (by assumption) (by assumption) (by assumption) (by assumption) (by assumption) (by assumption) (by assumption) (by assumption) (by assumption)) rfl rfl rfl rfl rfl rfl ?_
    rintro v m1 (⟨q2, n2, x, L, hq2, hx, hz2, hn, rfl, rfl⟩ | ⟨h, rfl, rfl⟩)
    ·have h9 := huni q2 n2 L hq2 hz2 hn
     obtain ⟨h7, h8⟩ := h9
     subst h7
     subst h8
     cases hq2.symm.trans hLa
     have hkq : Kp [2 + 4 * q, 3 + 4 * q] := ⟨⟩
     clear huni
     rcases (show q = 0 ∨ q = 1 ∨ q = 2 ∨ q = 3 ∨ q = 4 ∨ q = 5 from hcs) with rfl | rfl | rfl | rfl | rfl | rfl
     all_goals
      cases hLa
      cbv
      refine .go (sOf hkq) [] [] (p_remove hp (.sym x) _ _ ps' hPa (okQ.len hok) hla) rfl rfl rfl rfl rfl rfl ?_
      rintro v m1 (⟨h, _⟩ | ⟨n3, r3, D3, LR, hn3, hr3, hD3, hLR, rfl, rfl⟩)
      ·exact absurd h (notOut hx (lenIs hPa hn))
      ·obtain rfl : n3 = n := isN_eq hn3 hx
       have h9 := hfin LR hLR
       cbv
       exact hP _ _ [0, 1, 2, 3, 4, 5, 6, 7, 8, 9, 10, 11, 12, 13, 14, 15, 16, 17, 18, 19, 20, 21, 22, 23, 24, 25, 27, 29] [] _ _ (by decide) rfl rfl rfl rfl rfl ⟨_, ⟨.lit 0, rfl, h9.1⟩, .inr (.inr ⟨_, _, X1, LR, by decide, by decide, by decide, h9.2, rfl⟩)⟩
    ·exact absurd h hbig
theorem deliverU3 (z : Z) (hzr : -9223372036854775808 ≤ z.val ∧ z.val ≤ 9223372036854775807) (bz : Z) (hb : -9223372036854775808 ≤ bz.val ∧ bz.val ≤ 9223372036854775807) (mz : Z) (mask : BitVec 16) (hm : mz.val = w16 mask) (o i : Int) (h0 : 0 ≤ o) (h1 : o ≤ 999999) (g0 : 0 ≤ i) (g1 : i ≤ 999999) (L0 L1 L2 L3 L4 L5 L6 L7 L8 L9 L10 L11 : List (List G)) (ps : List (List PK)) (hF : FIs 3 o i 0 [L0, L1, L2, L3, L4, L5, L6, L7, L8, L9, L10, L11] ps) : LValid P 14 [.c (.ptr 0 (.lit 0) 1 0), .c (.g (.int .i64 z)), .c (.g (.int .i64 bz)), .c (.g (.int .u16 mz))] (fabM o i 3 [L0, L1, L2, L3, L4, L5, L6, L7, L8, L9, L10, L11])
  (fun v m1 => ∃ (M0 M1 M2 M3 M4 M5 M6 M7 M8 M9 M10 M11 : List (List G)) (ps' : List (List PK)), (∃ t, v = i64 t ∧ DelR i ps z.val bz.val mask t ps') ∧ FIs 3 o i 0 [M0, M1, M2, M3, M4, M5, M6, M7, M8, M9, M10, M11] ps' ∧ m1 = fabU o i 3 [M0, M1, M2, M3, M4, M5, M6, M7, M8, M9, M10, M11]) :=
 up3 (fun I v ps ⟨t, h, _⟩ => by subst h; exact ⟨rfl, fun _ _ => rfl⟩) (del3 hp z hzr bz hb mz mask hm o i h0 h1 g0 g1 L0 L1 L2 L3 L4 L5 L6 L7 L8 L9 L10 L11 ps hF)
end
end Go.Proofs.Ytofdnnjkfpomcaa.E

/- The network of 3 nodes: New. -/
namespace Go.Proofs.Ytofdnnjkfpomcaa.E
open Go
set_option linter.unusedVariables false
set_option maxRecDepth 100000
section
variable {P : Program} (hp : P = Try.prog)
include hp
set_option maxHeartbeats 16000000 in
theorem new3 (z0 z1 z2 z3 z4 z5 z6 : Z) (l : List (List G)) (hN : z0.val = 3) : LValid P 8 [.agg [.g (.int .i64 z0), .g (.int .i64 z1), .g (.int .i64 z2), .g (.int .i64 z3), .g (.int .i64 z4), .g (.int .i64 z5), .g (.int .i64 z6), .bor 1 l]] []
  (fun v m1 => ∃ ro ri : Int, ro = max 0 z5.val ∧ ri = max 0 z6.val ∧ v = .one (.c (.ptr 0 (.lit 0) 1 0)) ∧ m1 = fabM ro ri 3 [[], [], [], [], [], [], [], [], [], [], [], []]) := by
 refine LValid.sy ?_
 show LValid P 8 [.agg [.g (.int .i64 (.sym z0.val)), .g (.int .i64 (.sym z1.val)), .g (.int .i64 (.sym z2.val)), .g (.int .i64 (.sym z3.val)), .g (.int .i64 (.sym z4.val)), .g (.int .i64 (.sym z5.val)), .g (.int .i64 (.sym z6.val)), .bor 1 l]] _ _
 rw [hN]
 generalize z1.val = a1, z2.val = a2, z3.val = a3, z4.val = a4, z5.val = ou, z6.val = inn
 obtain ⟨ro, hro⟩ : ∃ ro, ro = max 0 ou := ⟨_, rfl⟩
 obtain ⟨ri, hri⟩ : ∃ ri, ri = max 0 inn := ⟨_, rfl⟩
 obtain ⟨I, hI⟩ := ref
 refine fn_sim hI (mo hp) (cc hp c8) fun Post hP => ?_
 cbv
 refine .loop_next (fun n ts m => ∃ (j : Nat) (z : Int), n = 3 - j ∧ isN z j ∧ j ≤ 3 ∧ ts = fr 34 [(1, .one (.c (.ptr 0 (.lit 0) 8 0))), (3, .one (.c (.ptr 1 (.lit 0) 1 0))), (7, i64 3), (8, i64 z)] ∧ m = newM 3 a1 a2 a3 a4 ou inn l ro ri j)
  3 _ _ [0, 1] [] [1, 3, 7, 8] (by decide) rfl rfl rfl ⟨0, 0, rfl, rfl, Nat.zero_le _, rfl, rfl⟩ ?_
 rintro next n hnext ts m ⟨j, z, hnn, hz, hj, rfl, rfl⟩
 have hz1 : isN (I.bin .add .i64 z 1) (j + 1) := by unfold isN at hz ⊢; rw [hI]; simp only [ints, rBin]; rw [wrap_in] <;> omega
 have hcm : (j < 3 → I.cmp .lss z 3 = true) ∧ (j = 3 → I.cmp .lss z 3 = false) := by
  unfold isN at hz
  rw [hI]
  simp only [ints, rCmp, decide_eq_true_eq, decide_eq_false_iff_not]
  omega
 have hcs : j = 0 ∨ j = 1 ∨ j = 2 ∨ j = 3 := by omega
 clear hj
 rcases hcs with rfl | rfl | rfl | rfl
 ·have hc := hcm.1 (by decide)
  clear hcm
  cbv
  refine br_t hc ?_
  cbv
  refine .drawn [1] ?_
  repeat' first
   | (refine .both ?_ ?_ <;> cbv)
   | (refine .go [] [] [] (p_new hp (.sym ou)) rfl rfl rfl rfl rfl rfl ?_; rintro v m1 ⟨rm, hrm, rfl, rfl⟩; (obtain rfl : ro = rm := (hrm.trans hro.symm).symm); cbv)
   | (refine .go [] [] [] (k_new hp (.sym inn)) rfl rfl rfl rfl rfl rfl ?_; rintro v m1 ⟨rm, hrm, rfl, rfl⟩; (obtain rfl : ri = rm := (hrm.trans hri.symm).symm); cbv)
   | (refine .go [] [] [] (k_new hp (.lit 1)) rfl rfl rfl rfl rfl rfl ?_; rintro v m1 ⟨rm, hrm, rfl, rfl⟩; (obtain rfl : rm = 1 := hrm); cbv)
   | (refine .most (by decide) (by decide) ?_; cbv)
  all_goals exact hnext _ _ 2 [0, 1, 11, 2, 3, 4, 5, 6, 7, 8, 9] [] [1, 3, 7, 8] _ _ (by omega) (by decide) rfl rfl rfl ⟨1, _, rfl, hz1, by decide, rfl, rfl⟩
 ·have hc := hcm.1 (by decide)
  clear hcm
  cbv
  refine br_t hc ?_
  cbv
  refine .drawn [1, 2] ?_
  repeat' first
   | (refine .both ?_ ?_ <;> cbv)
   | (refine .go [] [] [] (p_new hp (.sym ou)) rfl rfl rfl rfl rfl rfl ?_; rintro v m1 ⟨rm, hrm, rfl, rfl⟩; (obtain rfl : ro = rm := (hrm.trans hro.symm).symm); cbv)
   | (refine .go [] [] [] (k_new hp (.sym inn)) rfl rfl rfl rfl rfl rfl ?_; rintro v m1 ⟨rm, hrm, rfl, rfl⟩; (obtain rfl : ri = rm := (hrm.trans hri.symm).symm); cbv)
   | (refine .go [] [] [] (k_new hp (.lit 1)) rfl rfl rfl rfl rfl rfl ?_; rintro v m1 ⟨rm, hrm, rfl, rfl⟩; (obtain rfl : rm = 1 := hrm); cbv)
   | (refine .most (by decide) (by decide) ?_; cbv)
  all_goals exact hnext _ _ 1 [0, 1, 20, 3, 4, 5, 6, 7, 8, 9, 10, 11, 12, 13, 14, 15, 16, 17, 18] [] [1, 3, 7, 8] _ _ (by omega) (by decide) rfl rfl rfl ⟨2, _, rfl, hz1, by decide, rfl, rfl⟩
 ·have hc := hcm.1 (by decide)
  clear hcm
  cbv
  refine br_t hc ?_
  cbv
  refine .drawn [1, 2] ?_
  repeat' first
   | (refine .both ?_ ?_ <;> cbv)
   | (refine .go [] [] [] (p_new hp (.sym ou)) rfl rfl rfl rfl rfl rfl ?_; rintro v m1 ⟨rm, hrm, rfl, rfl⟩; (obtain rfl : ro = rm := (hrm.trans hro.symm).symm); cbv)
   | (refine .go [] [] [] (k_new hp (.sym inn)) rfl rfl rfl rfl rfl rfl ?_; rintro v m1 ⟨rm, hrm, rfl, rfl⟩; (obtain rfl : ri = rm := (hrm.trans hri.symm).symm); cbv)
   | (refine .go [] [] [] (k_new hp (.lit 1)) rfl rfl rfl rfl rfl rfl ?_; rintro v m1 ⟨rm, hrm, rfl, rfl⟩; (obtain rfl : rm = 1 := hrm); cbv)
   | (refine .most (by decide) (by decide) ?_; cbv)
  all_goals exact hnext _ _ 0 [0, 1, 28, 3, 4, 5, 6, 7, 8, 9, 10, 11, 12, 13, 14, 15, 16, 17, 18, 19, 20, 21, 22, 23, 24, 25, 26] [] [1, 3, 7, 8] _ _ (by omega) (by decide) rfl rfl rfl ⟨3, _, rfl, hz1, by decide, rfl, rfl⟩
 ·have hc := hcm.2 rfl
  clear hcm
  cbv
  refine br_f hc ?_
  cbv
  exact hP _ _ [1, 2, 3, 4, 5, 6, 7, 8, 9, 10, 11, 12, 13, 14, 15, 16, 17, 18, 19, 20, 21, 22, 23, 24, 25, 26] [] _ _ (by decide) rfl rfl rfl rfl rfl ⟨ro, ri, hro, hri, rfl, rfl⟩
end
end Go.Proofs.Ytofdnnjkfpomcaa.E

/- FabricBounds: how many packets there are, in a network of 3 nodes. -/
namespace Go.Proofs.Ytofdnnjkfpomcaa.E
open Go
set_option linter.unusedVariables false
set_option maxRecDepth 100000
section
variable {P : Program} (hp : P = Try.prog)
include hp
set_option maxHeartbeats 64000000 in
theorem bounds3 (s1 s2 s3 s4 s5 s6 s7 : Int) (l0 W0 K0 A1 V0 : List (List G)) (ys : List Int) (h0 : isL .i64 l0 ys) (A0 : List (List G)) (acts : List AC) (hA : A0 = acts.map AC.row) (hok : ∀ a ∈ acts, a.ok)
  (hn : (CFof s1 s2 s3 s4 s5 s6 s7 ys).a = 3) (ho : 1 ≤ (CFof s1 s2 s3 s4 s5 s6 s7 ys).f ∧ (CFof s1 s2 s3 s4 s5 s6 s7 ys).f ≤ 3) (hi : 1 ≤ (CFof s1 s2 s3 s4 s5 s6 s7 ys).g ∧ (CFof s1 s2 s3 s4 s5 s6 s7 ys).g ≤ 3) :
  LValid P 7 [.agg [.g (.int .i64 (.sym s1)), .g (.int .i64 (.sym s2)), .g (.int .i64 (.sym s3)), .g (.int .i64 (.sym s4)), .g (.int .i64 (.sym s5)), .g (.int .i64 (.sym s6)), .g (.int .i64 (.sym s7)), .g (.rows 1 l0), .g (.rows 1 W0), .g (.rows 1 K0), .g (.rows 1 A1), .g (.rows 1 V0)], .c (.g (.rows 14 A0))] [] (fun v _ => ∃ b : BB, b.val = true ∧ v = .one (.c (.g (.bool b)))) := by
 obtain ⟨I, hI⟩ := ref
 have hcE := configE hp s1 s2 s3 s4 s5 s6 s7 l0 W0 K0 A1 V0 ys h0
 generalize CFof s1 s2 s3 s4 s5 s6 s7 ys = q at hcE hn ho hi
 obtain ⟨qa, qb, qc, qd, qe, qf, qg, ini⟩ := q
 have hn : qa = 3 := hn
 subst hn
 have ho : 1 ≤ qf ∧ qf ≤ 3 := ho
 have hi : 1 ≤ qg ∧ qg ≤ 3 := hi
 have hmul : I.bin .mul .i64 (I.bin .mul .i64 2 3) qf = qf * ((6 : Nat) : Int) := by
  have h : qf = 1 ∨ qf = 2 ∨ qf = 3 := by omega
  rw [hI]
  rcases h with rfl | rfl | rfl <;> rfl
 refine fn_sim hI (mo hp) (ccj hp c7) fun Post hP => ?_
 cbv
 refine .go [] [] [.bor 1] hcE rfl rfl rfl rfl rfl rfl ?_
 rintro v m1 ⟨hqo, L, hL, rfl, rfl⟩
 clear hcE hqo hL
 cbv
 refine .go [] [] [.bor 1] (new3 hp (.sym 3) (.sym qb) (.sym qc) (.sym qd) (.sym qe) (.sym qf) (.sym qg) L rfl) rfl rfl rfl rfl rfl rfl ?_
 rintro v m1 ⟨ro, ri, hro, hri, rfl, rfl⟩
 obtain rfl : qf = ro := by rw [hro]; show qf = max 0 qf; omega
 obtain rfl : qg = ri := by rw [hri]; show qg = max 0 qg; omega
 clear hro hri
 cbv
 refine .loop_next (fun n ts m => ∃ (j : Nat) (z : Int) (L0 L1 L2 L3 L4 L5 L6 L7 L8 L9 L10 L11 : List (List G)) (ps : List (List PK)) (sa tb : Int) (na nb : Nat), n = 40 - j ∧ isN z j ∧ j ≤ 40 ∧ FIs 3 qf qg 0 [L0, L1, L2, L3, L4, L5, L6, L7, L8, L9, L10, L11] ps ∧ isN sa na ∧ isN tb nb ∧ na ≤ j ∧ na = nb + cnt ps ∧ ts = fr 166 [(1, .one (.c (.g (.rows 14 A0)))), (5, .one (.c (.ptr 0 (.lit 0) 8 0))), (6, .one (.c (.ptr 1 (.lit 0) 1 0))), (7, i64 sa), (8, i64 tb), (9, i64 z)] ∧ m = .lit 8 [cfg (.sym 3) (.sym qb) (.sym qc) (.sym qd) (.sym qe) (.sym qf) (.sym qg) (.g (.rows 1 L))] :: fabS 1 qf qg 3 [L0, L1, L2, L3, L4, L5, L6, L7, L8, L9, L10, L11])
  40 _ _ [1, 2, 3, 4, 5, 6, 7, 8, 9, 10, 11, 12, 13, 14, 15, 16, 17, 18, 19, 20, 21, 22, 23, 24, 25, 26, 27] [] [1, 5, 6, 7, 8, 9] (by decide) rfl rfl rfl ⟨0, 0, [], [], [], [], [], [], [], [], [], [], [], [], List.replicate 12 [], 0, 0, 0, 0, rfl, rfl, by decide, FIs.nils (by omega) (by omega) 12 0, rfl, rfl, Nat.le_refl _, rfl, rfl, rfl⟩ ?_
 rintro next n hnext ts m ⟨j, z, L0, L1, L2, L3, L4, L5, L6, L7, L8, L9, L10, L11, ps, sa, tb, na, nb, hnn, hz, hj, hF, hsa, htb, hna, hnb, rfl, rfl⟩
 have hz1 := inc_n hI hz (by omega)
 have hc9 := lss_iff hI hz (b := 40) (n := 40) rfl
 have hcl : I.cmp .lss z (I.ofNat (I.len A0)) = true ↔ j < A0.length := lss_iff hI hz (by rw [hI]; rfl)
 cbv
 refine .br (fun g => ?_) (fun g => ?_)
 rotate_left
 ·cbv
  refine .go [] [] [] (wakes6 hp) rfl rfl rfl rfl rfl rfl ?_
  rintro v m1 ⟨rfl, rfl⟩
  cbv
  exact hP _ _ [] [] _ _ .nil rfl rfl rfl rfl rfl ⟨_, rfl, rfl⟩
 have hjl := hcl.1 g
 clear hcl g
 cbv
 refine .br (fun g => ?_) (fun g => ?_)
 rotate_left
 ·cbv
  refine .go [] [] [] (wakes6 hp) rfl rfl rfl rfl rfl rfl ?_
  rintro v m1 ⟨rfl, rfl⟩
  cbv
  exact hP _ _ [] [] _ _ .nil rfl rfl rfl rfl rfl ⟨_, rfl, rfl⟩
 have hj9 := hc9.1 g
 clear hc9 g hP
 obtain ⟨ac, hx, hac⟩ : ∃ a : AC, A0[j]? = some a.row ∧ a.ok := by
  rw [hA, List.length_map] at hjl
  have h9 : acts[j]? = some acts[j] := List.getElem?_eq_getElem hjl
  exact ⟨acts[j], by rw [hA, List.getElem?_map, h9]; rfl, hok _ (List.getElem_mem hjl)⟩
 obtain ⟨ad, aa, ab, am, ⟨ak, af, at_, ai, al, ap, aS, ax, ad2⟩, ah⟩ := ac
 obtain ⟨ha1, ha2, ha3⟩ := hac
 have ha3 : ∀ y ∈ ad2, in64 y := ha3
 obtain ⟨DA, hDA⟩ : ∃ DA, DA = nrow .i64 ad2 := ⟨_, rfl⟩
 have hx : A0[j]? = some [.int .i64 (.sym ad), .int .i64 (.sym aa), .int .i64 (.sym ab), .int .u16 (.sym (w16 am)), .int .i64 (.sym ak), .int .i64 (.sym af), .int .i64 (.sym at_), .int .i64 (.sym ai), .int .i64 (.sym al), .int .i64 (.sym ap), .int .i64 (.sym aS), .bool (.sym ax), .rows 1 DA, .int .i64 (.sym ah)] := by rw [hx, hDA]; rfl
 have hDA : isL .i64 DA ad2 := hDA
 generalize hwm : w16 am = wm at hx
 cbv
 refine .idx j hz (by rw [hI]; exact hjl) ?_
 cbv
 refine .nth _ hx ?_
 cbv
 refine .go [] [] [] (withinL hp ad 5) rfl rfl rfl rfl rfl rfl ?_
 rintro r m1 ⟨y, hy, rfl, rfl⟩
 clear hy hx
 cbv
 refine .join_next (fun ts m => ∃ (L0 L1 L2 L3 L4 L5 L6 L7 L8 L9 L10 L11 : List (List G)) (ps : List (List PK)) (sa tb : Int) (na nb : Nat), FIs 3 qf qg 0 [L0, L1, L2, L3, L4, L5, L6, L7, L8, L9, L10, L11] ps ∧ isN sa na ∧ isN tb nb ∧ na ≤ j + 1 ∧ na = nb + cnt ps ∧ ts = fr 166 [(1, .one (.c (.g (.rows 14 A0)))), (5, .one (.c (.ptr 0 (.lit 0) 8 0))), (6, .one (.c (.ptr 1 (.lit 0) 1 0))), (7, i64 sa), (8, i64 tb), (9, i64 z)] ∧ m = .lit 8 [cfg (.sym 3) (.sym qb) (.sym qc) (.sym qd) (.sym qe) (.sym qf) (.sym qg) (.g (.rows 1 L))] :: fabS 1 qf qg 3 [L0, L1, L2, L3, L4, L5, L6, L7, L8, L9, L10, L11]) ?_ ?_
 ·intro next2 hnx
  clear hnext
  cbv
  refine .join_next (fun ts m => ∃ tt : Bool, ts = fr 166 [(1, .one (.c (.g (.rows 14 A0)))), (5, .one (.c (.ptr 0 (.lit 0) 8 0))), (6, .one (.c (.ptr 1 (.lit 0) 1 0))), (7, i64 sa), (8, i64 tb), (9, i64 z), (10, .one (.c (.ptr 27 (.lit 0) 14 0))), (42, i64 y), (69, boo tt)] ∧ m = .lit 8 [cfg (.sym 3) (.sym qb) (.sym qc) (.sym qd) (.sym qe) (.sym qf) (.sym qg) (.g (.rows 1 L))] :: fabS 1 qf qg 3 [L0, L1, L2, L3, L4, L5, L6, L7, L8, L9, L10, L11] ++ [.lit 14 [[.g (.int .i64 (.sym ad)), .g (.int .i64 (.sym aa)), .g (.int .i64 (.sym ab)), .g (.int .u16 (.sym wm)), .g (.int .i64 (.sym ak)), .g (.int .i64 (.sym af)), .g (.int .i64 (.sym at_)), .g (.int .i64 (.sym ai)), .g (.int .i64 (.sym al)), .g (.int .i64 (.sym ap)), .g (.int .i64 (.sym aS)), .g (.bool (.sym ax)), .g (.rows 1 DA), .g (.int .i64 (.sym ah))]]]) ?_ ?_
  ·intro next3 hnx3
   cbv
   refine .br (fun g => ?_) (fun g => ?_) <;> cbv <;> exact hnx3 _ _ [0, 1, 2, 3, 4, 5, 6, 7, 8, 9, 10, 11, 12, 13, 14, 15, 16, 17, 18, 19, 20, 21, 22, 23, 24, 25, 26, 27] [] [1, 5, 6, 7, 8, 9, 10, 42, 69] _ _ (by decide) rfl rfl rfl ⟨_, rfl, rfl⟩
  rintro ts m ⟨tt, rfl, rfl⟩
  cbv
  refine .pass ?_
  cbv
  refine .br (fun g => ?_) (fun g => ?_)
  ·clear g
   cbv
   refine .go [] [] [.bor 1] (pplayF hp ⟨ak, af, at_, ai, al, ap, aS, ax, ad2⟩ DA hDA) rfl rfl rfl rfl rfl rfl ?_
   rintro v m1 ⟨r, D, hr, hD, rfl, rfl⟩
   have hsd := pkW_send (n := 3) ⟨ak, af, at_, ai, al, ap, aS, ax, ad2⟩ (by decide) (by decide)
   have hdy : ∀ y ∈ r.d, -9223372036854775808 ≤ y ∧ y ≤ 9223372036854775807 := fun y hy => by
    rw [hr] at hy
    exact ha3 y (List.mem_of_mem_take hy)
   have hmk : ∀ (f' t' : Int), f' = win r.f 3 → t' = win r.t 3 → sendB 3 (⟨r.k, f', t', r.i, r.l, r.p, r.s, r.b, r.d⟩ : PK) = true := fun f' t' e1 e2 => by
    rw [show (⟨r.k, f', t', r.i, r.l, r.p, r.s, r.b, r.d⟩ : PK) = pkW 3 ⟨ak, af, at_, ai, al, ap, aS, ax, ad2⟩ by rw [e1, e2, hr]; rfl]
    exact hsd
   clear hsd hr
   obtain ⟨k, f, t, i2, l, p, s, b, d⟩ := r
   have hD : isL .i64 D d := hD
   have hdy : ∀ y ∈ d, -9223372036854775808 ≤ y ∧ y ≤ 9223372036854775807 := hdy
   have hmk : ∀ (f' t' : Int), f' = win f 3 → t' = win t 3 → sendB 3 (⟨k, f', t', i2, l, p, s, b, d⟩ : PK) = true := hmk
   cbv
   refine .join_next (fun ts m => ∃ (f' t' : Int), sendB 3 (⟨k, f', t', i2, l, p, s, b, d⟩ : PK) = true ∧ ts = fr 166 [(1, .one (.c (.g (.rows 14 A0)))), (5, .one (.c (.ptr 0 (.lit 0) 8 0))), (6, .one (.c (.ptr 1 (.lit 0) 1 0))), (7, i64 sa), (8, i64 tb), (9, i64 z), (11, .one (.c (.ptr 27 (.lit 0) 9 0)))] ∧ m = .lit 8 [cfg (.sym 3) (.sym qb) (.sym qc) (.sym qd) (.sym qe) (.sym qf) (.sym qg) (.g (.rows 1 L))] :: fabS 1 qf qg 3 [L0, L1, L2, L3, L4, L5, L6, L7, L8, L9, L10, L11] ++ [.lit 9 [[.g (.int .i64 (.sym k)), .g (.int .i64 (.sym f')), .g (.int .i64 (.sym t')), .g (.int .i64 (.sym i2)), .g (.int .i64 (.sym l)), .g (.int .i64 (.sym p)), .g (.int .i64 (.sym s)), .g (.bool (.sym b)), .g (.rows 1 D)]]]) ?_ ?_
   ·intro next4 hnx4
    cbv
    refine .drawn [28] ?_
    cbv
    repeat' first
     | (refine .both ?_ ?_)
     | (refine .go [] [] [] (within hp _ _) rfl rfl rfl rfl rfl rfl ?_; rintro r m1 ⟨y, hy, rfl, rfl⟩; cbv)
    all_goals exact hnx4 _ _ [0, 1, 2, 3, 4, 5, 6, 7, 8, 9, 10, 11, 12, 13, 14, 15, 16, 17, 18, 19, 20, 21, 22, 23, 24, 25, 26, 28] [] [1, 5, 6, 7, 8, 9, 11] _ _ (by decide) rfl rfl rfl ⟨_, _, hmk _ _ (by assumption) (by assumption), rfl, rfl⟩
   clear hmk
   rintro ts m ⟨f', t', hsd, rfl, rfl⟩
   have hd4 : d.length ≤ 4 := (send_kind hsd).2.2.2
   have hDl : D.length * 8 ≤ 140737488355328 := by rw [hD.len]; omega
   cbv
   refine .go [1, 2, 3, 4, 5, 6, 7, 8, 9, 10, 11, 12, 13, 14, 15, 16, 17, 18, 19, 20, 21, 22, 23, 24, 25, 26] [] [.keep, .bor 1] (sendU3 hp ⟨.sym k, .sym f', .sym t', .sym i2, .sym l, .sym p, .sym s, .sym b⟩ D d hD hDl hdy qf qg (by omega) (by omega) (by omega) (by omega) L0 L1 L2 L3 L4 L5 L6 L7 L8 L9 L10 L11 ps hF) rfl rfl rfl rfl rfl rfl ?_
   clear hF
   rintro v m1 ⟨M0, M1, M2, M3, M4, M5, M6, M7, M8, M9, M10, M11, ps1, ⟨t, rfl, hS⟩, hF, rfl⟩
   have hc := cnt_send hS
   clear hS hsd
   cbv
   refine .br (fun g => ?_) (fun g => ?_)
   ·have h1 : t = 0 := by
     rw [hI] at g
     simpa [ints, rCmp] using g
    rcases hc with ⟨_, hc⟩ | ⟨h2, _⟩
    ·have hsa1 := inc_n hI hsa (by omega)
     cbv
     exact hnx _ _ [0, 1, 2, 3, 28, 5, 29, 7, 30, 9, 31, 11, 32, 13, 33, 15, 34, 17, 35, 19, 36, 21, 37, 23, 38, 25, 39] [] [1, 5, 6, 7, 8, 9] _ _ (by decide) rfl rfl rfl ⟨M0, M1, M2, M3, M4, M5, M6, M7, M8, M9, M10, M11, ps1, _, tb, na + 1, nb, hF, hsa1, htb, by omega, by omega, rfl, rfl⟩
    ·exact absurd h1 h2
   ·have h1 : t ≠ 0 := by
     rw [hI] at g
     simpa [ints, rCmp] using g
    rcases hc with ⟨h2, _⟩ | ⟨_, hc⟩
    ·exact absurd h2 h1
    ·cbv
     exact hnx _ _ [0, 1, 2, 3, 28, 5, 29, 7, 30, 9, 31, 11, 32, 13, 33, 15, 34, 17, 35, 19, 36, 21, 37, 23, 38, 25, 39] [] [1, 5, 6, 7, 8, 9] _ _ (by decide) rfl rfl rfl ⟨M0, M1, M2, M3, M4, M5, M6, M7, M8, M9, M10, M11, ps1, sa, tb, na, nb, hF, hsa, htb, by omega, by omega, rfl, rfl⟩
  clear g
  cbv
  refine .join_next (fun ts m => ∃ tt : Bool, ts = fr 166 [(1, .one (.c (.g (.rows 14 A0)))), (5, .one (.c (.ptr 0 (.lit 0) 8 0))), (6, .one (.c (.ptr 1 (.lit 0) 1 0))), (7, i64 sa), (8, i64 tb), (9, i64 z), (10, .one (.c (.ptr 27 (.lit 0) 14 0))), (42, i64 y), (93, boo tt)] ∧ m = .lit 8 [cfg (.sym 3) (.sym qb) (.sym qc) (.sym qd) (.sym qe) (.sym qf) (.sym qg) (.g (.rows 1 L))] :: fabS 1 qf qg 3 [L0, L1, L2, L3, L4, L5, L6, L7, L8, L9, L10, L11] ++ [.lit 14 [[.g (.int .i64 (.sym ad)), .g (.int .i64 (.sym aa)), .g (.int .i64 (.sym ab)), .g (.int .u16 (.sym wm)), .g (.int .i64 (.sym ak)), .g (.int .i64 (.sym af)), .g (.int .i64 (.sym at_)), .g (.int .i64 (.sym ai)), .g (.int .i64 (.sym al)), .g (.int .i64 (.sym ap)), .g (.int .i64 (.sym aS)), .g (.bool (.sym ax)), .g (.rows 1 DA), .g (.int .i64 (.sym ah))]]]) ?_ ?_
  ·intro next3 hnx3
   cbv
   refine .br (fun g => ?_) (fun g => ?_) <;> cbv <;> exact hnx3 _ _ [0, 1, 2, 3, 4, 5, 6, 7, 8, 9, 10, 11, 12, 13, 14, 15, 16, 17, 18, 19, 20, 21, 22, 23, 24, 25, 26, 27] [] [1, 5, 6, 7, 8, 9, 10, 42, 93] _ _ (by decide) rfl rfl rfl ⟨_, rfl, rfl⟩
  rintro ts m ⟨tt, rfl, rfl⟩
  cbv
  refine .pass ?_
  cbv
  refine .br (fun g => ?_) (fun g => ?_)
  ·clear g
   cbv
   refine .drawn [1, 2, 3, 4, 5, 6, 7, 8, 9, 10, 11, 12, 13, 14, 15, 16, 17, 18, 19, 20, 21, 22, 23, 24, 25, 26] ?_
   cbv
   refine .go [1, 2, 3, 4, 5, 6, 7, 8, 9, 10, 11, 12, 13, 14, 15, 16, 17, 18, 19, 20, 21, 22, 23, 24, 25, 26] [] [] (underU3 hp qf qg (by omega) (by omega) (by omega) (by omega) L0 L1 L2 L3 L4 L5 L6 L7 L8 L9 L10 L11 ps hF) rfl rfl rfl rfl rfl rfl ?_
   rintro v m1 ⟨un, hun, rfl, rfl⟩
   cbv
   refine .go [] [] [] (within hp (.sym aa) (.sym un)) rfl rfl rfl rfl rfl rfl ?_
   rintro v m1 ⟨pl, hpl, rfl, rfl⟩
   have hpl : in64 pl := by
    have hul : (under ps).length ≤ cnt ps := by
     have := wsum_all 3 ps (hF.length _ _ _).symm
     omega
    rw [show pl = win aa un from hpl]
    unfold isN at hun
    exact win_any _ _ (by omega) (by omega)
   clear hun
   cbv
   refine .go [] [] [] (withinL hp ah 2) rfl rfl rfl rfl rfl rfl ?_
   rintro v m1 ⟨w2, hw2, rfl, rfl⟩
   clear hw2
   have hmz : I.bin .and .u16 wm (I.conv .u16 (I.bin .mul .i64 w2 65535)) = w16 (am &&& BitVec.ofInt 16 (I.conv .u16 (I.bin .mul .i64 w2 65535))) := by
    rw [← hwm]
    have := andm16 am (I.conv .u16 (I.bin .mul .i64 w2 65535))
    rw [← this, hI]
    rfl
   have h9 : ∃ mk, I.bin .and .u16 wm (I.conv .u16 (I.bin .mul .i64 w2 65535)) = w16 mk := ⟨_, hmz⟩
   clear hmz
   obtain ⟨mk, hmz⟩ := h9
   cbv
   refine .go [1, 2, 3, 4, 5, 6, 7, 8, 9, 10, 11, 12, 13, 14, 15, 16, 17, 18, 19, 20, 21, 22, 23, 24, 25, 26] [] [] (deliverU3 hp (.sym pl) hpl (.sym ab) ha2 (.sym (I.bin .and .u16 wm (I.conv .u16 (I.bin .mul .i64 w2 65535)))) mk hmz qf qg (by omega) (by omega) (by omega) (by omega) L0 L1 L2 L3 L4 L5 L6 L7 L8 L9 L10 L11 ps hF) rfl rfl rfl rfl rfl rfl ?_
   clear hF
   rintro v m1 ⟨M0, M1, M2, M3, M4, M5, M6, M7, M8, M9, M10, M11, ps1, ⟨t, rfl, hR⟩, hF, rfl⟩
   have hc := cnt_del hR
   clear hR hmz
   cbv
   exact hnx _ _ [0, 1, 2, 3, 28, 5, 29, 7, 30, 9, 31, 11, 32, 13, 33, 15, 34, 17, 35, 19, 36, 21, 37, 23, 38, 25, 39] [] [1, 5, 6, 7, 8, 9] _ _ (by decide) rfl rfl rfl ⟨M0, M1, M2, M3, M4, M5, M6, M7, M8, M9, M10, M11, ps1, sa, tb, na, nb, hF, hsa, htb, by omega, by omega, rfl, rfl⟩
  clear g
  cbv
  refine .go [] [] [] (within hp (.sym aa) (.sym 3)) rfl rfl rfl rfl rfl rfl ?_
  rintro v m1 ⟨y2, hy2, rfl, rfl⟩
  clear hy2
  cbv
  refine .go [1, 2, 3, 4, 5, 6, 7, 8, 9, 10, 11, 12, 13, 14, 15, 16, 17, 18, 19, 20, 21, 22, 23, 24, 25, 26] [] [] (requestU3 hp (.sym y2) qf qg (by omega) (by omega) (by omega) (by omega) L0 L1 L2 L3 L4 L5 L6 L7 L8 L9 L10 L11 ps hF) rfl rfl rfl rfl rfl rfl ?_
  clear hF
  rintro v m1 ⟨M0, M1, M2, M3, M4, M5, M6, M7, M8, M9, M10, M11, ps1, ⟨r, rb, D2, rfl, hD2, hT, hokr⟩, hF, rfl⟩
  have hc := cnt_take hT
  obtain ⟨rk, rf, rt, ri, rl, rp, rs, rbb, rd⟩ := r
  clear hT hokr hD2
  cbv
  refine .join_next (fun ts m => ∃ (L0 L1 L2 L3 L4 L5 L6 L7 L8 L9 L10 L11 : List (List G)) (ps : List (List PK)) (tb : Int) (nb : Nat), FIs 3 qf qg 0 [L0, L1, L2, L3, L4, L5, L6, L7, L8, L9, L10, L11] ps ∧ isN tb nb ∧ na = nb + cnt ps ∧ ts = fr 166 [(1, .one (.c (.g (.rows 14 A0)))), (5, .one (.c (.ptr 0 (.lit 0) 8 0))), (6, .one (.c (.ptr 1 (.lit 0) 1 0))), (7, i64 sa), (8, i64 tb), (9, i64 z), (10, .one (.c (.ptr 27 (.lit 0) 14 0)))] ∧ m = .lit 8 [cfg (.sym 3) (.sym qb) (.sym qc) (.sym qd) (.sym qe) (.sym qf) (.sym qg) (.g (.rows 1 L))] :: fabS 1 qf qg 3 [L0, L1, L2, L3, L4, L5, L6, L7, L8, L9, L10, L11] ++ [.lit 14 [[.g (.int .i64 (.sym ad)), .g (.int .i64 (.sym aa)), .g (.int .i64 (.sym ab)), .g (.int .u16 (.sym wm)), .g (.int .i64 (.sym ak)), .g (.int .i64 (.sym af)), .g (.int .i64 (.sym at_)), .g (.int .i64 (.sym ai)), .g (.int .i64 (.sym al)), .g (.int .i64 (.sym ap)), .g (.int .i64 (.sym aS)), .g (.bool (.sym ax)), .g (.rows 1 DA), .g (.int .i64 (.sym ah))]]]) ?_ ?_
  ·intro next3 hnx3
   cbv
   refine .br (fun g => ?_) (fun g => ?_)
   ·subst g
    rcases hc with ⟨_, hc⟩ | ⟨hc, _⟩
    ·have htb1 := inc_n hI htb (by omega)
     cbv
     exact hnx3 _ _ [0, 1, 2, 3, 28, 5, 29, 7, 30, 9, 31, 11, 32, 13, 33, 15, 34, 17, 35, 19, 36, 21, 37, 23, 38, 25, 39, 27] [] [1, 5, 6, 7, 8, 9, 10] _ _ (by decide) rfl rfl rfl ⟨M0, M1, M2, M3, M4, M5, M6, M7, M8, M9, M10, M11, ps1, _, nb + 1, hF, htb1, by omega, rfl, rfl⟩
    ·cases hc
   ·subst g
    rcases hc with ⟨hc, _⟩ | ⟨_, hc⟩
    ·cases hc
    ·cbv
     exact hnx3 _ _ [0, 1, 2, 3, 28, 5, 29, 7, 30, 9, 31, 11, 32, 13, 33, 15, 34, 17, 35, 19, 36, 21, 37, 23, 38, 25, 39, 27] [] [1, 5, 6, 7, 8, 9, 10] _ _ (by decide) rfl rfl rfl ⟨M0, M1, M2, M3, M4, M5, M6, M7, M8, M9, M10, M11, ps1, tb, nb, hF, htb, by omega, rfl, rfl⟩
  clear hc hF htb hnb
  rintro ts m ⟨L0, L1, L2, L3, L4, L5, L6, L7, L8, L9, L10, L11, ps, tb, nb, hF, htb, hnb, rfl, rfl⟩
  cbv
  refine .go [] [] [] (within hp (.sym aa) (.sym 3)) rfl rfl rfl rfl rfl rfl ?_
  rintro v m1 ⟨y3, hy3, rfl, rfl⟩
  clear hy3
  cbv
  refine .go [1, 2, 3, 4, 5, 6, 7, 8, 9, 10, 11, 12, 13, 14, 15, 16, 17, 18, 19, 20, 21, 22, 23, 24, 25, 26] [] [] (replyU3 hp (.sym y3) qf qg (by omega) (by omega) (by omega) (by omega) L0 L1 L2 L3 L4 L5 L6 L7 L8 L9 L10 L11 ps hF) rfl rfl rfl rfl rfl rfl ?_
  clear hF
  rintro v m1 ⟨M0, M1, M2, M3, M4, M5, M6, M7, M8, M9, M10, M11, ps1, ⟨r, rb, D2, rfl, hD2, hT, hokr⟩, hF, rfl⟩
  have hc := cnt_take hT
  obtain ⟨rk, rf, rt, ri, rl, rp, rs, rbb, rd⟩ := r
  clear hT hokr hD2
  cbv
  refine .br (fun g => ?_) (fun g => ?_)
  ·subst g
   rcases hc with ⟨_, hc⟩ | ⟨hc, _⟩
   ·have htb1 := inc_n hI htb (by omega)
    cbv
    exact hnx _ _ [0, 1, 2, 3, 28, 5, 29, 7, 30, 9, 31, 11, 32, 13, 33, 15, 34, 17, 35, 19, 36, 21, 37, 23, 38, 25, 39] [] [1, 5, 6, 7, 8, 9] _ _ (by decide) rfl rfl rfl ⟨M0, M1, M2, M3, M4, M5, M6, M7, M8, M9, M10, M11, ps1, sa, _, na, nb + 1, hF, hsa, htb1, by omega, by omega, rfl, rfl⟩
   ·cases hc
  ·subst g
   rcases hc with ⟨hc, _⟩ | ⟨_, hc⟩
   ·cases hc
   ·cbv
    exact hnx _ _ [0, 1, 2, 3, 28, 5, 29, 7, 30, 9, 31, 11, 32, 13, 33, 15, 34, 17, 35, 19, 36, 21, 37, 23, 38, 25, 39] [] [1, 5, 6, 7, 8, 9] _ _ (by decide) rfl rfl rfl ⟨M0, M1, M2, M3, M4, M5, M6, M7, M8, M9, M10, M11, ps1, sa, tb, na, nb, hF, hsa, htb, by omega, by omega, rfl, rfl⟩
 clear hF hsa htb hna hnb
 rintro ts m ⟨L0, L1, L2, L3, L4, L5, L6, L7, L8, L9, L10, L11, ps, sa, tb, na, nb, hF, hsa, htb, hna, hnb, rfl, rfl⟩
 have hlen := (hF.length _ _ _).symm
 have hall := wsum_all 3 ps hlen
 have hule := under_le 6 _ ps 0 rfl hlen hF
 cbv
 refine .go [1, 2, 3, 4, 5, 6, 7, 8, 9, 10, 11, 12, 13, 14, 15, 16, 17, 18, 19, 20, 21, 22, 23, 24, 25, 26] [] [] (underU3 hp qf qg (by omega) (by omega) (by omega) (by omega) L0 L1 L2 L3 L4 L5 L6 L7 L8 L9 L10 L11 ps hF) rfl rfl rfl rfl rfl rfl ?_
 rintro v m1 ⟨un, hun, rfl, rfl⟩
 have hgt : I.cmp .gtr un (I.bin .mul .i64 (I.bin .mul .i64 2 3) qf) = false := gtr_no hI (by rw [hmul]; unfold isN at hun; rw [hun]; exact hule)
 cbv
 refine br_f hgt ?_
 clear hgt hule hmul
 cbv
 refine .loop_next (fun n ts m => ∃ (c : Nat) (x nn : Int), n = 3 - c ∧ isN x c ∧ c ≤ 3 ∧ isN nn ((under ps).length + wsum c ps) ∧ ts = fr 166 [(1, .one (.c (.g (.rows 14 A0)))), (5, .one (.c (.ptr 0 (.lit 0) 8 0))), (6, .one (.c (.ptr 1 (.lit 0) 1 0))), (7, i64 sa), (8, i64 tb), (9, i64 z), (16, i64 nn), (17, i64 x)] ∧ m = .lit 8 [cfg (.sym 3) (.sym qb) (.sym qc) (.sym qd) (.sym qe) (.sym qf) (.sym qg) (.g (.rows 1 L))] :: fabS 1 qf qg 3 [L0, L1, L2, L3, L4, L5, L6, L7, L8, L9, L10, L11])
  3 _ _ [0, 1, 2, 3, 4, 5, 6, 7, 8, 9, 10, 11, 12, 13, 14, 15, 16, 17, 18, 19, 20, 21, 22, 23, 24, 25, 26] [] [1, 5, 6, 7, 8, 9, 16, 17] (by decide) rfl rfl rfl ⟨0, 0, un, rfl, rfl, Nat.zero_le _, by rw [show wsum 0 ps = 0 by cases ps <;> rfl]; exact hun, rfl, rfl⟩ ?_
 clear hun un
 rintro next2 n2 hnext2 ts m ⟨c, x, nn, hn2, hx, hc, hnn2, rfl, rfl⟩
 have hcm := lss_iff hI hx (b := 3) (n := 3) rfl
 have hx1 := inc_n hI hx (by omega)
 cbv
 refine .br (fun g => ?_) (fun g => ?_)
 ·have hcN := hcm.1 g
  clear hcm g
  cbv
  refine .go [1, 2, 3, 4, 5, 6, 7, 8, 9, 10, 11, 12, 13, 14, 15, 16, 17, 18, 19, 20, 21, 22, 23, 24, 25, 26] [] [] (waitingU3 hp (.sym x) qf qg (by omega) (by omega) (by omega) (by omega) L0 L1 L2 L3 L4 L5 L6 L7 L8 L9 L10 L11 ps hF) rfl rfl rfl rfl rfl rfl ?_
  rintro v m1 ⟨t1, t2, rfl, rfl, hn1, hn3⟩
  have h9 := num_in hF hn1 hx (by omega)
  obtain ⟨p1, q1, q2, q3⟩ := h9
  have h9 := num_in hF hn3 hx (by omega)
  obtain ⟨p3, u1, u2, u3⟩ := h9
  rw [room1] at q3
  rw [room3] at u3
  have hstep := wsum_step c ps p1 p3 q1 u1
  have hle := wsum_mono c 3 ps hc
  have hp3 : p1.length ≤ 3 ∧ p3.length ≤ 1 := by omega
  have hg1 : I.cmp .gtr t1 qg = false := gtr_no hI (by unfold isN at q2; omega)
  have hg2 : I.cmp .gtr t2 1 = false := gtr_no hI (by unfold isN at u2; omega)
  have hb : (under ps).length + wsum c ps < 900000 := by omega
  have hadd := add_n hI hnn2 (add_n hI q2 u2 (by omega)) (by omega)
  rw [show (under ps).length + wsum c ps + (p1.length + p3.length) = (under ps).length + wsum (c + 1) ps by omega] at hadd
  clear hn1 hn3 q1 q2 q3 u1 u2 u3 hstep hle hp3 hb
  cbv
  refine br_f hg1 ?_
  cbv
  refine br_f hg2 ?_
  cbv
  refine .go [1, 2, 3, 4, 5, 6, 7, 8, 9, 10, 11, 12, 13, 14, 15, 16, 17, 18, 19, 20, 21, 22, 23, 24, 25, 26] [] [] (roomRU3 hp (.lit true) rfl (.sym x) qf qg (by omega) (by omega) (by omega) (by omega) L0 L1 L2 L3 L4 L5 L6 L7 L8 L9 L10 L11 ps hF) rfl rfl rfl rfl rfl rfl ?_
  rintro v m1 ⟨t, rfl, rfl, ht⟩
  have ht0 := lss_no hI (room_in hF (room0 qf qg c) ht hx (by omega))
  clear ht
  cbv
  refine br_f ht0 ?_
  cbv
  refine .go [1, 2, 3, 4, 5, 6, 7, 8, 9, 10, 11, 12, 13, 14, 15, 16, 17, 18, 19, 20, 21, 22, 23, 24, 25, 26] [] [] (roomAU3 hp (.lit false) rfl (.sym x) qf qg (by omega) (by omega) (by omega) (by omega) L0 L1 L2 L3 L4 L5 L6 L7 L8 L9 L10 L11 ps hF) rfl rfl rfl rfl rfl rfl ?_
  rintro v m1 ⟨t4, rfl, rfl, ht⟩
  have ht4 := lss_no hI (room_in hF (room2 qf qg c) ht hx (by omega))
  clear ht
  cbv
  refine br_f ht4 ?_
  cbv
  exact hnext2 _ _ (3 - (c + 1)) [0, 1, 2, 3, 4, 5, 6, 7, 8, 9, 10, 11, 12, 13, 14, 15, 16, 17, 18, 19, 20, 21, 22, 23, 24, 25, 26] [] [1, 5, 6, 7, 8, 9, 16, 17] _ _ (by omega) (by decide) rfl rfl rfl ⟨c + 1, _, _, rfl, hx1, by omega, hadd, rfl, rfl⟩
 ·have hcN : c = 3 := by
   have := no_lss hcm g
   omega
  subst hcN
  clear hnext2 hcm g
  have hfin : I.cmp .neq (I.bin .add .i64 nn tb) sa = false := neq_eq hI (by
   have := add_n hI hnn2 htb (by omega)
   unfold isN at this hsa
   rw [this, hsa]
   omega)
  cbv
  refine br_f hfin ?_
  cbv
  exact hnext _ _ (40 - (j + 1)) [0, 1, 2, 3, 4, 5, 6, 7, 8, 9, 10, 11, 12, 13, 14, 15, 16, 17, 18, 19, 20, 21, 22, 23, 24, 25, 26] [] [1, 5, 6, 7, 8, 9] _ _ (by omega) (by decide) rfl rfl rfl ⟨j + 1, _, L0, L1, L2, L3, L4, L5, L6, L7, L8, L9, L10, L11, ps, sa, tb, na, nb, rfl, hz1, by omega, hF, hsa, htb, hna, hnb, rfl, rfl⟩
end
end Go.Proofs.Ytofdnnjkfpomcaa.E
