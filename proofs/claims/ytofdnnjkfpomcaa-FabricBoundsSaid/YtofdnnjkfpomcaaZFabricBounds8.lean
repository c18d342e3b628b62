/- Contracts for FabricBounds, packed: H4 N4 B4 Bnd WLast WQPut WApart WArr WZeros WFoot WKept WShare WN WNEv WMore O K VFabricBounds. -/
import Derived.Test.YtofdnnjkfpomcaaZFabricBounds6
import Derived.Test.YtofdnnjkfpomcaaZFabricBounds7
import Derived.OrdersHeld
import Derived.Deep.RegionHeld3
import Derived.Laws.BitsLemmas
import Derived.RowKit
import Derived.Test.YtofdnnjkfpomcaaZFabricBounds3
import Derived.ProofKit
import Derived.OpenShut
import Derived.ChangeOld
import Derived.SizedLaws
import Derived.Deep.Slices
import Derived.Test.YtofdnnjkfpomcaaRows
/- The network of 4 nodes: contracts told by lists of packets. -/
namespace Go.Proofs.Ytofdnnjkfpomcaa.E
open Go
set_option linter.unusedVariables false
set_option maxRecDepth 100000
theorem lets4 {P : Program} {f : FuncId} {args : List V1} {m : Mem} {o i : Int} {Q : A → List (List PK) → Prop} (h : LValid P f args m (fun v m1 => ∃ (Ms : List (List (List G))) (ps' : List (List PK)), Ms.length = 16 ∧ Q v ps' ∧ FIs 4 o i 0 Ms ps' ∧ m1 = fabU o i 4 Ms)) :
  LValid P f args m (fun v m1 => ∃ (M0 M1 M2 M3 M4 M5 M6 M7 M8 M9 M10 M11 M12 M13 M14 M15 : List (List G)) (ps' : List (List PK)), Q v ps' ∧ FIs 4 o i 0 [M0, M1, M2, M3, M4, M5, M6, M7, M8, M9, M10, M11, M12, M13, M14, M15] ps' ∧ m1 = fabU o i 4 [M0, M1, M2, M3, M4, M5, M6, M7, M8, M9, M10, M11, M12, M13, M14, M15]) :=
 h.mono fun v m1 ⟨Ms, ps', h1⟩ => by
  have hl := h1.1
  obtain ⟨M0, N0, rfl, q0⟩ := cons_len hl
  obtain ⟨M1, N1, rfl, q1⟩ := cons_len q0
  obtain ⟨M2, N2, rfl, q2⟩ := cons_len q1
  obtain ⟨M3, N3, rfl, q3⟩ := cons_len q2
  obtain ⟨M4, N4, rfl, q4⟩ := cons_len q3
  obtain ⟨M5, N5, rfl, q5⟩ := cons_len q4
  obtain ⟨M6, N6, rfl, q6⟩ := cons_len q5
  obtain ⟨M7, N7, rfl, q7⟩ := cons_len q6
  obtain ⟨M8, N8, rfl, q8⟩ := cons_len q7
  obtain ⟨M9, N9, rfl, q9⟩ := cons_len q8
  obtain ⟨M10, N10, rfl, q10⟩ := cons_len q9
  obtain ⟨M11, N11, rfl, q11⟩ := cons_len q10
  obtain ⟨M12, N12, rfl, q12⟩ := cons_len q11
  obtain ⟨M13, N13, rfl, q13⟩ := cons_len q12
  obtain ⟨M14, N14, rfl, q14⟩ := cons_len q13
  obtain ⟨M15, N15, rfl, q15⟩ := cons_len q14
  obtain rfl := List.length_eq_zero_iff.1 q15
  exact ⟨M0, M1, M2, M3, M4, M5, M6, M7, M8, M9, M10, M11, M12, M13, M14, M15, ps', h1.2⟩
set_option maxHeartbeats 64000000 in
theorem up4 {P : Program} {f : FuncId} {args : List V1} {o i : Int} {L0 L1 L2 L3 L4 L5 L6 L7 L8 L9 L10 L11 L12 L13 L14 L15 : List (List G)} {Q : A → List (List PK) → Prop} (hQ : ∀ (I : Ints) (v : A) (ps : List (List PK)), Q v ps → v.free = true ∧ ∀ σ m, v.inv I σ (.frz []) m = v)
  (h : LValid P f args (fabM o i 4 [L0, L1, L2, L3, L4, L5, L6, L7, L8, L9, L10, L11, L12, L13, L14, L15]) (fun v m1 => ∃ ps', Q v ps' ∧ Mv 4 4 o i [L0, L1, L2, L3, L4, L5, L6, L7, L8, L9, L10, L11, L12, L13, L14, L15] ps' m1)) :
  LValid P f args (fabM o i 4 [L0, L1, L2, L3, L4, L5, L6, L7, L8, L9, L10, L11, L12, L13, L14, L15]) (fun v m1 => ∃ (M0 M1 M2 M3 M4 M5 M6 M7 M8 M9 M10 M11 M12 M13 M14 M15 : List (List G)) (ps' : List (List PK)), Q v ps' ∧ FIs 4 o i 0 [M0, M1, M2, M3, M4, M5, M6, M7, M8, M9, M10, M11, M12, M13, M14, M15] ps' ∧ m1 = fabU o i 4 [M0, M1, M2, M3, M4, M5, M6, M7, M8, M9, M10, M11, M12, M13, M14, M15]) := by
 obtain ⟨I, hI⟩ := ref
 refine lets4 (LValid.postB hI h ?_)
 rintro v m1 ⟨ps', hq, ⟨hF, rfl⟩ | ⟨c, X, hc, hF, rfl⟩ | ⟨c, q, X, X', hod, hc, hqk, hF, rfl⟩⟩
 ·obtain ⟨q1, q2⟩ := hQ I v ps' hq
  refine ⟨sgU 4 999 999, [], by kernel_rfl, by kernel_rfl, ?_⟩
  rw [q2]
  exact ⟨q1, by kernel_rfl, [L0, L1, L2, L3, L4, L5, L6, L7, L8, L9, L10, L11, L12, L13, L14, L15], ps', rfl, hq, hF, by kernel_rfl⟩
 ·obtain ⟨q1, q2⟩ := hQ I v ps' hq
  have hk : Kp (sgU 4 c 999) := ⟨⟩
  have hl : (List.set [L0, L1, L2, L3, L4, L5, L6, L7, L8, L9, L10, L11, L12, L13, L14, L15] c X).length = 16 := by rw [List.length_set]; rfl
  have hcs : c = 0 ∨ c = 1 ∨ c = 2 ∨ c = 3 ∨ c = 4 ∨ c = 5 ∨ c = 6 ∨ c = 7 ∨ c = 8 ∨ c = 9 ∨ c = 10 ∨ c = 11 ∨ c = 12 ∨ c = 13 ∨ c = 14 ∨ c = 15 := by omega
  clear hc
  rcases hcs with rfl | rfl | rfl | rfl | rfl | rfl | rfl | rfl | rfl | rfl | rfl | rfl | rfl | rfl | rfl | rfl
  all_goals
   refine ⟨sOf hk, [], by kernel_rfl, by kernel_rfl, ?_⟩
   rw [q2]
   exact ⟨q1, by kernel_rfl, _, ps', hl, hq, hF, by kernel_rfl⟩
 ·obtain ⟨q1, q2⟩ := hQ I v ps' hq
  have hk : Kp (sgU 4 c (2 * q)) := ⟨⟩
  have hl : ((List.set [L0, L1, L2, L3, L4, L5, L6, L7, L8, L9, L10, L11, L12, L13, L14, L15] c X).set (2 * q) X').length = 16 := by rw [List.length_set, List.length_set]; rfl
  have hcs : c = 1 ∨ c = 3 ∨ c = 5 ∨ c = 7 ∨ c = 9 ∨ c = 11 ∨ c = 13 ∨ c = 15 := by omega
  have hqs : q = 0 ∨ q = 1 ∨ q = 2 ∨ q = 3 ∨ q = 4 ∨ q = 5 ∨ q = 6 ∨ q = 7 := by omega
  clear hc hod hqk
  rcases hcs with rfl | rfl | rfl | rfl | rfl | rfl | rfl | rfl <;> rcases hqs with rfl | rfl | rfl | rfl | rfl | rfl | rfl | rfl
  all_goals
   refine ⟨sOf hk, [], by kernel_rfl, by kernel_rfl, ?_⟩
   rw [q2]
   exact ⟨q1, by kernel_rfl, _, ps', hl, hq, hF, by kernel_rfl⟩
section
variable {P : Program} (hp : P = Try.prog)
include hp
theorem is4 (z : Z) (o i : Int) (L0 L1 L2 L3 L4 L5 L6 L7 L8 L9 L10 L11 L12 L13 L14 L15 : List (List G)) : LValid P 31 [.c (.ptr 0 (.lit 0) 1 0), .c (.g (.int .i64 z))] (fabM o i 4 [L0, L1, L2, L3, L4, L5, L6, L7, L8, L9, L10, L11, L12, L13, L14, L15]) (fun v m1 => ∃ t, t = belB z.val 0 4 ∧ v = boo t ∧ m1 = (fabM o i 4 [L0, L1, L2, L3, L4, L5, L6, L7, L8, L9, L10, L11, L12, L13, L14, L15])) := by
 refine bx' (LValid.boo (LValid.sy ?_))
 show LValid P 31 [.c (.ptr 0 (.lit 0) 1 0), .c (.g (.int .i64 (.sym z.val)))] _ _
 generalize z.val = z
 obtain ⟨I, hI⟩ := ref
 refine fn_sim hI (mo hp) (cc hp c31) fun Post hP => ?_
 cbv
 refine .br (fun h => ?_) (fun h => ?_)
 ·have h2 : 0 ≤ z := by simpa [hI, ints, rCmp] using h
  cbv
  exact hP _ _ [0, 1, 2, 3, 4, 5, 6, 7, 8, 9, 10, 11, 12, 13, 14, 15, 16, 17, 18, 19, 20, 21, 22, 23, 24, 25, 26, 27, 28, 29, 30, 31, 32, 33] [] _ _ (by decide) rfl rfl rfl rfl rfl ⟨_, rfl, by
   show I.cmp .lss z 4 = _
   rw [hI]
   show decide (z < 4) = belB z 0 4
   unfold belB
   rw [decide_eq_true h2]
   rfl, rfl⟩
 ·have h2 : ¬ 0 ≤ z := by simpa [hI, ints, rCmp] using h
  cbv
  exact hP _ _ [0, 1, 2, 3, 4, 5, 6, 7, 8, 9, 10, 11, 12, 13, 14, 15, 16, 17, 18, 19, 20, 21, 22, 23, 24, 25, 26, 27, 28, 29, 30, 31, 32, 33] [] _ _ (by decide) rfl rfl rfl rfl rfl ⟨_, rfl, by
   show false = belB z 0 4
   unfold belB
   rw [decide_eq_false h2]
   rfl, rfl⟩
set_option maxHeartbeats 16000000 in
theorem snd4 (z : PZ) (D : List (List G)) (d : List Int) (hD : isL .i64 D d) (hd : D.length * 8 ≤ 140737488355328) (hdy : ∀ y ∈ d, -9223372036854775808 ≤ y ∧ y ≤ 9223372036854775807) (o i : Int) (h0 : 0 ≤ o) (h1 : o ≤ 999999) (g0 : 0 ≤ i) (g1 : i ≤ 999999) (L0 L1 L2 L3 L4 L5 L6 L7 L8 L9 L10 L11 L12 L13 L14 L15 : List (List G)) (ps : List (List PK)) (hF : FIs 4 o i 0 [L0, L1, L2, L3, L4, L5, L6, L7, L8, L9, L10, L11, L12, L13, L14, L15] ps) : LValid P 10 [.c (.ptr 0 (.lit 0) 1 0), z.arg D] (fabM o i 4 [L0, L1, L2, L3, L4, L5, L6, L7, L8, L9, L10, L11, L12, L13, L14, L15])
  (fun v m1 => ∃ ps', (∃ t, v = i64 t ∧ SendR 4 o ps (z.pk d) t ps') ∧ Mv 4 4 o i [L0, L1, L2, L3, L4, L5, L6, L7, L8, L9, L10, L11, L12, L13, L14, L15] ps' m1) := by
 have hF' := hF
 obtain ⟨p0, r, rfl, e0, k0, l0, hF⟩ := hF.cons2 h1 g1
 obtain ⟨p1, r, rfl, e1, k1, l1, hF⟩ := hF.cons2 h1 g1
 obtain ⟨p2, r, rfl, e2, k2, l2, hF⟩ := hF.cons2 h1 g1
 obtain ⟨p3, r, rfl, e3, k3, l3, hF⟩ := hF.cons2 h1 g1
 obtain ⟨p4, r, rfl, e4, k4, l4, hF⟩ := hF.cons2 h1 g1
 obtain ⟨p5, r, rfl, e5, k5, l5, hF⟩ := hF.cons2 h1 g1
 obtain ⟨p6, r, rfl, e6, k6, l6, hF⟩ := hF.cons2 h1 g1
 obtain ⟨p7, r, rfl, e7, k7, l7, hF⟩ := hF.cons2 h1 g1
 obtain ⟨p8, r, rfl, e8, k8, l8, hF⟩ := hF.cons2 h1 g1
 obtain ⟨p9, r, rfl, e9, k9, l9, hF⟩ := hF.cons2 h1 g1
 obtain ⟨p10, r, rfl, e10, k10, l10, hF⟩ := hF.cons2 h1 g1
 obtain ⟨p11, r, rfl, e11, k11, l11, hF⟩ := hF.cons2 h1 g1
 obtain ⟨p12, r, rfl, e12, k12, l12, hF⟩ := hF.cons2 h1 g1
 obtain ⟨p13, r, rfl, e13, k13, l13, hF⟩ := hF.cons2 h1 g1
 obtain ⟨p14, r, rfl, e14, k14, l14, hF⟩ := hF.cons2 h1 g1
 obtain ⟨p15, r, rfl, e15, k15, l15, hF⟩ := hF.cons2 h1 g1
 obtain rfl := hF.nil
 clear hF
 have h1' : o ≤ 1000000 := Int.le_trans h1 (by decide)
 have g1' : i ≤ 1000000 := Int.le_trans g1 (by decide)
 refine LValid.sy ?_
 show LValid P 10 [.c (.ptr 0 (.lit 0) 1 0), .agg [.g (.int .i64 (.sym z.k.val)), .g (.int .i64 (.sym z.f.val)), .g (.int .i64 (.sym z.t.val)), .g (.int .i64 (.sym z.i.val)), .g (.int .i64 (.sym z.l.val)), .g (.int .i64 (.sym z.p.val)), .g (.int .i64 (.sym z.s.val)), .g (.bool (.sym z.b.val)), .bor 1 D]] _ _
 rw [show z.pk d = ⟨z.k.val, z.f.val, z.t.val, z.i.val, z.l.val, z.p.val, z.s.val, z.b.val, d⟩ from rfl]
 generalize z.k.val = k, z.f.val = f, z.t.val = t, z.i.val = i2, z.l.val = l, z.p.val = p, z.s.val = s, z.b.val = b
 refine LValid.syv (R := fun v m1 => ∃ ps', (∃ t' : Z, v = .one (.c (.g (.int .i64 t'))) ∧ SendR 4 o [p0, p1, p2, p3, p4, p5, p6, p7, p8, p9, p10, p11, p12, p13, p14, p15] ⟨k, f, t, i2, l, p, s, b, d⟩ t'.val ps') ∧ Mv 4 4 o i [L0, L1, L2, L3, L4, L5, L6, L7, L8, L9, L10, L11, L12, L13, L14, L15] ps' m1) ?_ (fun v m1 ⟨ps', ⟨t', h1, h2⟩, h3⟩ => ⟨ps', ⟨t'.val, by rw [h1]; rfl, h2⟩, h3⟩)
 obtain ⟨I, hI⟩ := ref
 have hchk := check hp ⟨.sym k, .sym f, .sym t, .sym i2, .sym l, .sym p, .sym s, .sym b⟩ D d hD
 have hreq := request hp (.sym k)
 rw [show PZ.pk ⟨.sym k, .sym f, .sym t, .sym i2, .sym l, .sym p, .sym s, .sym b⟩ d = ⟨k, f, t, i2, l, p, s, b, d⟩ from rfl] at hchk
 rw [show (Z.sym k).val = k from rfl] at hreq
 have hput := fun (L : List (List G)) (h : L.length ≤ 1000000) => p_put hp ⟨.sym k, .sym f, .sym t, .sym i2, .sym l, .sym p, .sym s, .sym b⟩ D d hD hd o L h0 h1' h
 rw [show PZ.pk ⟨.sym k, .sym f, .sym t, .sym i2, .sym l, .sym p, .sym s, .sym b⟩ d = ⟨k, f, t, i2, l, p, s, b, d⟩ from rfl] at hput
 have hno : sendB 4 ⟨k, f, t, i2, l, p, s, b, d⟩ = false → SendR 4 o [p0, p1, p2, p3, p4, p5, p6, p7, p8, p9, p10, p11, p12, p13, p14, p15] ⟨k, f, t, i2, l, p, s, b, d⟩ 1 [p0, p1, p2, p3, p4, p5, p6, p7, p8, p9, p10, p11, p12, p13, p14, p15] := fun h => .inl ⟨rfl, h, rfl⟩
 have hyes := fun hs => send_yes (N := 4) rfl rfl hF' h1 (q := ⟨k, f, t, i2, l, p, s, b, d⟩) hD hdy hs
 have hsb : sendB 4 ⟨k, f, t, i2, l, p, s, b, d⟩ = (checkB ⟨k, f, t, i2, l, p, s, b, d⟩ && belB f 0 4 && belB t 0 4) := rfl
 have hpr : reqB k = true → place ⟨k, f, t, i2, l, p, s, b, d⟩ = 4 * f.toNat + 0 := fun h => by show 4 * f.toNat + (if reqB k then 0 else 2) = _; rw [h]; rfl
 have hpa : reqB k = false → place ⟨k, f, t, i2, l, p, s, b, d⟩ = 4 * f.toNat + 2 := fun h => by show 4 * f.toNat + (if reqB k then 0 else 2) = _; rw [h]; rfl
 have hbl : belB f 0 4 = true → ∃ j : Nat, isN f j ∧ j < 4 ∧ f.toNat = j := fun h => by
  unfold belB at h
  simp only [Bool.and_eq_true, decide_eq_true_eq] at h
  exact ⟨f.toNat, by unfold isN; omega, by omega, rfl⟩
 generalize SendR 4 o [p0, p1, p2, p3, p4, p5, p6, p7, p8, p9, p10, p11, p12, p13, p14, p15] ⟨k, f, t, i2, l, p, s, b, d⟩ = SR at hno hyes ⊢
 generalize sendB 4 ⟨k, f, t, i2, l, p, s, b, d⟩ = sb at hsb hno hyes
 generalize place ⟨k, f, t, i2, l, p, s, b, d⟩ = pl at hpr hpa hyes
 generalize checkB ⟨k, f, t, i2, l, p, s, b, d⟩ = ck at hchk hsb
 generalize hbf : belB f 0 4 = bf at hsb hbl
 generalize hbt : belB t 0 4 = bt at hsb
 refine fn_sim hI (mo hp) (cc hp c10) fun Post hP => ?_
 cbv
 refine .go [] [] [] hchk rfl rfl rfl rfl rfl rfl ?_
 rintro v m1 ⟨e, he, rfl, rfl⟩
 clear hchk
 cases ck with
 | false =>
  have he : e = 1 := he
  subst he
  cbv
  refine br_t (show I.cmp .neq 1 0 = true from by rw [hI]; rfl) ?_
  cbv
  exact hP _ _ [0, 1, 2, 3, 4, 5, 6, 7, 8, 9, 10, 11, 12, 13, 14, 15, 16, 17, 18, 19, 20, 21, 22, 23, 24, 25, 26, 27, 28, 29, 30, 31, 32, 33] [] _ _ (by decide) rfl rfl rfl rfl rfl ⟨_, ⟨.lit 1, rfl, hno (by rw [hsb]; rfl)⟩, .inl ⟨hF', rfl⟩⟩
 | true =>
 have he : e = 0 := he
 subst he
 cbv
 refine br_f (show I.cmp .neq 0 0 = false from by rw [hI]; rfl) ?_
 cbv
 refine .go [0, 1, 2, 3, 4, 5, 6, 7, 8, 9, 10, 11, 12, 13, 14, 15, 16, 17, 18, 19, 20, 21, 22, 23, 24, 25, 26, 27, 28, 29, 30, 31, 32, 33] [] [] (is4 hp (.sym f) o i L0 L1 L2 L3 L4 L5 L6 L7 L8 L9 L10 L11 L12 L13 L14 L15) rfl rfl rfl rfl rfl rfl ?_
 rintro v m1 ⟨t1, ht1, rfl, rfl⟩
 have ht1 : t1 = bf := (show t1 = belB f 0 4 from ht1).trans hbf
 cbv
 refine .br (fun g1 => ?_) (fun g1 => ?_)
 ·have h1 : t1 = false := by simpa [hI, ints] using g1
  cbv
  exact hP _ _ [0, 1, 2, 3, 4, 5, 6, 7, 8, 9, 10, 11, 12, 13, 14, 15, 16, 17, 18, 19, 20, 21, 22, 23, 24, 25, 26, 27, 28, 29, 30, 31, 32, 33] [] _ _ (by decide) rfl rfl rfl rfl rfl ⟨_, ⟨.lit 1, rfl, hno (by rw [hsb, ← ht1, h1]; rfl)⟩, .inl ⟨hF', rfl⟩⟩
 have h2 : t1 = true := by simpa [hI, ints] using g1
 obtain ⟨j, hj, hjn, hjt⟩ := hbl (by rw [← ht1]; exact h2)
 cbv
 refine .go [0, 1, 2, 3, 4, 5, 6, 7, 8, 9, 10, 11, 12, 13, 14, 15, 16, 17, 18, 19, 20, 21, 22, 23, 24, 25, 26, 27, 28, 29, 30, 31, 32, 33] [] [] (is4 hp (.sym t) o i L0 L1 L2 L3 L4 L5 L6 L7 L8 L9 L10 L11 L12 L13 L14 L15) rfl rfl rfl rfl rfl rfl ?_
 rintro v m1 ⟨t2, ht2, rfl, rfl⟩
 have ht2 : t2 = bt := (show t2 = belB t 0 4 from ht2).trans hbt
 rw [← ht1, ← ht2, h2] at hsb
 clear hbl ht1 ht2 h2 g1
 cbv
 refine .br (fun g2 => ?_) (fun g2 => ?_)
 ·have h1 : t2 = false := by simpa [hI, ints] using g2
  cbv
  exact hP _ _ [0, 1, 2, 3, 4, 5, 6, 7, 8, 9, 10, 11, 12, 13, 14, 15, 16, 17, 18, 19, 20, 21, 22, 23, 24, 25, 26, 27, 28, 29, 30, 31, 32, 33] [] _ _ (by decide) rfl rfl rfl rfl rfl ⟨_, ⟨.lit 1, rfl, hno (by rw [hsb, h1]; rfl)⟩, .inl ⟨hF', rfl⟩⟩
 have h2 : t2 = true := by simpa [hI, ints] using g2
 rw [h2] at hsb
 have hsb : sb = true := hsb
 clear h2 g2 hno
 rw [hjt] at hpr hpa
 have h9 := hyes hsb
 obtain ⟨p', Lp, hLp, hll, h5', h0'⟩ := h9
 have hk1 : Kp [2 + 8 * j, 3 + 8 * j, 4 + 8 * j, 5 + 8 * j, 6 + 8 * j, 7 + 8 * j, 8 + 8 * j, 9 + 8 * j] := ⟨⟩
 have hkr : Kp [2 + 8 * j, 3 + 8 * j] := ⟨⟩
 have hka : Kp [6 + 8 * j, 7 + 8 * j] := ⟨⟩
 cbv
 refine .drawn [2, 3, 4, 5, 6, 7, 8, 9, 10, 11, 12, 13, 14, 15, 16, 17, 18, 19, 20, 21, 22, 23, 24, 25, 26, 27, 28, 29, 30, 31, 32, 33] ?_
 cbv
 have hcs : j = 0 ∨ j = 1 ∨ j = 2 ∨ j = 3 := by omega
 clear hjt hjn hyes hsb
 rcases hcs with rfl | rfl | rfl | rfl
 all_goals
  refine .idx _ hj (by decide) ?_
  cbv
  refine .go [] [] [] hreq rfl rfl rfl rfl rfl rfl ?_
  rintro v m1 ⟨rq, hrq, rfl, rfl⟩
  cbv
  refine .go (sOf hk1) [] [] (sort_ hp (.sym rq) o i _ _ _ _) rfl rfl rfl rfl rfl rfl ?_
  rintro v m1 ⟨⟨hs, rfl⟩ | ⟨hs, rfl⟩, rfl⟩
  ·have hs : rq = true := hs
   have hpl2 := hpr (hrq.symm.trans hs)
   subst hpl2
   cases hLp
   cbv
   refine .go (sOf hkr) [] [] (hput _ hll) rfl rfl rfl rfl rfl rfl ?_
   rintro v m1 ⟨t, rfl, ⟨rfl, h6, rfl⟩ | ⟨rfl, h6, L', hL', rfl⟩⟩
   ·have h9 := h5' h6
    cbv
    exact hP _ _ [0, 1, 2, 3, 4, 5, 6, 7, 8, 9, 10, 11, 12, 13, 14, 15, 16, 17, 18, 19, 20, 21, 22, 23, 24, 25, 26, 27, 28, 29, 30, 31, 32, 33] [] _ _ (by decide) rfl rfl rfl rfl rfl ⟨_, ⟨.sym 5, rfl, h9⟩, .inl ⟨hF', rfl⟩⟩
   ·have h9 := h0' L' h6 hL'
    obtain ⟨u1, u2⟩ := h9
    cbv
    exact hP _ _ [0, 1, 2, 3, 4, 5, 6, 7, 8, 9, 10, 11, 12, 13, 14, 15, 16, 17, 18, 19, 20, 21, 22, 23, 24, 25, 26, 27, 28, 29, 30, 31, 32, 33, 35] [] _ _ (by decide) rfl rfl rfl rfl rfl ⟨_, ⟨.sym 0, rfl, u1⟩, .inr (.inl ⟨_, L', by decide, u2, rfl⟩)⟩
  ·have hs : rq = false := hs
   have hpl2 := hpa (hrq.symm.trans hs)
   subst hpl2
   cases hLp
   cbv
   refine .go (sOf hka) [] [] (hput _ hll) rfl rfl rfl rfl rfl rfl ?_
   rintro v m1 ⟨t, rfl, ⟨rfl, h6, rfl⟩ | ⟨rfl, h6, L', hL', rfl⟩⟩
   ·have h9 := h5' h6
    cbv
    exact hP _ _ [0, 1, 2, 3, 4, 5, 6, 7, 8, 9, 10, 11, 12, 13, 14, 15, 16, 17, 18, 19, 20, 21, 22, 23, 24, 25, 26, 27, 28, 29, 30, 31, 32, 33] [] _ _ (by decide) rfl rfl rfl rfl rfl ⟨_, ⟨.sym 5, rfl, h9⟩, .inl ⟨hF', rfl⟩⟩
   ·have h9 := h0' L' h6 hL'
    obtain ⟨u1, u2⟩ := h9
    cbv
    exact hP _ _ [0, 1, 2, 3, 4, 5, 6, 7, 8, 9, 10, 11, 12, 13, 14, 15, 16, 17, 18, 19, 20, 21, 22, 23, 24, 25, 26, 27, 28, 29, 30, 31, 32, 33, 35] [] _ _ (by decide) rfl rfl rfl rfl rfl ⟨_, ⟨.sym 0, rfl, u1⟩, .inr (.inl ⟨_, L', by decide, u2, rfl⟩)⟩
theorem sendU4 (z : PZ) (D : List (List G)) (d : List Int) (hD : isL .i64 D d) (hd : D.length * 8 ≤ 140737488355328) (hdy : ∀ y ∈ d, -9223372036854775808 ≤ y ∧ y ≤ 9223372036854775807) (o i : Int) (h0 : 0 ≤ o) (h1 : o ≤ 999999) (g0 : 0 ≤ i) (g1 : i ≤ 999999) (L0 L1 L2 L3 L4 L5 L6 L7 L8 L9 L10 L11 L12 L13 L14 L15 : List (List G)) (ps : List (List PK)) (hF : FIs 4 o i 0 [L0, L1, L2, L3, L4, L5, L6, L7, L8, L9, L10, L11, L12, L13, L14, L15] ps) : LValid P 10 [.c (.ptr 0 (.lit 0) 1 0), z.arg D] (fabM o i 4 [L0, L1, L2, L3, L4, L5, L6, L7, L8, L9, L10, L11, L12, L13, L14, L15])
  (fun v m1 => ∃ (M0 M1 M2 M3 M4 M5 M6 M7 M8 M9 M10 M11 M12 M13 M14 M15 : List (List G)) (ps' : List (List PK)), (∃ t, v = i64 t ∧ SendR 4 o ps (z.pk d) t ps') ∧ FIs 4 o i 0 [M0, M1, M2, M3, M4, M5, M6, M7, M8, M9, M10, M11, M12, M13, M14, M15] ps' ∧ m1 = fabU o i 4 [M0, M1, M2, M3, M4, M5, M6, M7, M8, M9, M10, M11, M12, M13, M14, M15]) :=
 up4 (fun I v ps ⟨t, h, _⟩ => by subst h; exact ⟨rfl, fun _ _ => rfl⟩) (snd4 hp z D d hD hd hdy o i h0 h1 g0 g1 L0 L1 L2 L3 L4 L5 L6 L7 L8 L9 L10 L11 L12 L13 L14 L15 ps hF)
set_option maxHeartbeats 16000000 in
theorem pools4 (o i : Int) (L0 L1 L2 L3 L4 L5 L6 L7 L8 L9 L10 L11 L12 L13 L14 L15 : List (List G)) : LValid P 35 [.c (.ptr 0 (.lit 0) 1 0)] (fabM o i 4 [L0, L1, L2, L3, L4, L5, L6, L7, L8, L9, L10, L11, L12, L13, L14, L15])
  (fun v m1 => v = .one (.c (.row 34 2 none)) ∧ m1 = (fabM o i 4 [L0, L1, L2, L3, L4, L5, L6, L7, L8, L9, L10, L11, L12, L13, L14, L15]) ++ outB 4) := by
 obtain ⟨I, hI⟩ := ref
 refine fn_sim hI (mo hp) (cc hp c35) fun Post hP => ?_
 cbv
 refine .loop_next (fun n ts m => ∃ (j : Nat) (z : Int), n = 4 - j ∧ isN z j ∧ j ≤ 4 ∧ ts = fr 24 [(0, .one (.c (.ptr 0 (.lit 0) 1 0))), (3, .one (.c (outC 34 j))), (9, .one (.c (.row 1 4 none))), (10, i64 4), (11, i64 z)] ∧ m = (fabM o i 4 [L0, L1, L2, L3, L4, L5, L6, L7, L8, L9, L10, L11, L12, L13, L14, L15]) ++ outB j)
  4 _ _ [0, 1, 2, 3, 4, 5, 6, 7, 8, 9, 10, 11, 12, 13, 14, 15, 16, 17, 18, 19, 20, 21, 22, 23, 24, 25, 26, 27, 28, 29, 30, 31, 32, 33] [] [0, 3, 9, 10, 11] (by decide) rfl rfl rfl ⟨0, 0, rfl, rfl, Nat.zero_le _, rfl, rfl⟩ ?_
 rintro next n hnext ts m ⟨j, z, hnn, hz, hj, rfl, rfl⟩
 have hz1 : isN (I.bin .add .i64 z 1) (j + 1) := by unfold isN at hz ⊢; rw [hI]; simp only [ints, rBin]; rw [wrap_in] <;> omega
 have hcm : (j < 4 → I.cmp .lss z 4 = true) ∧ (j = 4 → I.cmp .lss z 4 = false) := by
  unfold isN at hz
  rw [hI]
  simp only [ints, rCmp, decide_eq_true_eq, decide_eq_false_iff_not]
  omega
 have hcs : j = 0 ∨ j = 1 ∨ j = 2 ∨ j = 3 ∨ j = 4 := by omega
 clear hj
 rcases hcs with rfl | rfl | rfl | rfl | rfl
 ·have hc := hcm.1 (by decide)
  clear hcm
  cbv
  refine br_t hc ?_
  cbv
  refine .idx _ hz (by decide) ?_
  cbv
  refine .most (by decide) (by decide) ?_
  cbv
  exact hnext _ _ 3 [0, 1, 2, 3, 4, 5, 6, 7, 8, 9, 10, 11, 12, 13, 14, 15, 16, 17, 18, 19, 20, 21, 22, 23, 24, 25, 26, 27, 28, 29, 30, 31, 32, 33, 36] [] [0, 3, 9, 10, 11] _ _ (by omega) (by decide) rfl rfl rfl ⟨1, _, rfl, hz1, by decide, rfl, rfl⟩
 ·have hc := hcm.1 (by decide)
  clear hcm
  cbv
  refine br_t hc ?_
  cbv
  refine .idx _ hz (by decide) ?_
  cbv
  refine .most (by decide) (by decide) ?_
  cbv
  exact hnext _ _ 2 [0, 1, 2, 3, 4, 5, 6, 7, 8, 9, 10, 11, 12, 13, 14, 15, 16, 17, 18, 19, 20, 21, 22, 23, 24, 25, 26, 27, 28, 29, 30, 31, 32, 33, 37] [] [0, 3, 9, 10, 11] _ _ (by omega) (by decide) rfl rfl rfl ⟨2, _, rfl, hz1, by decide, rfl, rfl⟩
 ·have hc := hcm.1 (by decide)
  clear hcm
  cbv
  refine br_t hc ?_
  cbv
  refine .idx _ hz (by decide) ?_
  cbv
  refine .most (by decide) (by decide) ?_
  cbv
  exact hnext _ _ 1 [0, 1, 2, 3, 4, 5, 6, 7, 8, 9, 10, 11, 12, 13, 14, 15, 16, 17, 18, 19, 20, 21, 22, 23, 24, 25, 26, 27, 28, 29, 30, 31, 32, 33, 37] [] [0, 3, 9, 10, 11] _ _ (by omega) (by decide) rfl rfl rfl ⟨3, _, rfl, hz1, by decide, rfl, rfl⟩
 ·have hc := hcm.1 (by decide)
  clear hcm
  cbv
  refine br_t hc ?_
  cbv
  refine .idx _ hz (by decide) ?_
  cbv
  refine .most (by decide) (by decide) ?_
  cbv
  exact hnext _ _ 0 [0, 1, 2, 3, 4, 5, 6, 7, 8, 9, 10, 11, 12, 13, 14, 15, 16, 17, 18, 19, 20, 21, 22, 23, 24, 25, 26, 27, 28, 29, 30, 31, 32, 33, 37] [] [0, 3, 9, 10, 11] _ _ (by omega) (by decide) rfl rfl rfl ⟨4, _, rfl, hz1, by decide, rfl, rfl⟩
 ·have hc := hcm.2 rfl
  clear hcm
  cbv
  refine br_f hc ?_
  cbv
  exact hP _ _ [0, 1, 2, 3, 4, 5, 6, 7, 8, 9, 10, 11, 12, 13, 14, 15, 16, 17, 18, 19, 20, 21, 22, 23, 24, 25, 26, 27, 28, 29, 30, 31, 32, 33, 34] [] _ _ (by decide) rfl rfl rfl rfl rfl ⟨rfl, rfl⟩
theorem underU4 (o i : Int) (h0 : 0 ≤ o) (h1 : o ≤ 999999) (g0 : 0 ≤ i) (g1 : i ≤ 999999) (L0 L1 L2 L3 L4 L5 L6 L7 L8 L9 L10 L11 L12 L13 L14 L15 : List (List G)) (ps : List (List PK)) (hF : FIs 4 o i 0 [L0, L1, L2, L3, L4, L5, L6, L7, L8, L9, L10, L11, L12, L13, L14, L15] ps) : LValid P 11 [.c (.ptr 0 (.lit 0) 1 0)] (fabM o i 4 [L0, L1, L2, L3, L4, L5, L6, L7, L8, L9, L10, L11, L12, L13, L14, L15]) (fun v m1 => ∃ t, isN t (under ps).length ∧ v = i64 t ∧ m1 = (fabM o i 4 [L0, L1, L2, L3, L4, L5, L6, L7, L8, L9, L10, L11, L12, L13, L14, L15])) := by
 have hF' := hF
 obtain ⟨p0, r, rfl, e0, k0, l0, hF⟩ := hF.cons2 h1 g1
 obtain ⟨p1, r, rfl, e1, k1, l1, hF⟩ := hF.cons2 h1 g1
 obtain ⟨p2, r, rfl, e2, k2, l2, hF⟩ := hF.cons2 h1 g1
 obtain ⟨p3, r, rfl, e3, k3, l3, hF⟩ := hF.cons2 h1 g1
 obtain ⟨p4, r, rfl, e4, k4, l4, hF⟩ := hF.cons2 h1 g1
 obtain ⟨p5, r, rfl, e5, k5, l5, hF⟩ := hF.cons2 h1 g1
 obtain ⟨p6, r, rfl, e6, k6, l6, hF⟩ := hF.cons2 h1 g1
 obtain ⟨p7, r, rfl, e7, k7, l7, hF⟩ := hF.cons2 h1 g1
 obtain ⟨p8, r, rfl, e8, k8, l8, hF⟩ := hF.cons2 h1 g1
 obtain ⟨p9, r, rfl, e9, k9, l9, hF⟩ := hF.cons2 h1 g1
 obtain ⟨p10, r, rfl, e10, k10, l10, hF⟩ := hF.cons2 h1 g1
 obtain ⟨p11, r, rfl, e11, k11, l11, hF⟩ := hF.cons2 h1 g1
 obtain ⟨p12, r, rfl, e12, k12, l12, hF⟩ := hF.cons2 h1 g1
 obtain ⟨p13, r, rfl, e13, k13, l13, hF⟩ := hF.cons2 h1 g1
 obtain ⟨p14, r, rfl, e14, k14, l14, hF⟩ := hF.cons2 h1 g1
 obtain ⟨p15, r, rfl, e15, k15, l15, hF⟩ := hF.cons2 h1 g1
 obtain rfl := hF.nil
 clear hF
 have h1' : o ≤ 1000000 := Int.le_trans h1 (by decide)
 have g1' : i ≤ 1000000 := Int.le_trans g1 (by decide)
 have hun : sumLen 8 [L0, L2, L4, L6, L8, L10, L12, L14] = (under [p0, p1, p2, p3, p4, p5, p6, p7, p8, p9, p10, p11, p12, p13, p14, p15]).length := (lenTo_is 8 _ _ 0 hF').trans (lenTo_all 8 _ (Nat.le_refl _))
 rw [← hun]
 have hbd : ∀ j, j ≤ 8 → sumLen j [L0, L2, L4, L6, L8, L10, L12, L14] ≤ 100000000 := fun j hj => Nat.le_trans (sumLen_bound [L0, L2, L4, L6, L8, L10, L12, L14] j 1000000 (by simp only [List.forall_mem_cons]; refine ⟨by assumption, by assumption, by assumption, by assumption, by assumption, by assumption, by assumption, by assumption, fun _ h => (by cases h)⟩)) (by omega)
 obtain ⟨I, hI⟩ := ref
 refine fn_sim hI (mo hp) (cc hp c11) fun Post hP => ?_
 cbv
 refine .go [0, 1, 2, 3, 4, 5, 6, 7, 8, 9, 10, 11, 12, 13, 14, 15, 16, 17, 18, 19, 20, 21, 22, 23, 24, 25, 26, 27, 28, 29, 30, 31, 32, 33] [] [] (pools4 hp o i L0 L1 L2 L3 L4 L5 L6 L7 L8 L9 L10 L11 L12 L13 L14 L15) rfl rfl rfl rfl rfl rfl ?_
 rintro v m1 ⟨rfl, rfl⟩
 cbv
 refine .loop_next (fun n ts m => ∃ (j : Nat) (z y : Int), n = 8 - j ∧ isN z j ∧ j ≤ 8 ∧ isN y (sumLen j [L0, L2, L4, L6, L8, L10, L12, L14]) ∧ ts = fr 20 [(0, .one (.c (.ptr 0 (.lit 0) 1 0))), (3, i64 y), (7, .one (.c (.row 34 2 none))), (8, i64 8), (9, i64 z)] ∧ m = (fabM o i 4 [L0, L1, L2, L3, L4, L5, L6, L7, L8, L9, L10, L11, L12, L13, L14, L15]) ++ outB 4)
  8 _ _ [0, 1, 2, 3, 4, 5, 6, 7, 8, 9, 10, 11, 12, 13, 14, 15, 16, 17, 18, 19, 20, 21, 22, 23, 24, 25, 26, 27, 28, 29, 30, 31, 32, 33, 34] [] [0, 3, 7, 8, 9] (by decide) rfl rfl rfl ⟨0, 0, 0, rfl, rfl, Nat.zero_le _, rfl, rfl, rfl⟩ ?_
 rintro next n hnext ts m ⟨j, z, y, hnn, hz, hj, hy, rfl, rfl⟩
 have hz1 : isN (I.bin .add .i64 z 1) (j + 1) := by unfold isN at hz ⊢; rw [hI]; simp only [ints, rBin]; rw [wrap_in] <;> omega
 have hcm : (j < 8 → I.cmp .lss z 8 = true) ∧ (j = 8 → I.cmp .lss z 8 = false) := by
  unfold isN at hz
  rw [hI]
  simp only [ints, rCmp, decide_eq_true_eq, decide_eq_false_iff_not]
  omega
 have hst := fun (L : List (List G)) (x : Int) (hL : [L0, L2, L4, L6, L8, L10, L12, L14][j]? = some L) (hx : x = ((L.length : Nat) : Int)) => sumLen_add hI hy hL hx (hbd (j + 1) (by have := (List.getElem?_eq_some_iff.1 hL).1; simp only [List.length_cons, List.length_nil] at this; omega))
 have hk : Kp [2 + 4 * j, 3 + 4 * j] := ⟨⟩
 have hn1 : j < 8 → 8 - (j + 1) < n := fun h => by omega
 have hcs : j = 0 ∨ j = 1 ∨ j = 2 ∨ j = 3 ∨ j = 4 ∨ j = 5 ∨ j = 6 ∨ j = 7 ∨ j = 8 := by omega
 clear hj hbd hun
 rcases hcs with rfl | rfl | rfl | rfl | rfl | rfl | rfl | rfl | rfl
 rotate_left 8
 ·have hc := hcm.2 rfl
  clear hcm
  cbv
  refine br_f hc ?_
  cbv
  exact hP _ _ [0, 1, 2, 3, 4, 5, 6, 7, 8, 9, 10, 11, 12, 13, 14, 15, 16, 17, 18, 19, 20, 21, 22, 23, 24, 25, 26, 27, 28, 29, 30, 31, 32, 33] [] _ _ (by decide) rfl rfl rfl rfl rfl ⟨_, hy, rfl, rfl⟩
 all_goals
  have hc := hcm.1 (by decide)
  have hn2 := hn1 (by decide)
  clear hcm hn1
  cbv
  refine br_t hc ?_
  cbv
  refine .idx _ hz (by decide) ?_
  cbv
  refine .go (sOf hk) [] [] (p_len hp o _) rfl rfl rfl rfl rfl rfl ?_
  rintro v m1 ⟨x, hx, rfl, rfl⟩
  have hy1 := hst _ x rfl hx
  clear hst hx
  cbv
  exact hnext _ _ _ [0, 1, 2, 3, 4, 5, 6, 7, 8, 9, 10, 11, 12, 13, 14, 15, 16, 17, 18, 19, 20, 21, 22, 23, 24, 25, 26, 27, 28, 29, 30, 31, 32, 33, 34] [] [0, 3, 7, 8, 9] _ _ hn2 (by decide) rfl rfl rfl ⟨_, _, _, rfl, hz1, by decide, hy1, rfl, rfl⟩
set_option maxHeartbeats 16000000 in
theorem find4 (z : Z) (hzr : -9223372036854775808 ≤ z.val ∧ z.val ≤ 9223372036854775807) (o i : Int) (L0 L1 L2 L3 L4 L5 L6 L7 L8 L9 L10 L11 L12 L13 L14 L15 : List (List G)) (l0 : L0.length ≤ 1000000) (l1 : L1.length ≤ 1000000) (l2 : L2.length ≤ 1000000) (l3 : L3.length ≤ 1000000) (l4 : L4.length ≤ 1000000) (l5 : L5.length ≤ 1000000) (l6 : L6.length ≤ 1000000) (l7 : L7.length ≤ 1000000) (l8 : L8.length ≤ 1000000) (l9 : L9.length ≤ 1000000) (l10 : L10.length ≤ 1000000) (l11 : L11.length ≤ 1000000) (l12 : L12.length ≤ 1000000) (l13 : L13.length ≤ 1000000) (l14 : L14.length ≤ 1000000) (l15 : L15.length ≤ 1000000) : LValid P 37 [.c (.ptr 0 (.lit 0) 1 0), .c (.g (.int .i64 z))] (fabM o i 4 [L0, L1, L2, L3, L4, L5, L6, L7, L8, L9, L10, L11, L12, L13, L14, L15])
  (fun v m1 => (∃ (q n : Nat) (x : Int) (L : List (List G)), [L0, L2, L4, L6, L8, L10, L12, L14][q]? = some L ∧ isN x n ∧ z.val = ((sumLen q [L0, L2, L4, L6, L8, L10, L12, L14] + n : Nat) : Int) ∧ n < L.length ∧ v = .tup [.agg [.ptr (2 + 4 * q) (.lit 0) 2 0, .ptr (4 + 4 * q) (.lit 0) 2 0], gi .i64 x, gb true] ∧ m1 = (fabM o i 4 [L0, L1, L2, L3, L4, L5, L6, L7, L8, L9, L10, L11, L12, L13, L14, L15])) ∨ ((z.val < 0 ∨ ((sumLen 8 [L0, L2, L4, L6, L8, L10, L12, L14] : Nat) : Int) ≤ z.val) ∧ v = .tup [.agg [.g .nilp, .g .nilp], gi .i64 0, gb false] ∧ m1 = (fabM o i 4 [L0, L1, L2, L3, L4, L5, L6, L7, L8, L9, L10, L11, L12, L13, L14, L15]))) := by
 refine LValid.sy ?_
 show LValid P 37 [.c (.ptr 0 (.lit 0) 1 0), .c (.g (.int .i64 (.sym z.val)))] _ _
 generalize z.val = z at hzr
 have hbd : ∀ j, j ≤ 8 → sumLen j [L0, L2, L4, L6, L8, L10, L12, L14] ≤ 100000000 := fun j hj => Nat.le_trans (sumLen_bound [L0, L2, L4, L6, L8, L10, L12, L14] j 1000000 (by simp only [List.forall_mem_cons]; refine ⟨by assumption, by assumption, by assumption, by assumption, by assumption, by assumption, by assumption, by assumption, fun _ h => (by cases h)⟩)) (by omega)
 refine LValid.syv (R := fun v m1 => (∃ (q n : Nat) (x : Int) (L : List (List G)), [L0, L2, L4, L6, L8, L10, L12, L14][q]? = some L ∧ isN x n ∧ z = ((sumLen q [L0, L2, L4, L6, L8, L10, L12, L14] + n : Nat) : Int) ∧ n < L.length ∧ v = .tup [.agg [.ptr (2 + 4 * q) (.lit 0) 2 0, .ptr (4 + 4 * q) (.lit 0) 2 0], gi .i64 x, .c (.g (.bool (.lit true)))] ∧ m1 = (fabM o i 4 [L0, L1, L2, L3, L4, L5, L6, L7, L8, L9, L10, L11, L12, L13, L14, L15])) ∨ ((z < 0 ∨ ((sumLen 8 [L0, L2, L4, L6, L8, L10, L12, L14] : Nat) : Int) ≤ z) ∧ v = .tup [.agg [.g .nilp, .g .nilp], .c (.g (.int .i64 (.lit 0))), .c (.g (.bool (.lit false)))] ∧ m1 = (fabM o i 4 [L0, L1, L2, L3, L4, L5, L6, L7, L8, L9, L10, L11, L12, L13, L14, L15]))) ?_
  (fun v m1 h => h.imp (fun ⟨q, n, x, L, h1, h2, h3, h4, h5, h6⟩ => ⟨q, n, x, L, h1, h2, h3, h4, by rw [h5]; rfl, h6⟩) (fun ⟨h1, h2, h3⟩ => ⟨h1, by rw [h2]; rfl, h3⟩))
 obtain ⟨I, hI⟩ := ref
 refine fn_sim hI (mo hp) (cc hp c37) fun Post hP => ?_
 cbv
 refine .go [0, 1, 2, 3, 4, 5, 6, 7, 8, 9, 10, 11, 12, 13, 14, 15, 16, 17, 18, 19, 20, 21, 22, 23, 24, 25, 26, 27, 28, 29, 30, 31, 32, 33] [] [] (pools4 hp o i L0 L1 L2 L3 L4 L5 L6 L7 L8 L9 L10 L11 L12 L13 L14 L15) rfl rfl rfl rfl rfl rfl ?_
 rintro v m1 ⟨rfl, rfl⟩
 cbv
 refine .loop_next (fun n ts m => ∃ (j : Nat) (y a : Int), n = 8 - j ∧ isN y j ∧ j ≤ 8 ∧ isA a z j [L0, L2, L4, L6, L8, L10, L12, L14] ∧ ts = fr 34 [(0, .one (.c (.ptr 0 (.lit 0) 1 0))), (1, i64 a), (4, .one (.c (.ptr 34 (.lit 0) 2 0))), (10, .one (.c (.row 35 2 none))), (11, i64 8), (12, i64 y)] ∧ m = (fabM o i 4 [L0, L1, L2, L3, L4, L5, L6, L7, L8, L9, L10, L11, L12, L13, L14, L15]) ++ [.lit 2 [[.g .nilp, .g .nilp]], .lit 2 (fabR 2 4)])
  8 _ _ [0, 1, 2, 3, 4, 5, 6, 7, 8, 9, 10, 11, 12, 13, 14, 15, 16, 17, 18, 19, 20, 21, 22, 23, 24, 25, 26, 27, 28, 29, 30, 31, 32, 33, 34, 35] [] [0, 1, 4, 10, 11, 12] (by decide) rfl rfl rfl ⟨0, 0, z, rfl, rfl, Nat.zero_le _, isA_nil hzr, rfl, rfl⟩ ?_
 rintro next n hnext ts m ⟨j, y, a, hnn, hy, hj, ha, rfl, rfl⟩
 have hy1 : isN (I.bin .add .i64 y 1) (j + 1) := by unfold isN at hy ⊢; rw [hI]; simp only [ints, rBin]; rw [wrap_in] <;> omega
 have hcm : (j < 8 → I.cmp .lss y 8 = true) ∧ (j = 8 → I.cmp .lss y 8 = false) := by
  unfold isN at hy
  rw [hI]
  simp only [ints, rCmp, decide_eq_true_eq, decide_eq_false_iff_not]
  omega
 have hst := fun (L : List (List G)) (x : Int) (hL : [L0, L2, L4, L6, L8, L10, L12, L14][j]? = some L) (hx : x = ((L.length : Nat) : Int)) => isA_step hzr (L := L) ha hL hx (by rw [← sumLen_step j _ L hL]; exact hbd (j + 1) (by have := (List.getElem?_eq_some_iff.1 hL).1; simp only [List.length_cons, List.length_nil] at this; omega))
 rw [show ints = I from hI.symm] at hst
 have hk : Kp [2 + 4 * j, 3 + 4 * j] := ⟨⟩
 have hn1 : j < 8 → 8 - (j + 1) < n := fun h => by omega
 have hcs : j = 0 ∨ j = 1 ∨ j = 2 ∨ j = 3 ∨ j = 4 ∨ j = 5 ∨ j = 6 ∨ j = 7 ∨ j = 8 := by omega
 clear hj hbd
 rcases hcs with rfl | rfl | rfl | rfl | rfl | rfl | rfl | rfl | rfl
 rotate_left 8
 ·have hc := hcm.2 rfl
  have ha2 := ha.2
  clear hcm ha hst
  cbv
  refine br_f hc ?_
  cbv
  exact hP _ _ [0, 1, 2, 3, 4, 5, 6, 7, 8, 9, 10, 11, 12, 13, 14, 15, 16, 17, 18, 19, 20, 21, 22, 23, 24, 25, 26, 27, 28, 29, 30, 31, 32, 33] [] _ _ (by decide) rfl rfl rfl rfl rfl (.inr ⟨ha2, rfl, rfl⟩)
 all_goals
  have hc := hcm.1 (by decide)
  have hn2 := hn1 (by decide)
  clear hcm ha hn1
  cbv
  refine br_t hc ?_
  cbv
  refine .idx _ hy (by decide) ?_
  cbv
  refine .br (fun g1 => ?_) (fun g1 => ?_)
  ·cbv
   refine .go (sOf hk) [] [] (p_len hp o _) rfl rfl rfl rfl rfl rfl ?_
   rintro v m1 ⟨x, hx, rfl, rfl⟩
   have hst := hst _ x rfl hx
   cbv
   refine .br (fun g2 => ?_) (fun g2 => ?_)
   ·have h9 := hst.1 g1 g2
    obtain ⟨n, q1, q2, q3⟩ := h9
    clear hst hx g1 g2
    cbv
    exact hP _ _ [0, 1, 2, 3, 4, 5, 6, 7, 8, 9, 10, 11, 12, 13, 14, 15, 16, 17, 18, 19, 20, 21, 22, 23, 24, 25, 26, 27, 28, 29, 30, 31, 32, 33] [] _ _ (by decide) rfl rfl rfl rfl rfl (.inl ⟨_, n, _, _, rfl, q1, q2, q3, rfl, rfl⟩)
   ·have q1 := hst.2.1 g1 g2
    clear hst g1 g2
    cbv
    refine .go (sOf hk) [] [] (p_len hp o _) rfl rfl rfl rfl rfl rfl ?_
    rintro v m1 ⟨x', hx', rfl, rfl⟩
    obtain rfl : x' = x := hx'.trans hx.symm
    clear hx hx'
    cbv
    exact hnext _ _ _ [0, 1, 2, 3, 4, 5, 6, 7, 8, 9, 10, 11, 12, 13, 14, 15, 16, 17, 18, 19, 20, 21, 22, 23, 24, 25, 26, 27, 28, 29, 30, 31, 32, 33, 34, 35] [] [0, 1, 4, 10, 11, 12] _ _ hn2 (by decide) rfl rfl rfl ⟨_, _, _, rfl, hy1, by decide, q1, rfl, rfl⟩
  ·cbv
   refine .go (sOf hk) [] [] (p_len hp o _) rfl rfl rfl rfl rfl rfl ?_
   rintro v m1 ⟨x, hx, rfl, rfl⟩
   have q1 := (hst _ x rfl hx).2.2 g1
   clear hst g1 hx
   cbv
   exact hnext _ _ _ [0, 1, 2, 3, 4, 5, 6, 7, 8, 9, 10, 11, 12, 13, 14, 15, 16, 17, 18, 19, 20, 21, 22, 23, 24, 25, 26, 27, 28, 29, 30, 31, 32, 33, 34, 35] [] [0, 1, 4, 10, 11, 12] _ _ hn2 (by decide) rfl rfl rfl ⟨_, _, _, rfl, hy1, by decide, q1, rfl, rfl⟩
set_option maxHeartbeats 16000000 in
theorem packet4 (z : Z) (hzr : -9223372036854775808 ≤ z.val ∧ z.val ≤ 9223372036854775807) (o i : Int) (h0 : 0 ≤ o) (h1 : o ≤ 999999) (g0 : 0 ≤ i) (g1 : i ≤ 999999) (L0 L1 L2 L3 L4 L5 L6 L7 L8 L9 L10 L11 L12 L13 L14 L15 : List (List G)) (ps : List (List PK)) (hF : FIs 4 o i 0 [L0, L1, L2, L3, L4, L5, L6, L7, L8, L9, L10, L11, L12, L13, L14, L15] ps) : LValid P 12 [.c (.ptr 0 (.lit 0) 1 0), .c (.g (.int .i64 z))] (fabM o i 4 [L0, L1, L2, L3, L4, L5, L6, L7, L8, L9, L10, L11, L12, L13, L14, L15])
  (fun v m1 => (∃ (q n : Nat) (p : List PK) (r : PK) (D : List (List G)), (evens ps)[q]? = some p ∧ p[n]? = some r ∧ z.val = ((lenTo q (evens ps) + n : Nat) : Int) ∧ isL .i64 D r.d ∧ v = .tup [r.told (.g (.rows 1 D)), gb true] ∧ m1 = (fabM o i 4 [L0, L1, L2, L3, L4, L5, L6, L7, L8, L9, L10, L11, L12, L13, L14, L15])) ∨ ((z.val < 0 ∨ (((under ps).length : Nat) : Int) ≤ z.val) ∧ v = .tup [PK.nought.told (.g .nil), gb false] ∧ m1 = (fabM o i 4 [L0, L1, L2, L3, L4, L5, L6, L7, L8, L9, L10, L11, L12, L13, L14, L15]))) := by
 have hF' := hF
 obtain ⟨p0, r, rfl, e0, k0, l0, hF⟩ := hF.cons2 h1 g1
 obtain ⟨p1, r, rfl, e1, k1, l1, hF⟩ := hF.cons2 h1 g1
 obtain ⟨p2, r, rfl, e2, k2, l2, hF⟩ := hF.cons2 h1 g1
 obtain ⟨p3, r, rfl, e3, k3, l3, hF⟩ := hF.cons2 h1 g1
 obtain ⟨p4, r, rfl, e4, k4, l4, hF⟩ := hF.cons2 h1 g1
 obtain ⟨p5, r, rfl, e5, k5, l5, hF⟩ := hF.cons2 h1 g1
 obtain ⟨p6, r, rfl, e6, k6, l6, hF⟩ := hF.cons2 h1 g1
 obtain ⟨p7, r, rfl, e7, k7, l7, hF⟩ := hF.cons2 h1 g1
 obtain ⟨p8, r, rfl, e8, k8, l8, hF⟩ := hF.cons2 h1 g1
 obtain ⟨p9, r, rfl, e9, k9, l9, hF⟩ := hF.cons2 h1 g1
 obtain ⟨p10, r, rfl, e10, k10, l10, hF⟩ := hF.cons2 h1 g1
 obtain ⟨p11, r, rfl, e11, k11, l11, hF⟩ := hF.cons2 h1 g1
 obtain ⟨p12, r, rfl, e12, k12, l12, hF⟩ := hF.cons2 h1 g1
 obtain ⟨p13, r, rfl, e13, k13, l13, hF⟩ := hF.cons2 h1 g1
 obtain ⟨p14, r, rfl, e14, k14, l14, hF⟩ := hF.cons2 h1 g1
 obtain ⟨p15, r, rfl, e15, k15, l15, hF⟩ := hF.cons2 h1 g1
 obtain rfl := hF.nil
 clear hF
 have h1' : o ≤ 1000000 := Int.le_trans h1 (by decide)
 have g1' : i ≤ 1000000 := Int.le_trans g1 (by decide)
 refine LValid.sy ?_
 show LValid P 12 [.c (.ptr 0 (.lit 0) 1 0), .c (.g (.int .i64 (.sym z.val)))] _ _
 generalize z.val = z at hzr
 have hun : sumLen 8 [L0, L2, L4, L6, L8, L10, L12, L14] = (under [p0, p1, p2, p3, p4, p5, p6, p7, p8, p9, p10, p11, p12, p13, p14, p15]).length := (lenTo_is 8 _ _ 0 hF').trans (lenTo_all 8 _ (Nat.le_refl _))
 have hto : ∀ q, sumLen q [L0, L2, L4, L6, L8, L10, L12, L14] = lenTo q (evens [p0, p1, p2, p3, p4, p5, p6, p7, p8, p9, p10, p11, p12, p13, p14, p15]) := fun q => lenTo_is q _ _ 0 hF'
 refine LValid.syv (R := fun v m1 => (∃ (q n : Nat) (p : List PK) (r : PK) (D : List (List G)), (evens [p0, p1, p2, p3, p4, p5, p6, p7, p8, p9, p10, p11, p12, p13, p14, p15])[q]? = some p ∧ p[n]? = some r ∧ z = ((lenTo q (evens [p0, p1, p2, p3, p4, p5, p6, p7, p8, p9, p10, p11, p12, p13, p14, p15]) + n : Nat) : Int) ∧ isL .i64 D r.d ∧ v = .tup [r.told (.g (.rows 1 D)), gb true] ∧ m1 = (fabM o i 4 [L0, L1, L2, L3, L4, L5, L6, L7, L8, L9, L10, L11, L12, L13, L14, L15])) ∨ ((z < 0 ∨ (((under [p0, p1, p2, p3, p4, p5, p6, p7, p8, p9, p10, p11, p12, p13, p14, p15]).length : Nat) : Int) ≤ z) ∧ v = .tup [noughtL, .c (.g (.bool (.lit false)))] ∧ m1 = (fabM o i 4 [L0, L1, L2, L3, L4, L5, L6, L7, L8, L9, L10, L11, L12, L13, L14, L15]))) ?_ (fun v m1 h => h.imp (fun h => h.imp fun q h => h.imp fun n h => h.imp fun ps h => h.imp fun r h => h.imp fun D ⟨h1, h2, h3, h4, h5, h6⟩ => ⟨h1, h2, h3, h4, by rw [h5]; rfl, h6⟩) (fun ⟨h1, h2, h3⟩ => ⟨h1, by rw [h2]; rfl, h3⟩))
 obtain ⟨I, hI⟩ := ref
 refine fn_sim hI (mo hp) (cc hp c12) fun Post hP => ?_
 cbv
 refine .go [0, 1, 2, 3, 4, 5, 6, 7, 8, 9, 10, 11, 12, 13, 14, 15, 16, 17, 18, 19, 20, 21, 22, 23, 24, 25, 26, 27, 28, 29, 30, 31, 32, 33] [] [] (find4 hp (.sym z) hzr o i L0 L1 L2 L3 L4 L5 L6 L7 L8 L9 L10 L11 L12 L13 L14 L15 l0 l1 l2 l3 l4 l5 l6 l7 l8 l9 l10 l11 l12 l13 l14 l15) rfl rfl rfl rfl rfl rfl ?_
 rintro v m1 (⟨q, n, x, L, hq, hx, hz, hn, rfl, rfl⟩ | ⟨h, rfl, rfl⟩)
 ·have hz : z = ((sumLen q [L0, L2, L4, L6, L8, L10, L12, L14] + n : Nat) : Int) := hz
  have hz0 : I.cmp .lss z 0 = false := by
   rw [hI, hz]
   simp only [ints, rCmp, decide_eq_false_iff_not]
   omega
  rw [hto] at hz
  have h9 := hF'.at _ _ _ (2 * q) _ (by rw [← evens_get]; exact hq)
  obtain ⟨p, hpq, eP, kP, _⟩ := h9
  rw [← evens_get] at hpq
  have hl : L.length ≤ 1000000 := by
   have hm := List.mem_of_getElem? hq
   simp only [List.mem_cons, List.not_mem_nil, or_false] at hm
   rcases hm with rfl | rfl | rfl | rfl | rfl | rfl | rfl | rfl <;> assumption
  have hcs : q = 0 ∨ q = 1 ∨ q = 2 ∨ q = 3 ∨ q = 4 ∨ q = 5 ∨ q = 6 ∨ q = 7 := by
   have := (List.getElem?_eq_some_iff.1 hq).1
   simp only [List.length_cons, List.length_nil] at this
   omega
  have hk : Kp [2 + 4 * q, 3 + 4 * q] := ⟨⟩
  clear hto hun
  rcases hcs with rfl | rfl | rfl | rfl | rfl | rfl | rfl | rfl
  all_goals
   cases hq
   cbv
   refine br_f (show I.not true = false from by rw [hI]; rfl) ?_
   cbv
   refine br_f hz0 ?_
   cbv
   refine .go (sOf hk) [] [] (p_get hp (.sym x) _ _ p eP (okQ.len kP) hl) rfl rfl rfl rfl rfl rfl ?_
   rintro v m1 (⟨h, _⟩ | ⟨n2, r, D, hn2, hr, hD, rfl, rfl⟩)
   ·exact absurd h (notOut hx (lenIs eP hn))
   ·obtain rfl : n2 = n := isN_eq hn2 hx
    cbv
    exact hP _ _ [0, 1, 2, 3, 4, 5, 6, 7, 8, 9, 10, 11, 12, 13, 14, 15, 16, 17, 18, 19, 20, 21, 22, 23, 24, 25, 26, 27, 28, 29, 30, 31, 32, 33] [36] _ _ (by decide) rfl rfl rfl rfl rfl (.inl ⟨_, n2, p, r, D, hpq, hr, hz, hD, rfl, rfl⟩)
 ·rw [hun] at h
  cbv
  refine br_t (show I.not false = true from by rw [hI]; rfl) ?_
  cbv
  exact hP _ _ [0, 1, 2, 3, 4, 5, 6, 7, 8, 9, 10, 11, 12, 13, 14, 15, 16, 17, 18, 19, 20, 21, 22, 23, 24, 25, 26, 27, 28, 29, 30, 31, 32, 33] [] _ _ (by decide) rfl rfl rfl rfl rfl (.inr ⟨h, rfl, rfl⟩)
set_option maxHeartbeats 16000000 in
theorem takeRequest4 (z : Z) (o i : Int) (h0 : 0 ≤ o) (h1 : o ≤ 999999) (g0 : 0 ≤ i) (g1 : i ≤ 999999) (L0 L1 L2 L3 L4 L5 L6 L7 L8 L9 L10 L11 L12 L13 L14 L15 : List (List G)) (ps : List (List PK)) (hF : FIs 4 o i 0 [L0, L1, L2, L3, L4, L5, L6, L7, L8, L9, L10, L11, L12, L13, L14, L15] ps) : LValid P 42 [.c (.ptr 0 (.lit 0) 1 0), .c (.g (.int .i64 z)), .c (.g (.bool (.lit true)))] (fabM o i 4 [L0, L1, L2, L3, L4, L5, L6, L7, L8, L9, L10, L11, L12, L13, L14, L15])
  (fun v m1 => ∃ (M0 M1 M2 M3 M4 M5 M6 M7 M8 M9 M10 M11 M12 M13 M14 M15 : List (List G)) (ps' : List (List PK)), TakeV 4 ps z.val 1 v ps' ∧ FIs 4 o i 0 [M0, M1, M2, M3, M4, M5, M6, M7, M8, M9, M10, M11, M12, M13, M14, M15] ps' ∧ m1 = fabU o i 4 [M0, M1, M2, M3, M4, M5, M6, M7, M8, M9, M10, M11, M12, M13, M14, M15]) := by
 refine up4 (fun I v ps ⟨r, b, D, h, _⟩ => by subst h; exact ⟨rfl, fun _ _ => rfl⟩) (takeW ?_)
 have hF' := hF
 obtain ⟨p0, r, rfl, e0, k0, l0, hF⟩ := hF.cons2 h1 g1
 obtain ⟨p1, r, rfl, e1, k1, l1, hF⟩ := hF.cons2 h1 g1
 obtain ⟨p2, r, rfl, e2, k2, l2, hF⟩ := hF.cons2 h1 g1
 obtain ⟨p3, r, rfl, e3, k3, l3, hF⟩ := hF.cons2 h1 g1
 obtain ⟨p4, r, rfl, e4, k4, l4, hF⟩ := hF.cons2 h1 g1
 obtain ⟨p5, r, rfl, e5, k5, l5, hF⟩ := hF.cons2 h1 g1
 obtain ⟨p6, r, rfl, e6, k6, l6, hF⟩ := hF.cons2 h1 g1
 obtain ⟨p7, r, rfl, e7, k7, l7, hF⟩ := hF.cons2 h1 g1
 obtain ⟨p8, r, rfl, e8, k8, l8, hF⟩ := hF.cons2 h1 g1
 obtain ⟨p9, r, rfl, e9, k9, l9, hF⟩ := hF.cons2 h1 g1
 obtain ⟨p10, r, rfl, e10, k10, l10, hF⟩ := hF.cons2 h1 g1
 obtain ⟨p11, r, rfl, e11, k11, l11, hF⟩ := hF.cons2 h1 g1
 obtain ⟨p12, r, rfl, e12, k12, l12, hF⟩ := hF.cons2 h1 g1
 obtain ⟨p13, r, rfl, e13, k13, l13, hF⟩ := hF.cons2 h1 g1
 obtain ⟨p14, r, rfl, e14, k14, l14, hF⟩ := hF.cons2 h1 g1
 obtain ⟨p15, r, rfl, e15, k15, l15, hF⟩ := hF.cons2 h1 g1
 obtain rfl := hF.nil
 clear hF
 have h1' : o ≤ 1000000 := Int.le_trans h1 (by decide)
 have g1' : i ≤ 1000000 := Int.le_trans g1 (by decide)
 refine LValid.sy ?_
 show LValid P 42 [.c (.ptr 0 (.lit 0) 1 0), .c (.g (.int .i64 (.sym z.val))), .c (.g (.bool (.sym true)))] _ _
 generalize z.val = z
 obtain ⟨I, hI⟩ := ref
 have hbl : belB z 0 4 = true → ∃ j : Nat, isN z j ∧ j < 4 := fun h => by
  unfold belB at h
  simp only [Bool.and_eq_true, decide_eq_true_eq] at h
  exact ⟨z.toNat, by unfold isN; omega, by omega⟩
 have hno : belB z 0 4 = false → ∀ v, v = .tup [noughtL, .c (.g (.bool (.lit false)))] → TakeW 4 [p0, p1, p2, p3, p4, p5, p6, p7, p8, p9, p10, p11, p12, p13, p14, p15] z 1 v [p0, p1, p2, p3, p4, p5, p6, p7, p8, p9, p10, p11, p12, p13, p14, p15] := fun h v hv => .inl ⟨.inl hv, rfl, .inl h⟩
 refine fn_sim hI (mo hp) (cc hp c42) fun Post hP => ?_
 generalize hbz : belB z 0 4 = bz at hbl hno
 cbv
 refine .go [0, 1, 2, 3, 4, 5, 6, 7, 8, 9, 10, 11, 12, 13, 14, 15, 16, 17, 18, 19, 20, 21, 22, 23, 24, 25, 26, 27, 28, 29, 30, 31, 32, 33] [] [] (is4 hp (.sym z) o i L0 L1 L2 L3 L4 L5 L6 L7 L8 L9 L10 L11 L12 L13 L14 L15) rfl rfl rfl rfl rfl rfl ?_
 rintro v m1 ⟨t1, ht1, rfl, rfl⟩
 have ht1 : t1 = bz := (show t1 = belB z 0 4 from ht1).trans hbz
 cbv
 refine .br (fun g1 => ?_) (fun g1 => ?_)
 ·have h1 : t1 = false := by simpa [hI, ints] using g1
  have h9 := hno (by rw [← ht1, h1])
  cbv
  exact hP _ _ [0, 1, 2, 3, 4, 5, 6, 7, 8, 9, 10, 11, 12, 13, 14, 15, 16, 17, 18, 19, 20, 21, 22, 23, 24, 25, 26, 27, 28, 29, 30, 31, 32, 33] [] _ _ (by decide) rfl rfl rfl rfl rfl ⟨_, h9 _ rfl, .inl ⟨hF', rfl⟩⟩
 have h2 : t1 = true := by simpa [hI, ints] using g1
 obtain ⟨j, hj, hjn⟩ := hbl (by rw [← ht1]; exact h2)
 have htk := fun (p : List PK) (r : PK) (L' : List (List G)) (h1 : [p0, p1, p2, p3, p4, p5, p6, p7, p8, p9, p10, p11, p12, p13, p14, p15][4 * j + 1]? = some p) (h2 : p[0]? = some r) (h3 : isP L' (p.eraseIdx 0)) => take_yes hF' h1 h2 h3
 have hk1 : Kp [2 + 8 * j, 3 + 8 * j, 4 + 8 * j, 5 + 8 * j, 6 + 8 * j, 7 + 8 * j, 8 + 8 * j, 9 + 8 * j] := ⟨⟩
 have hk2 : Kp [4 + 8 * j, 5 + 8 * j] := ⟨⟩
 have hcs : j = 0 ∨ j = 1 ∨ j = 2 ∨ j = 3 := by omega
 clear hjn hbl ht1 g1 hbz hno
 cbv
 rcases hcs with rfl | rfl | rfl | rfl
 all_goals
  refine .idx _ hj (by decide) ?_
  cbv
  refine .go (sOf hk1) [] [] (sort_ hp (.sym true) o i _ _ _ _) rfl rfl rfl rfl rfl rfl ?_
  rintro v m1 ⟨⟨hs, rfl⟩ | ⟨hs, rfl⟩, rfl⟩
  ·have h9 := htk
   cbv
   refine .go (sOf hk2) [] [] (k_take hp _ _ _ (by assumption) (okQ.len (by assumption)) (by assumption)) rfl rfl rfl rfl rfl rfl ?_
   rintro v m1 (⟨h, rfl, rfl⟩ | ⟨r, D, L', hr, hD, hL', rfl, rfl⟩)
   ·subst h
    cbv
    exact hP _ _ [0, 1, 2, 3, 4, 5, 6, 7, 8, 9, 10, 11, 12, 13, 14, 15, 16, 17, 18, 19, 20, 21, 22, 23, 24, 25, 26, 27, 28, 29, 30, 31, 32, 33] [] _ _ (by decide) rfl rfl rfl rfl rfl ⟨_, .inl ⟨.inr rfl, rfl, .inr ⟨_, hj, by decide, rfl⟩⟩, .inl ⟨hF', rfl⟩⟩
   ·have h9 := htk _ _ _ rfl hr hL'
    obtain ⟨p', q1, q2, q3⟩ := h9
    cbv
    exact hP _ _ [0, 1, 2, 3, 4, 5, 6, 7, 8, 9, 10, 11, 12, 13, 14, 15, 16, 17, 18, 19, 20, 21, 22, 23, 24, 25, 26, 27, 28, 29, 30, 31, 32, 33, 35] [36] _ _ (by decide) rfl rfl rfl rfl rfl ⟨_, .inr ⟨r, D, p', _, rfl, hD, hj, by decide, q1, rfl, q3⟩, .inr (.inl ⟨_, L', by decide, q2, rfl⟩)⟩
  ·cases hs
theorem requestU4 (z : Z) (o i : Int) (h0 : 0 ≤ o) (h1 : o ≤ 999999) (g0 : 0 ≤ i) (g1 : i ≤ 999999) (L0 L1 L2 L3 L4 L5 L6 L7 L8 L9 L10 L11 L12 L13 L14 L15 : List (List G)) (ps : List (List PK)) (hF : FIs 4 o i 0 [L0, L1, L2, L3, L4, L5, L6, L7, L8, L9, L10, L11, L12, L13, L14, L15] ps) : LValid P 15 [.c (.ptr 0 (.lit 0) 1 0), .c (.g (.int .i64 z))] (fabM o i 4 [L0, L1, L2, L3, L4, L5, L6, L7, L8, L9, L10, L11, L12, L13, L14, L15])
  (fun v m1 => ∃ (M0 M1 M2 M3 M4 M5 M6 M7 M8 M9 M10 M11 M12 M13 M14 M15 : List (List G)) (ps' : List (List PK)), TakeV 4 ps z.val 1 v ps' ∧ FIs 4 o i 0 [M0, M1, M2, M3, M4, M5, M6, M7, M8, M9, M10, M11, M12, M13, M14, M15] ps' ∧ m1 = fabU o i 4 [M0, M1, M2, M3, M4, M5, M6, M7, M8, M9, M10, M11, M12, M13, M14, M15]) := by
 refine LValid.sy ?_
 show LValid P 15 [.c (.ptr 0 (.lit 0) 1 0), .c (.g (.int .i64 (.sym z.val)))] _ _
 generalize z.val = z
 have htk := takeRequest4 hp (.sym z) o i h0 h1 g0 g1 L0 L1 L2 L3 L4 L5 L6 L7 L8 L9 L10 L11 L12 L13 L14 L15 ps hF
 rw [show (Z.sym z).val = z from rfl] at htk
 have htk := htk.mono (R' := fun v m1 => ∃ (M0 M1 M2 M3 M4 M5 M6 M7 M8 M9 M10 M11 M12 M13 M14 M15 : List (List G)) (ps' : List (List PK)) (r : PK) (b : Bool) (D : List (List G)), v = .tup [r.told (.g (.rows 1 D)), gb b] ∧ (∀ v, v = .tup [r.told (.g (.rows 1 D)), gb b] → TakeV 4 ps z 1 v ps') ∧ FIs 4 o i 0 [M0, M1, M2, M3, M4, M5, M6, M7, M8, M9, M10, M11, M12, M13, M14, M15] ps' ∧ m1 = fabU o i 4 [M0, M1, M2, M3, M4, M5, M6, M7, M8, M9, M10, M11, M12, M13, M14, M15]) (fun v m1 ⟨M0, M1, M2, M3, M4, M5, M6, M7, M8, M9, M10, M11, M12, M13, M14, M15, ps', ⟨r, b, D, h1, h2⟩, h3⟩ => ⟨M0, M1, M2, M3, M4, M5, M6, M7, M8, M9, M10, M11, M12, M13, M14, M15, ps', r, b, D, h1, fun v hv => ⟨r, b, D, hv, h2⟩, h3⟩)
 obtain ⟨I, hI⟩ := ref
 refine fn_sim hI (mo hp) (cc hp c15) fun Post hP => ?_
 generalize TakeV 4 ps z 1 = TV at htk hP
 cbv
 refine .go [0, 1, 2, 3, 4, 5, 6, 7, 8, 9, 10, 11, 12, 13, 14, 15, 16, 17, 18, 19, 20, 21, 22, 23, 24, 25, 26, 27, 28, 29, 30, 31, 32, 33] [] [] htk rfl rfl rfl rfl rfl rfl ?_
 rintro v m1 ⟨M0, M1, M2, M3, M4, M5, M6, M7, M8, M9, M10, M11, M12, M13, M14, M15, ps', r, b, D, rfl, hT, hF1, rfl⟩
 cbv
 exact hP _ _ [0, 1, 2, 3, 4, 5, 6, 7, 8, 9, 10, 11, 12, 13, 14, 15, 16, 17, 18, 19, 20, 21, 22, 23, 24, 25, 26, 27, 28, 29, 30, 31, 32, 33, 35, 36, 37, 38, 39, 40, 41, 42, 43, 44, 45, 46, 47, 48, 49, 50] [] _ _ (by decide) rfl rfl rfl rfl rfl ⟨M0, M1, M2, M3, M4, M5, M6, M7, M8, M9, M10, M11, M12, M13, M14, M15, ps', hT _ rfl, hF1, rfl⟩
set_option maxHeartbeats 16000000 in
theorem takeReply4 (z : Z) (o i : Int) (h0 : 0 ≤ o) (h1 : o ≤ 999999) (g0 : 0 ≤ i) (g1 : i ≤ 999999) (L0 L1 L2 L3 L4 L5 L6 L7 L8 L9 L10 L11 L12 L13 L14 L15 : List (List G)) (ps : List (List PK)) (hF : FIs 4 o i 0 [L0, L1, L2, L3, L4, L5, L6, L7, L8, L9, L10, L11, L12, L13, L14, L15] ps) : LValid P 42 [.c (.ptr 0 (.lit 0) 1 0), .c (.g (.int .i64 z)), .c (.g (.bool (.lit false)))] (fabM o i 4 [L0, L1, L2, L3, L4, L5, L6, L7, L8, L9, L10, L11, L12, L13, L14, L15])
  (fun v m1 => ∃ (M0 M1 M2 M3 M4 M5 M6 M7 M8 M9 M10 M11 M12 M13 M14 M15 : List (List G)) (ps' : List (List PK)), TakeV 4 ps z.val 3 v ps' ∧ FIs 4 o i 0 [M0, M1, M2, M3, M4, M5, M6, M7, M8, M9, M10, M11, M12, M13, M14, M15] ps' ∧ m1 = fabU o i 4 [M0, M1, M2, M3, M4, M5, M6, M7, M8, M9, M10, M11, M12, M13, M14, M15]) := by
 refine up4 (fun I v ps ⟨r, b, D, h, _⟩ => by subst h; exact ⟨rfl, fun _ _ => rfl⟩) (takeW ?_)
 have hF' := hF
 obtain ⟨p0, r, rfl, e0, k0, l0, hF⟩ := hF.cons2 h1 g1
 obtain ⟨p1, r, rfl, e1, k1, l1, hF⟩ := hF.cons2 h1 g1
 obtain ⟨p2, r, rfl, e2, k2, l2, hF⟩ := hF.cons2 h1 g1
 obtain ⟨p3, r, rfl, e3, k3, l3, hF⟩ := hF.cons2 h1 g1
 obtain ⟨p4, r, rfl, e4, k4, l4, hF⟩ := hF.cons2 h1 g1
 obtain ⟨p5, r, rfl, e5, k5, l5, hF⟩ := hF.cons2 h1 g1
 obtain ⟨p6, r, rfl, e6, k6, l6, hF⟩ := hF.cons2 h1 g1
 obtain ⟨p7, r, rfl, e7, k7, l7, hF⟩ := hF.cons2 h1 g1
 obtain ⟨p8, r, rfl, e8, k8, l8, hF⟩ := hF.cons2 h1 g1
 obtain ⟨p9, r, rfl, e9, k9, l9, hF⟩ := hF.cons2 h1 g1
 obtain ⟨p10, r, rfl, e10, k10, l10, hF⟩ := hF.cons2 h1 g1
 obtain ⟨p11, r, rfl, e11, k11, l11, hF⟩ := hF.cons2 h1 g1
 obtain ⟨p12, r, rfl, e12, k12, l12, hF⟩ := hF.cons2 h1 g1
 obtain ⟨p13, r, rfl, e13, k13, l13, hF⟩ := hF.cons2 h1 g1
 obtain ⟨p14, r, rfl, e14, k14, l14, hF⟩ := hF.cons2 h1 g1
 obtain ⟨p15, r, rfl, e15, k15, l15, hF⟩ := hF.cons2 h1 g1
 obtain rfl := hF.nil
 clear hF
 have h1' : o ≤ 1000000 := Int.le_trans h1 (by decide)
 have g1' : i ≤ 1000000 := Int.le_trans g1 (by decide)
 refine LValid.sy ?_
 show LValid P 42 [.c (.ptr 0 (.lit 0) 1 0), .c (.g (.int .i64 (.sym z.val))), .c (.g (.bool (.sym false)))] _ _
 generalize z.val = z
 obtain ⟨I, hI⟩ := ref
 have hbl : belB z 0 4 = true → ∃ j : Nat, isN z j ∧ j < 4 := fun h => by
  unfold belB at h
  simp only [Bool.and_eq_true, decide_eq_true_eq] at h
  exact ⟨z.toNat, by unfold isN; omega, by omega⟩
 have hno : belB z 0 4 = false → ∀ v, v = .tup [noughtL, .c (.g (.bool (.lit false)))] → TakeW 4 [p0, p1, p2, p3, p4, p5, p6, p7, p8, p9, p10, p11, p12, p13, p14, p15] z 3 v [p0, p1, p2, p3, p4, p5, p6, p7, p8, p9, p10, p11, p12, p13, p14, p15] := fun h v hv => .inl ⟨.inl hv, rfl, .inl h⟩
 refine fn_sim hI (mo hp) (cc hp c42) fun Post hP => ?_
 generalize hbz : belB z 0 4 = bz at hbl hno
 cbv
 refine .go [0, 1, 2, 3, 4, 5, 6, 7, 8, 9, 10, 11, 12, 13, 14, 15, 16, 17, 18, 19, 20, 21, 22, 23, 24, 25, 26, 27, 28, 29, 30, 31, 32, 33] [] [] (is4 hp (.sym z) o i L0 L1 L2 L3 L4 L5 L6 L7 L8 L9 L10 L11 L12 L13 L14 L15) rfl rfl rfl rfl rfl rfl ?_
 rintro v m1 ⟨t1, ht1, rfl, rfl⟩
 have ht1 : t1 = bz := (show t1 = belB z 0 4 from ht1).trans hbz
 cbv
 refine .br (fun g1 => ?_) (fun g1 => ?_)
 ·have h1 : t1 = false := by simpa [hI, ints] using g1
  have h9 := hno (by rw [← ht1, h1])
  cbv
  exact hP _ _ [0, 1, 2, 3, 4, 5, 6, 7, 8, 9, 10, 11, 12, 13, 14, 15, 16, 17, 18, 19, 20, 21, 22, 23, 24, 25, 26, 27, 28, 29, 30, 31, 32, 33] [] _ _ (by decide) rfl rfl rfl rfl rfl ⟨_, h9 _ rfl, .inl ⟨hF', rfl⟩⟩
 have h2 : t1 = true := by simpa [hI, ints] using g1
 obtain ⟨j, hj, hjn⟩ := hbl (by rw [← ht1]; exact h2)
 have htk := fun (p : List PK) (r : PK) (L' : List (List G)) (h1 : [p0, p1, p2, p3, p4, p5, p6, p7, p8, p9, p10, p11, p12, p13, p14, p15][4 * j + 3]? = some p) (h2 : p[0]? = some r) (h3 : isP L' (p.eraseIdx 0)) => take_yes hF' h1 h2 h3
 have hk1 : Kp [2 + 8 * j, 3 + 8 * j, 4 + 8 * j, 5 + 8 * j, 6 + 8 * j, 7 + 8 * j, 8 + 8 * j, 9 + 8 * j] := ⟨⟩
 have hk2 : Kp [8 + 8 * j, 9 + 8 * j] := ⟨⟩
 have hcs : j = 0 ∨ j = 1 ∨ j = 2 ∨ j = 3 := by omega
 clear hjn hbl ht1 g1 hbz hno
 cbv
 rcases hcs with rfl | rfl | rfl | rfl
 all_goals
  refine .idx _ hj (by decide) ?_
  cbv
  refine .go (sOf hk1) [] [] (sort_ hp (.sym false) o i _ _ _ _) rfl rfl rfl rfl rfl rfl ?_
  rintro v m1 ⟨⟨hs, rfl⟩ | ⟨hs, rfl⟩, rfl⟩
  ·cases hs
  ·have h9 := htk
   cbv
   refine .go (sOf hk2) [] [] (k_take hp _ _ _ (by assumption) (okQ.len (by assumption)) (by assumption)) rfl rfl rfl rfl rfl rfl ?_
   rintro v m1 (⟨h, rfl, rfl⟩ | ⟨r, D, L', hr, hD, hL', rfl, rfl⟩)
   ·subst h
    cbv
    exact hP _ _ [0, 1, 2, 3, 4, 5, 6, 7, 8, 9, 10, 11, 12, 13, 14, 15, 16, 17, 18, 19, 20, 21, 22, 23, 24, 25, 26, 27, 28, 29, 30, 31, 32, 33] [] _ _ (by decide) rfl rfl rfl rfl rfl ⟨_, .inl ⟨.inr rfl, rfl, .inr ⟨_, hj, by decide, rfl⟩⟩, .inl ⟨hF', rfl⟩⟩
   ·have h9 := htk _ _ _ rfl hr hL'
    obtain ⟨p', q1, q2, q3⟩ := h9
    cbv
    exact hP _ _ [0, 1, 2, 3, 4, 5, 6, 7, 8, 9, 10, 11, 12, 13, 14, 15, 16, 17, 18, 19, 20, 21, 22, 23, 24, 25, 26, 27, 28, 29, 30, 31, 32, 33, 35] [36] _ _ (by decide) rfl rfl rfl rfl rfl ⟨_, .inr ⟨r, D, p', _, rfl, hD, hj, by decide, q1, rfl, q3⟩, .inr (.inl ⟨_, L', by decide, q2, rfl⟩)⟩
theorem replyU4 (z : Z) (o i : Int) (h0 : 0 ≤ o) (h1 : o ≤ 999999) (g0 : 0 ≤ i) (g1 : i ≤ 999999) (L0 L1 L2 L3 L4 L5 L6 L7 L8 L9 L10 L11 L12 L13 L14 L15 : List (List G)) (ps : List (List PK)) (hF : FIs 4 o i 0 [L0, L1, L2, L3, L4, L5, L6, L7, L8, L9, L10, L11, L12, L13, L14, L15] ps) : LValid P 21 [.c (.ptr 0 (.lit 0) 1 0), .c (.g (.int .i64 z))] (fabM o i 4 [L0, L1, L2, L3, L4, L5, L6, L7, L8, L9, L10, L11, L12, L13, L14, L15])
  (fun v m1 => ∃ (M0 M1 M2 M3 M4 M5 M6 M7 M8 M9 M10 M11 M12 M13 M14 M15 : List (List G)) (ps' : List (List PK)), TakeV 4 ps z.val 3 v ps' ∧ FIs 4 o i 0 [M0, M1, M2, M3, M4, M5, M6, M7, M8, M9, M10, M11, M12, M13, M14, M15] ps' ∧ m1 = fabU o i 4 [M0, M1, M2, M3, M4, M5, M6, M7, M8, M9, M10, M11, M12, M13, M14, M15]) := by
 refine LValid.sy ?_
 show LValid P 21 [.c (.ptr 0 (.lit 0) 1 0), .c (.g (.int .i64 (.sym z.val)))] _ _
 generalize z.val = z
 have htk := takeReply4 hp (.sym z) o i h0 h1 g0 g1 L0 L1 L2 L3 L4 L5 L6 L7 L8 L9 L10 L11 L12 L13 L14 L15 ps hF
 rw [show (Z.sym z).val = z from rfl] at htk
 have htk := htk.mono (R' := fun v m1 => ∃ (M0 M1 M2 M3 M4 M5 M6 M7 M8 M9 M10 M11 M12 M13 M14 M15 : List (List G)) (ps' : List (List PK)) (r : PK) (b : Bool) (D : List (List G)), v = .tup [r.told (.g (.rows 1 D)), gb b] ∧ (∀ v, v = .tup [r.told (.g (.rows 1 D)), gb b] → TakeV 4 ps z 3 v ps') ∧ FIs 4 o i 0 [M0, M1, M2, M3, M4, M5, M6, M7, M8, M9, M10, M11, M12, M13, M14, M15] ps' ∧ m1 = fabU o i 4 [M0, M1, M2, M3, M4, M5, M6, M7, M8, M9, M10, M11, M12, M13, M14, M15]) (fun v m1 ⟨M0, M1, M2, M3, M4, M5, M6, M7, M8, M9, M10, M11, M12, M13, M14, M15, ps', ⟨r, b, D, h1, h2⟩, h3⟩ => ⟨M0, M1, M2, M3, M4, M5, M6, M7, M8, M9, M10, M11, M12, M13, M14, M15, ps', r, b, D, h1, fun v hv => ⟨r, b, D, hv, h2⟩, h3⟩)
 obtain ⟨I, hI⟩ := ref
 refine fn_sim hI (mo hp) (cc hp c21) fun Post hP => ?_
 generalize TakeV 4 ps z 3 = TV at htk hP
 cbv
 refine .go [0, 1, 2, 3, 4, 5, 6, 7, 8, 9, 10, 11, 12, 13, 14, 15, 16, 17, 18, 19, 20, 21, 22, 23, 24, 25, 26, 27, 28, 29, 30, 31, 32, 33] [] [] htk rfl rfl rfl rfl rfl rfl ?_
 rintro v m1 ⟨M0, M1, M2, M3, M4, M5, M6, M7, M8, M9, M10, M11, M12, M13, M14, M15, ps', r, b, D, rfl, hT, hF1, rfl⟩
 cbv
 exact hP _ _ [0, 1, 2, 3, 4, 5, 6, 7, 8, 9, 10, 11, 12, 13, 14, 15, 16, 17, 18, 19, 20, 21, 22, 23, 24, 25, 26, 27, 28, 29, 30, 31, 32, 33, 35, 36, 37, 38, 39, 40, 41, 42, 43, 44, 45, 46, 47, 48, 49, 50] [] _ _ (by decide) rfl rfl rfl rfl rfl ⟨M0, M1, M2, M3, M4, M5, M6, M7, M8, M9, M10, M11, M12, M13, M14, M15, ps', hT _ rfl, hF1, rfl⟩
theorem waitingU4 (z : Z) (o i : Int) (h0 : 0 ≤ o) (h1 : o ≤ 999999) (g0 : 0 ≤ i) (g1 : i ≤ 999999) (L0 L1 L2 L3 L4 L5 L6 L7 L8 L9 L10 L11 L12 L13 L14 L15 : List (List G)) (ps : List (List PK)) (hF : FIs 4 o i 0 [L0, L1, L2, L3, L4, L5, L6, L7, L8, L9, L10, L11, L12, L13, L14, L15] ps) : LValid P 20 [.c (.ptr 0 (.lit 0) 1 0), .c (.g (.int .i64 z))] (fabM o i 4 [L0, L1, L2, L3, L4, L5, L6, L7, L8, L9, L10, L11, L12, L13, L14, L15])
  (fun v m1 => ∃ t1 t2 : Int, v = .tup [gi .i64 t1, gi .i64 t2] ∧ m1 = (fabM o i 4 [L0, L1, L2, L3, L4, L5, L6, L7, L8, L9, L10, L11, L12, L13, L14, L15]) ∧ NumR 4 ps z.val 1 t1 ∧ NumR 4 ps z.val 3 t2) := by
 refine LValid.sy ?_
 show LValid P 20 [.c (.ptr 0 (.lit 0) 1 0), .c (.g (.int .i64 (.sym z.val)))] _ _
 generalize z.val = z
 refine LValid.syv (R := fun v m1 => ∃ t1 t2 : Z, v = .tup [.c (.g (.int .i64 t1)), .c (.g (.int .i64 t2))] ∧ m1 = (fabM o i 4 [L0, L1, L2, L3, L4, L5, L6, L7, L8, L9, L10, L11, L12, L13, L14, L15]) ∧ NumR 4 ps z 1 t1.val ∧ NumR 4 ps z 3 t2.val) ?_ (fun v m1 ⟨t1, t2, h1, h2⟩ => ⟨t1.val, t2.val, by rw [h1]; rfl, h2⟩)
 obtain ⟨I, hI⟩ := ref
 have hbl : belB z 0 4 = true → ∃ j : Nat, isN z j ∧ j < 4 := fun h => by
  unfold belB at h
  simp only [Bool.and_eq_true, decide_eq_true_eq] at h
  exact ⟨z.toNat, by unfold isN; omega, by omega⟩
 have hno : belB z 0 4 = false → ∀ k, NumR 4 ps z k 0 := fun h k => .inl ⟨h, rfl⟩
 have hyes := fun (j k : Nat) (hj : isN z j) (hjn : j < 4) (L : List (List G)) (hL : [L0, L1, L2, L3, L4, L5, L6, L7, L8, L9, L10, L11, L12, L13, L14, L15][4 * j + k]? = some L) (x : Int) (hx : isN x L.length) => show NumR 4 ps z k x from by
  obtain ⟨p, q1, q2, _⟩ := hF.at _ _ _ _ _ hL
  exact .inr ⟨j, p, hj, by omega, q1, by rw [← q2.len]; exact hx⟩
 refine fn_sim hI (mo hp) (cc hp c20) fun Post hP => ?_
 generalize NumR 4 ps z = NR at hno hyes hP
 generalize hbz : belB z 0 4 = bz at hbl hno
 cbv
 refine .go [0, 1, 2, 3, 4, 5, 6, 7, 8, 9, 10, 11, 12, 13, 14, 15, 16, 17, 18, 19, 20, 21, 22, 23, 24, 25, 26, 27, 28, 29, 30, 31, 32, 33] [] [] (is4 hp (.sym z) o i L0 L1 L2 L3 L4 L5 L6 L7 L8 L9 L10 L11 L12 L13 L14 L15) rfl rfl rfl rfl rfl rfl ?_
 rintro v m1 ⟨t1, ht1, rfl, rfl⟩
 have ht1 : t1 = bz := (show t1 = belB z 0 4 from ht1).trans hbz
 cbv
 refine .br (fun g1 => ?_) (fun g1 => ?_)
 ·have h1 : t1 = false := by simpa [hI, ints] using g1
  have h9 := hno (by rw [← ht1, h1])
  cbv
  exact hP _ _ [0, 1, 2, 3, 4, 5, 6, 7, 8, 9, 10, 11, 12, 13, 14, 15, 16, 17, 18, 19, 20, 21, 22, 23, 24, 25, 26, 27, 28, 29, 30, 31, 32, 33] [] _ _ (by decide) rfl rfl rfl rfl rfl ⟨.lit 0, .lit 0, rfl, rfl, h9 1, h9 3⟩
 have h2 : t1 = true := by simpa [hI, ints] using g1
 obtain ⟨j, hj, hjn⟩ := hbl (by rw [← ht1]; exact h2)
 have hcs : j = 0 ∨ j = 1 ∨ j = 2 ∨ j = 3 := by omega
 have hy1 := hyes j 1 hj hjn
 have hy3 := hyes j 3 hj hjn
 have hk1 : Kp [4 + 8 * j, 5 + 8 * j] := ⟨⟩
 have hk2 : Kp [8 + 8 * j, 9 + 8 * j] := ⟨⟩
 clear hjn hbl ht1 g1 hbz hno hyes hF
 cbv
 refine .drawn [2, 3, 4, 5, 6, 7, 8, 9, 10, 11, 12, 13, 14, 15, 16, 17, 18, 19, 20, 21, 22, 23, 24, 25, 26, 27, 28, 29, 30, 31, 32, 33] ?_
 cbv
 rcases hcs with rfl | rfl | rfl | rfl
 all_goals
  refine .idx _ hj (by decide) ?_
  cbv
  refine .idx _ hj (by decide) ?_
  cbv
  refine .go (sOf hk1) [] [] (k_len hp _ _) rfl rfl rfl rfl rfl rfl ?_
  rintro v m1 ⟨x1, hx1, rfl, rfl⟩
  cbv
  refine .go (sOf hk2) [] [] (k_len hp _ _) rfl rfl rfl rfl rfl rfl ?_
  rintro v m1 ⟨x2, hx2, rfl, rfl⟩
  cbv
  exact hP _ _ [0, 1, 2, 3, 4, 5, 6, 7, 8, 9, 10, 11, 12, 13, 14, 15, 16, 17, 18, 19, 20, 21, 22, 23, 24, 25, 26, 27, 28, 29, 30, 31, 32, 33] [] _ _ (by decide) rfl rfl rfl rfl rfl ⟨.sym x1, .sym x2, rfl, rfl, hy1 _ rfl x1 hx1, hy3 _ rfl x2 hx2⟩
theorem roomRU4 (tb : BB) (htb : tb.val = true) (z : Z) (o i : Int) (h0 : 0 ≤ o) (h1 : o ≤ 999999) (g0 : 0 ≤ i) (g1 : i ≤ 999999) (L0 L1 L2 L3 L4 L5 L6 L7 L8 L9 L10 L11 L12 L13 L14 L15 : List (List G)) (ps : List (List PK)) (hF : FIs 4 o i 0 [L0, L1, L2, L3, L4, L5, L6, L7, L8, L9, L10, L11, L12, L13, L14, L15] ps) : LValid P 17 [.c (.ptr 0 (.lit 0) 1 0), .c (.g (.int .i64 z)), .c (.g (.bool tb))] (fabM o i 4 [L0, L1, L2, L3, L4, L5, L6, L7, L8, L9, L10, L11, L12, L13, L14, L15])
  (fun v m1 => ∃ t : Int, v = i64 t ∧ m1 = (fabM o i 4 [L0, L1, L2, L3, L4, L5, L6, L7, L8, L9, L10, L11, L12, L13, L14, L15]) ∧ ((belB z.val 0 4 = false ∧ t = 0) ∨ ∃ (j : Nat) (p : List PK), isN z.val j ∧ (j : Int) < 4 ∧ ps[4 * j + 0]? = some p ∧ t = o - (p.length : Int))) := by
 have hF' := hF
 obtain ⟨p0, r, rfl, e0, k0, l0, hF⟩ := hF.cons2 h1 g1
 obtain ⟨p1, r, rfl, e1, k1, l1, hF⟩ := hF.cons2 h1 g1
 obtain ⟨p2, r, rfl, e2, k2, l2, hF⟩ := hF.cons2 h1 g1
 obtain ⟨p3, r, rfl, e3, k3, l3, hF⟩ := hF.cons2 h1 g1
 obtain ⟨p4, r, rfl, e4, k4, l4, hF⟩ := hF.cons2 h1 g1
 obtain ⟨p5, r, rfl, e5, k5, l5, hF⟩ := hF.cons2 h1 g1
 obtain ⟨p6, r, rfl, e6, k6, l6, hF⟩ := hF.cons2 h1 g1
 obtain ⟨p7, r, rfl, e7, k7, l7, hF⟩ := hF.cons2 h1 g1
 obtain ⟨p8, r, rfl, e8, k8, l8, hF⟩ := hF.cons2 h1 g1
 obtain ⟨p9, r, rfl, e9, k9, l9, hF⟩ := hF.cons2 h1 g1
 obtain ⟨p10, r, rfl, e10, k10, l10, hF⟩ := hF.cons2 h1 g1
 obtain ⟨p11, r, rfl, e11, k11, l11, hF⟩ := hF.cons2 h1 g1
 obtain ⟨p12, r, rfl, e12, k12, l12, hF⟩ := hF.cons2 h1 g1
 obtain ⟨p13, r, rfl, e13, k13, l13, hF⟩ := hF.cons2 h1 g1
 obtain ⟨p14, r, rfl, e14, k14, l14, hF⟩ := hF.cons2 h1 g1
 obtain ⟨p15, r, rfl, e15, k15, l15, hF⟩ := hF.cons2 h1 g1
 obtain rfl := hF.nil
 clear hF
 have h1' : o ≤ 1000000 := Int.le_trans h1 (by decide)
 have g1' : i ≤ 1000000 := Int.le_trans g1 (by decide)
 refine LValid.sy ?_
 show LValid P 17 [.c (.ptr 0 (.lit 0) 1 0), .c (.g (.int .i64 (.sym z.val))), .c (.g (.bool (.sym tb.val)))] _ _
 rw [htb]
 generalize z.val = z
 refine LValid.syv (R := fun v m1 => ∃ t : Z, v = .one (.c (.g (.int .i64 t))) ∧ m1 = (fabM o i 4 [L0, L1, L2, L3, L4, L5, L6, L7, L8, L9, L10, L11, L12, L13, L14, L15]) ∧ ((belB z 0 4 = false ∧ t.val = 0) ∨ ∃ (j : Nat) (p : List PK), isN z j ∧ (j : Int) < 4 ∧ [p0, p1, p2, p3, p4, p5, p6, p7, p8, p9, p10, p11, p12, p13, p14, p15][4 * j + 0]? = some p ∧ t.val = o - (p.length : Int))) ?_ (fun v m1 ⟨t, h1, h2⟩ => ⟨t.val, by rw [h1]; rfl, h2⟩)
 obtain ⟨I, hI⟩ := ref
 have hbl : belB z 0 4 = true → ∃ j : Nat, isN z j ∧ j < 4 := fun h => by
  unfold belB at h
  simp only [Bool.and_eq_true, decide_eq_true_eq] at h
  exact ⟨z.toNat, by unfold isN; omega, by omega⟩
 have hyes := fun (j : Nat) (hj : isN z j) (hjn : j < 4) (L : List (List G)) (hL : [L0, L1, L2, L3, L4, L5, L6, L7, L8, L9, L10, L11, L12, L13, L14, L15][4 * j + 0]? = some L) (x : Int) (hx : x = o - (L.length : Int)) => show ((belB z 0 4 = false ∧ x = 0) ∨ ∃ (j : Nat) (p : List PK), isN z j ∧ (j : Int) < 4 ∧ [p0, p1, p2, p3, p4, p5, p6, p7, p8, p9, p10, p11, p12, p13, p14, p15][4 * j + 0]? = some p ∧ x = o - (p.length : Int)) from by
  obtain ⟨p, q1, q2, _⟩ := hF'.at _ _ _ _ _ hL
  exact .inr ⟨j, p, hj, by omega, q1, by rw [← q2.len]; exact hx⟩
 refine fn_sim hI (mo hp) (cc hp c17) fun Post hP => ?_
 generalize hbz : belB z 0 4 = bz at hbl hP hyes
 cbv
 refine .go [0, 1, 2, 3, 4, 5, 6, 7, 8, 9, 10, 11, 12, 13, 14, 15, 16, 17, 18, 19, 20, 21, 22, 23, 24, 25, 26, 27, 28, 29, 30, 31, 32, 33] [] [] (is4 hp (.sym z) o i L0 L1 L2 L3 L4 L5 L6 L7 L8 L9 L10 L11 L12 L13 L14 L15) rfl rfl rfl rfl rfl rfl ?_
 rintro v m1 ⟨t1, ht1, rfl, rfl⟩
 have ht1 : t1 = bz := (show t1 = belB z 0 4 from ht1).trans hbz
 cbv
 refine .br (fun g1 => ?_) (fun g1 => ?_)
 ·have h1 : t1 = false := by simpa [hI, ints] using g1
  cbv
  exact hP _ _ [0, 1, 2, 3, 4, 5, 6, 7, 8, 9, 10, 11, 12, 13, 14, 15, 16, 17, 18, 19, 20, 21, 22, 23, 24, 25, 26, 27, 28, 29, 30, 31, 32, 33] [] _ _ (by decide) rfl rfl rfl rfl rfl ⟨.lit 0, rfl, rfl, .inl ⟨by rw [← ht1, h1], rfl⟩⟩
 have h2 : t1 = true := by simpa [hI, ints] using g1
 obtain ⟨j, hj, hjn⟩ := hbl (by rw [← ht1]; exact h2)
 have hcs : j = 0 ∨ j = 1 ∨ j = 2 ∨ j = 3 := by omega
 have hyes := hyes j hj hjn
 have hk1 : Kp [2 + 8 * j, 3 + 8 * j, 4 + 8 * j, 5 + 8 * j, 6 + 8 * j, 7 + 8 * j, 8 + 8 * j, 9 + 8 * j] := ⟨⟩
 have hk2 : Kp [2 + 8 * j, 3 + 8 * j] := ⟨⟩
 clear hjn hbl ht1 g1 hbz
 cbv
 rcases hcs with rfl | rfl | rfl | rfl
 all_goals
  refine .idx _ hj (by decide) ?_
  cbv
  refine .go (sOf hk1) [] [] (sort_ hp (.sym true) o i _ _ _ _) rfl rfl rfl rfl rfl rfl ?_
  rintro v m1 ⟨⟨hs, rfl⟩ | ⟨hs, rfl⟩, rfl⟩
  ·cbv
   refine .go (sOf hk2) [] [] (p_room hp o _ h0 h1' (by assumption)) rfl rfl rfl rfl rfl rfl ?_
   rintro v m1 ⟨x1, hx1, rfl, rfl⟩
   cbv
   exact hP _ _ [0, 1, 2, 3, 4, 5, 6, 7, 8, 9, 10, 11, 12, 13, 14, 15, 16, 17, 18, 19, 20, 21, 22, 23, 24, 25, 26, 27, 28, 29, 30, 31, 32, 33] [] _ _ (by decide) rfl rfl rfl rfl rfl ⟨.sym x1, rfl, rfl, hyes _ rfl x1 hx1⟩
  ·cases hs
theorem roomAU4 (tb : BB) (htb : tb.val = false) (z : Z) (o i : Int) (h0 : 0 ≤ o) (h1 : o ≤ 999999) (g0 : 0 ≤ i) (g1 : i ≤ 999999) (L0 L1 L2 L3 L4 L5 L6 L7 L8 L9 L10 L11 L12 L13 L14 L15 : List (List G)) (ps : List (List PK)) (hF : FIs 4 o i 0 [L0, L1, L2, L3, L4, L5, L6, L7, L8, L9, L10, L11, L12, L13, L14, L15] ps) : LValid P 17 [.c (.ptr 0 (.lit 0) 1 0), .c (.g (.int .i64 z)), .c (.g (.bool tb))] (fabM o i 4 [L0, L1, L2, L3, L4, L5, L6, L7, L8, L9, L10, L11, L12, L13, L14, L15])
  (fun v m1 => ∃ t : Int, v = i64 t ∧ m1 = (fabM o i 4 [L0, L1, L2, L3, L4, L5, L6, L7, L8, L9, L10, L11, L12, L13, L14, L15]) ∧ ((belB z.val 0 4 = false ∧ t = 0) ∨ ∃ (j : Nat) (p : List PK), isN z.val j ∧ (j : Int) < 4 ∧ ps[4 * j + 2]? = some p ∧ t = o - (p.length : Int))) := by
 have hF' := hF
 obtain ⟨p0, r, rfl, e0, k0, l0, hF⟩ := hF.cons2 h1 g1
 obtain ⟨p1, r, rfl, e1, k1, l1, hF⟩ := hF.cons2 h1 g1
 obtain ⟨p2, r, rfl, e2, k2, l2, hF⟩ := hF.cons2 h1 g1
 obtain ⟨p3, r, rfl, e3, k3, l3, hF⟩ := hF.cons2 h1 g1
 obtain ⟨p4, r, rfl, e4, k4, l4, hF⟩ := hF.cons2 h1 g1
 obtain ⟨p5, r, rfl, e5, k5, l5, hF⟩ := hF.cons2 h1 g1
 obtain ⟨p6, r, rfl, e6, k6, l6, hF⟩ := hF.cons2 h1 g1
 obtain ⟨p7, r, rfl, e7, k7, l7, hF⟩ := hF.cons2 h1 g1
 obtain ⟨p8, r, rfl, e8, k8, l8, hF⟩ := hF.cons2 h1 g1
 obtain ⟨p9, r, rfl, e9, k9, l9, hF⟩ := hF.cons2 h1 g1
 obtain ⟨p10, r, rfl, e10, k10, l10, hF⟩ := hF.cons2 h1 g1
 obtain ⟨p11, r, rfl, e11, k11, l11, hF⟩ := hF.cons2 h1 g1
 obtain ⟨p12, r, rfl, e12, k12, l12, hF⟩ := hF.cons2 h1 g1
 obtain ⟨p13, r, rfl, e13, k13, l13, hF⟩ := hF.cons2 h1 g1
 obtain ⟨p14, r, rfl, e14, k14, l14, hF⟩ := hF.cons2 h1 g1
 obtain ⟨p15, r, rfl, e15, k15, l15, hF⟩ := hF.cons2 h1 g1
 obtain rfl := hF.nil
 clear hF
 have h1' : o ≤ 1000000 := Int.le_trans h1 (by decide)
 have g1' : i ≤ 1000000 := Int.le_trans g1 (by decide)
 refine LValid.sy ?_
 show LValid P 17 [.c (.ptr 0 (.lit 0) 1 0), .c (.g (.int .i64 (.sym z.val))), .c (.g (.bool (.sym tb.val)))] _ _
 rw [htb]
 generalize z.val = z
 refine LValid.syv (R := fun v m1 => ∃ t : Z, v = .one (.c (.g (.int .i64 t))) ∧ m1 = (fabM o i 4 [L0, L1, L2, L3, L4, L5, L6, L7, L8, L9, L10, L11, L12, L13, L14, L15]) ∧ ((belB z 0 4 = false ∧ t.val = 0) ∨ ∃ (j : Nat) (p : List PK), isN z j ∧ (j : Int) < 4 ∧ [p0, p1, p2, p3, p4, p5, p6, p7, p8, p9, p10, p11, p12, p13, p14, p15][4 * j + 2]? = some p ∧ t.val = o - (p.length : Int))) ?_ (fun v m1 ⟨t, h1, h2⟩ => ⟨t.val, by rw [h1]; rfl, h2⟩)
 obtain ⟨I, hI⟩ := ref
 have hbl : belB z 0 4 = true → ∃ j : Nat, isN z j ∧ j < 4 := fun h => by
  unfold belB at h
  simp only [Bool.and_eq_true, decide_eq_true_eq] at h
  exact ⟨z.toNat, by unfold isN; omega, by omega⟩
 have hyes := fun (j : Nat) (hj : isN z j) (hjn : j < 4) (L : List (List G)) (hL : [L0, L1, L2, L3, L4, L5, L6, L7, L8, L9, L10, L11, L12, L13, L14, L15][4 * j + 2]? = some L) (x : Int) (hx : x = o - (L.length : Int)) => show ((belB z 0 4 = false ∧ x = 0) ∨ ∃ (j : Nat) (p : List PK), isN z j ∧ (j : Int) < 4 ∧ [p0, p1, p2, p3, p4, p5, p6, p7, p8, p9, p10, p11, p12, p13, p14, p15][4 * j + 2]? = some p ∧ x = o - (p.length : Int)) from by
  obtain ⟨p, q1, q2, _⟩ := hF'.at _ _ _ _ _ hL
  exact .inr ⟨j, p, hj, by omega, q1, by rw [← q2.len]; exact hx⟩
 refine fn_sim hI (mo hp) (cc hp c17) fun Post hP => ?_
 generalize hbz : belB z 0 4 = bz at hbl hP hyes
 cbv
 refine .go [0, 1, 2, 3, 4, 5, 6, 7, 8, 9, 10, 11, 12, 13, 14, 15, 16, 17, 18, 19, 20, 21, 22, 23, 24, 25, 26, 27, 28, 29, 30, 31, 32, 33] [] [] (is4 hp (.sym z) o i L0 L1 L2 L3 L4 L5 L6 L7 L8 L9 L10 L11 L12 L13 L14 L15) rfl rfl rfl rfl rfl rfl ?_
 rintro v m1 ⟨t1, ht1, rfl, rfl⟩
 have ht1 : t1 = bz := (show t1 = belB z 0 4 from ht1).trans hbz
 cbv
 refine .br (fun g1 => ?_) (fun g1 => ?_)
 ·have h1 : t1 = false := by simpa [hI, ints] using g1
  cbv
  exact hP _ _ [0, 1, 2, 3, 4, 5, 6, 7, 8, 9, 10, 11, 12, 13, 14, 15, 16, 17, 18, 19, 20, 21, 22, 23, 24, 25, 26, 27, 28, 29, 30, 31, 32, 33] [] _ _ (by decide) rfl rfl rfl rfl rfl ⟨.lit 0, rfl, rfl, .inl ⟨by rw [← ht1, h1], rfl⟩⟩
 have h2 : t1 = true := by simpa [hI, ints] using g1
 obtain ⟨j, hj, hjn⟩ := hbl (by rw [← ht1]; exact h2)
 have hcs : j = 0 ∨ j = 1 ∨ j = 2 ∨ j = 3 := by omega
 have hyes := hyes j hj hjn
 have hk1 : Kp [2 + 8 * j, 3 + 8 * j, 4 + 8 * j, 5 + 8 * j, 6 + 8 * j, 7 + 8 * j, 8 + 8 * j, 9 + 8 * j] := ⟨⟩
 have hk2 : Kp [6 + 8 * j, 7 + 8 * j] := ⟨⟩
 clear hjn hbl ht1 g1 hbz
 cbv
 rcases hcs with rfl | rfl | rfl | rfl
 all_goals
  refine .idx _ hj (by decide) ?_
  cbv
  refine .go (sOf hk1) [] [] (sort_ hp (.sym false) o i _ _ _ _) rfl rfl rfl rfl rfl rfl ?_
  rintro v m1 ⟨⟨hs, rfl⟩ | ⟨hs, rfl⟩, rfl⟩
  ·cases hs
  ·cbv
   refine .go (sOf hk2) [] [] (p_room hp o _ h0 h1' (by assumption)) rfl rfl rfl rfl rfl rfl ?_
   rintro v m1 ⟨x1, hx1, rfl, rfl⟩
   cbv
   exact hP _ _ [0, 1, 2, 3, 4, 5, 6, 7, 8, 9, 10, 11, 12, 13, 14, 15, 16, 17, 18, 19, 20, 21, 22, 23, 24, 25, 26, 27, 28, 29, 30, 31, 32, 33] [] _ _ (by decide) rfl rfl rfl rfl rfl ⟨.sym x1, rfl, rfl, hyes _ rfl x1 hx1⟩
set_option maxHeartbeats 64000000 in
theorem del4 (z : Z) (hzr : -9223372036854775808 ≤ z.val ∧ z.val ≤ 9223372036854775807) (bz : Z) (hb : -9223372036854775808 ≤ bz.val ∧ bz.val ≤ 9223372036854775807) (mz : Z) (mask : BitVec 16) (hm : mz.val = w16 mask) (o i : Int) (h0 : 0 ≤ o) (h1 : o ≤ 999999) (g0 : 0 ≤ i) (g1 : i ≤ 999999) (L0 L1 L2 L3 L4 L5 L6 L7 L8 L9 L10 L11 L12 L13 L14 L15 : List (List G)) (ps : List (List PK)) (hF : FIs 4 o i 0 [L0, L1, L2, L3, L4, L5, L6, L7, L8, L9, L10, L11, L12, L13, L14, L15] ps) : LValid P 14 [.c (.ptr 0 (.lit 0) 1 0), .c (.g (.int .i64 z)), .c (.g (.int .i64 bz)), .c (.g (.int .u16 mz))] (fabM o i 4 [L0, L1, L2, L3, L4, L5, L6, L7, L8, L9, L10, L11, L12, L13, L14, L15])
  (fun v m1 => ∃ ps', (∃ t, v = i64 t ∧ DelR i ps z.val bz.val mask t ps') ∧ Mv 4 4 o i [L0, L1, L2, L3, L4, L5, L6, L7, L8, L9, L10, L11, L12, L13, L14, L15] ps' m1) := by
 have hpk := fun (z : Int) (hzr : -9223372036854775808 ≤ z ∧ z ≤ 9223372036854775807) => packet4 hp (.sym z) hzr o i h0 h1 g0 g1 L0 L1 L2 L3 L4 L5 L6 L7 L8 L9 L10 L11 L12 L13 L14 L15 ps hF
 have hF' := hF
 obtain ⟨p0, r, rfl, e0, k0, l0, hF⟩ := hF.cons2 h1 g1
 obtain ⟨p1, r, rfl, e1, k1, l1, hF⟩ := hF.cons2 h1 g1
 obtain ⟨p2, r, rfl, e2, k2, l2, hF⟩ := hF.cons2 h1 g1
 obtain ⟨p3, r, rfl, e3, k3, l3, hF⟩ := hF.cons2 h1 g1
 obtain ⟨p4, r, rfl, e4, k4, l4, hF⟩ := hF.cons2 h1 g1
 obtain ⟨p5, r, rfl, e5, k5, l5, hF⟩ := hF.cons2 h1 g1
 obtain ⟨p6, r, rfl, e6, k6, l6, hF⟩ := hF.cons2 h1 g1
 obtain ⟨p7, r, rfl, e7, k7, l7, hF⟩ := hF.cons2 h1 g1
 obtain ⟨p8, r, rfl, e8, k8, l8, hF⟩ := hF.cons2 h1 g1
 obtain ⟨p9, r, rfl, e9, k9, l9, hF⟩ := hF.cons2 h1 g1
 obtain ⟨p10, r, rfl, e10, k10, l10, hF⟩ := hF.cons2 h1 g1
 obtain ⟨p11, r, rfl, e11, k11, l11, hF⟩ := hF.cons2 h1 g1
 obtain ⟨p12, r, rfl, e12, k12, l12, hF⟩ := hF.cons2 h1 g1
 obtain ⟨p13, r, rfl, e13, k13, l13, hF⟩ := hF.cons2 h1 g1
 obtain ⟨p14, r, rfl, e14, k14, l14, hF⟩ := hF.cons2 h1 g1
 obtain ⟨p15, r, rfl, e15, k15, l15, hF⟩ := hF.cons2 h1 g1
 obtain rfl := hF.nil
 clear hF
 have h1' : o ≤ 1000000 := Int.le_trans h1 (by decide)
 have g1' : i ≤ 1000000 := Int.le_trans g1 (by decide)
 refine LValid.sy ?_
 show LValid P 14 [.c (.ptr 0 (.lit 0) 1 0), .c (.g (.int .i64 (.sym z.val))), gi .i64 bz.val, gi .u16 mz.val] _ _
 generalize z.val = z at hzr
 generalize bz.val = bit at hb
 generalize mz.val = qm at hm
 refine LValid.syv (R := fun v m1 => ∃ ps', (∃ t : Z, v = .one (.c (.g (.int .i64 t))) ∧ DelR i [p0, p1, p2, p3, p4, p5, p6, p7, p8, p9, p10, p11, p12, p13, p14, p15] z bit mask t.val ps') ∧ Mv 4 4 o i [L0, L1, L2, L3, L4, L5, L6, L7, L8, L9, L10, L11, L12, L13, L14, L15] ps' m1) ?_ (fun v m1 ⟨ps', ⟨t, h1, h2⟩, h3⟩ => ⟨ps', ⟨t.val, by rw [h1]; rfl, h2⟩, h3⟩)
 obtain ⟨I, hI⟩ := ref
 have hun : sumLen 8 [L0, L2, L4, L6, L8, L10, L12, L14] = (under [p0, p1, p2, p3, p4, p5, p6, p7, p8, p9, p10, p11, p12, p13, p14, p15]).length := (lenTo_is 8 _ _ 0 hF').trans (lenTo_all 8 _ (Nat.le_refl _))
 have hto : ∀ q, sumLen q [L0, L2, L4, L6, L8, L10, L12, L14] = lenTo q (evens [p0, p1, p2, p3, p4, p5, p6, p7, p8, p9, p10, p11, p12, p13, p14, p15]) := fun q => lenTo_is q _ _ 0 hF'
 have hpk := hpk z hzr
 refine fn_sim hI (mo hp) (cc hp c14) fun Post hP => ?_
 have hno : (z < 0 ∨ (((under [p0, p1, p2, p3, p4, p5, p6, p7, p8, p9, p10, p11, p12, p13, p14, p15]).length : Nat) : Int) ≤ z) → DelR i [p0, p1, p2, p3, p4, p5, p6, p7, p8, p9, p10, p11, p12, p13, p14, p15] z bit mask 3 [p0, p1, p2, p3, p4, p5, p6, p7, p8, p9, p10, p11, p12, p13, p14, p15] := fun h => .inl ⟨rfl, h, rfl⟩
 cbv
 refine .go [0, 1, 2, 3, 4, 5, 6, 7, 8, 9, 10, 11, 12, 13, 14, 15, 16, 17, 18, 19, 20, 21, 22, 23, 24, 25, 26, 27, 28, 29, 30, 31, 32, 33] [] [] hpk rfl rfl rfl rfl rfl rfl ?_
 rintro v m1 (⟨q, n, ps', r, D, hq, hr, hz, hD, rfl, rfl⟩ | ⟨h, rfl, rfl⟩)
 rotate_left
 ·have h9 := hno h
  cbv
  refine br_t (show I.not false = true from by rw [hI]; rfl) ?_
  cbv
  exact hP _ _ [0, 1, 2, 3, 4, 5, 6, 7, 8, 9, 10, 11, 12, 13, 14, 15, 16, 17, 18, 19, 20, 21, 22, 23, 24, 25, 26, 27, 28, 29, 30, 31, 32, 33] [] _ _ (by decide) rfl rfl rfl rfl rfl ⟨_, ⟨.lit 3, rfl, h9⟩, .inl ⟨hF', rfl⟩⟩
 have h9 := hF'.get _ _ _ (2 * q) _ (by rw [← evens_get]; exact hq)
 obtain ⟨La, hLa, hPa, hok, _⟩ := h9
 have hLa : [L0, L2, L4, L6, L8, L10, L12, L14][q]? = some La := (evens_get [L0, L1, L2, L3, L4, L5, L6, L7, L8, L9, L10, L11, L12, L13, L14, L15] q).trans hLa
 have hla : La.length ≤ 1000000 := by
  have hm := List.mem_of_getElem? hLa
  simp only [List.mem_cons, List.not_mem_nil, or_false] at hm
  rcases hm with rfl | rfl | rfl | rfl | rfl | rfl | rfl | rfl <;> assumption
 have hcs : q = 0 ∨ q = 1 ∨ q = 2 ∨ q = 3 ∨ q = 4 ∨ q = 5 ∨ q = 6 ∨ q = 7 := by
  have := (List.getElem?_eq_some_iff.1 hLa).1
  simp only [List.length_cons, List.length_nil] at this
  omega
 have hz : z = ((lenTo q (evens [p0, p1, p2, p3, p4, p5, p6, p7, p8, p9, p10, p11, p12, p13, p14, p15]) + n : Nat) : Int) := hz
 have hzs : z = ((sumLen q [L0, L2, L4, L6, L8, L10, L12, L14] + n : Nat) : Int) := by rw [hto]; exact hz
 have hna : n < La.length := by rw [hPa.len]; exact (List.getElem?_eq_some_iff.1 hr).1
 have huni : ∀ (q2 n2 : Nat) (L : List (List G)), [L0, L2, L4, L6, L8, L10, L12, L14][q2]? = some L → z = ((sumLen q2 [L0, L2, L4, L6, L8, L10, L12, L14] + n2 : Nat) : Int) → n2 < L.length → q = q2 ∧ n = n2 := fun q2 n2 L u1 u2 u3 => sumLen_uniq _ _ _ _ _ _ _ hLa u1 hna u3 (by rw [hzs] at u2; exact Int.ofNat.inj u2)
 have hbig : ¬ (z < 0 ∨ ((sumLen 8 [L0, L2, L4, L6, L8, L10, L12, L14] : Nat) : Int) ≤ z) := sumLen_big hzs hLa hna (show [L0, L2, L4, L6, L8, L10, L12, L14].length = 8 from rfl)
 have h9 := hok r (List.mem_of_getElem? hr)
 obtain ⟨hsd, hdy⟩ := h9
 have hd1 := okQ.len hok _ (List.mem_of_getElem? hr)
 have hspoil : wireB r bit mask = false → DelR i [p0, p1, p2, p3, p4, p5, p6, p7, p8, p9, p10, p11, p12, p13, p14, p15] z bit mask 2 [p0, p1, p2, p3, p4, p5, p6, p7, p8, p9, p10, p11, p12, p13, p14, p15] := fun hw => .inr ⟨q, n, ps', r, hq, hr, hz, .inl ⟨rfl, hw, rfl⟩⟩
 have hdl := (place_lt (n := 4) (N := 4) rfl hsd).2
 have hfull : wireB r bit mask = true → ∀ (c : Nat) (L : List (List G)), c = dest r → [L0, L1, L2, L3, L4, L5, L6, L7, L8, L9, L10, L11, L12, L13, L14, L15][c]? = some L → (L.length : Int) = roomQ i r → DelR i [p0, p1, p2, p3, p4, p5, p6, p7, p8, p9, p10, p11, p12, p13, p14, p15] z bit mask 5 [p0, p1, p2, p3, p4, p5, p6, p7, p8, p9, p10, p11, p12, p13, p14, p15] := fun hw c L hc hL h6 => by
  obtain ⟨pq, q1, q2, _⟩ := hF'.at _ _ _ _ _ hL
  exact .inr ⟨q, n, ps', r, hq, hr, hz, .inr ⟨hw, pq, hc ▸ q1, .inl ⟨rfl, by rw [← q2.len]; exact h6, rfl⟩⟩⟩
 have hput2 : wireB r bit mask = true → ∀ (c : Nat) (L X1 : List (List G)), c = dest r → [L0, L1, L2, L3, L4, L5, L6, L7, L8, L9, L10, L11, L12, L13, L14, L15][c]? = some L → (L.length : Int) ≠ roomQ i r → X1 = L ++ [r.row (nrow .i64 r.d)] → ∃ pq, isP X1 (pq ++ [r]) ∧ X1.length ≤ 1000000 ∧
   ∀ X2, isP X2 (ps'.eraseIdx n) → DelR i [p0, p1, p2, p3, p4, p5, p6, p7, p8, p9, p10, p11, p12, p13, p14, p15] z bit mask 0 (([p0, p1, p2, p3, p4, p5, p6, p7, p8, p9, p10, p11, p12, p13, p14, p15].set c (pq ++ [r])).set (2 * q) (ps'.eraseIdx n)) ∧ FIs 4 o i 0 ((List.set [L0, L1, L2, L3, L4, L5, L6, L7, L8, L9, L10, L11, L12, L13, L14, L15] c X1).set (2 * q) X2) (([p0, p1, p2, p3, p4, p5, p6, p7, p8, p9, p10, p11, p12, p13, p14, p15].set c (pq ++ [r])).set (2 * q) (ps'.eraseIdx n)) := fun hw c L X1 hc hL h6 hX => by
  obtain ⟨pq, q1, q2, _, q4⟩ := hF'.at _ _ _ _ _ hL
  have hX1 : isP X1 (pq ++ [r]) := by rw [hX]; exact q2.add (q := r) (show isL .i64 (nrow .i64 r.d) r.d from rfl)
  rw [hc, room_dest] at q4
  refine ⟨pq, hX1, ?_, fun X2 hX2 => ?_⟩
  ·rw [hX1.len, List.length_append]
   have : roomQ i r ≤ 999999 := by unfold roomQ; split <;> omega
   show pq.length + 1 ≤ _
   omega
  ·subst hc
   exact del_yes hF' hq hr hz hw q1 hL h6 hX1 hX2
 clear hno hzs hto hun hpk
 obtain ⟨k, f, t, i2, l, p, s, b, d⟩ := r
 have hD : isL .i64 D d := hD
 have hd1 : d.length * 8 ≤ 140737488355328 := hd1
 have htj : ∃ j : Nat, isN t j ∧ j < 4 ∧ t.toNat = j := by
  unfold sendB at hsd
  simp only [Bool.and_eq_true] at hsd
  have h := hsd.2
  unfold belB at h
  simp only [Bool.and_eq_true, decide_eq_true_eq] at h
  exact ⟨t.toNat, by unfold isN; omega, by omega, rfl⟩
 have hwi := wire_ hp ⟨k, f, t, i2, l, p, s, b, d⟩ D hD hdy bit hb qm mask hm
 have hreq := request hp (.sym k)
 rw [show (Z.sym k).val = k from rfl] at hreq
 have hdr : reqB k = true → 4 * t.toNat + 1 = dest ⟨k, f, t, i2, l, p, s, b, d⟩ ∧ roomQ i ⟨k, f, t, i2, l, p, s, b, d⟩ = i := fun h => by
  constructor
  ·show _ = 4 * t.toNat + (if reqB k then 1 else 3)
   rw [h]
   rfl
  ·show (if reqB k then i else 1) = i
   rw [h]
   rfl
 have hda : reqB k = false → 4 * t.toNat + 3 = dest ⟨k, f, t, i2, l, p, s, b, d⟩ ∧ roomQ i ⟨k, f, t, i2, l, p, s, b, d⟩ = 1 := fun h => by
  constructor
  ·show _ = 4 * t.toNat + (if reqB k then 1 else 3)
   rw [h]
   rfl
  ·show (if reqB k then i else 1) = 1
   rw [h]
   rfl
 have hrow : ∀ (D2 : List (List G)), isL .i64 D2 d → PK.row ⟨k, f, t, i2, l, p, s, b, d⟩ D2 = PK.row ⟨k, f, t, i2, l, p, s, b, d⟩ (nrow .i64 d) := fun D2 h => by rw [show D2 = nrow .i64 d from h]
 have hput2 := fun hw (D2 : List (List G)) (hD2 : isL .i64 D2 d) c L X1 h1 h2 h3 (h4 : X1 = L ++ [PK.row ⟨k, f, t, i2, l, p, s, b, d⟩ D2]) => hput2 hw c L X1 h1 h2 h3 (by rw [h4, hrow D2 hD2])
 clear hsd hdy hdl hrow hna
 generalize wireB ⟨k, f, t, i2, l, p, s, b, d⟩ bit mask = wb at hwi hspoil hfull hput2
 generalize roomQ i ⟨k, f, t, i2, l, p, s, b, d⟩ = rq0 at hdr hda hfull hput2
 generalize dest ⟨k, f, t, i2, l, p, s, b, d⟩ = de at hdr hda hfull hput2
 cbv
 refine br_f (show I.not true = false from by rw [hI]; rfl) ?_
 cbv
 refine .go [] [] [.bor 1] hwi rfl rfl rfl rfl rfl rfl ?_
 rintro v m1 (⟨hw, D2, hD2, rfl, rfl⟩ | ⟨hw, rfl, rfl⟩)
 rotate_left
 ·have h9 := hspoil hw
  cbv
  refine br_t (show I.cmp .neq 2 0 = true from by rw [hI]; rfl) ?_
  cbv
  exact hP _ _ [0, 1, 2, 3, 4, 5, 6, 7, 8, 9, 10, 11, 12, 13, 14, 15, 16, 17, 18, 19, 20, 21, 22, 23, 24, 25, 26, 27, 28, 29, 30, 31, 32, 33] [] _ _ (by decide) rfl rfl rfl rfl rfl ⟨_, ⟨.sym 2, rfl, h9⟩, .inl ⟨hF', rfl⟩⟩
 have hfull := hfull hw
 have hput2 := hput2 hw D2 hD2
 have hD2 : isL .i64 D2 d := hD2
 have hd2 : D2.length * 8 ≤ 140737488355328 := by rw [hD2.len]; exact hd1
 obtain ⟨j, hj, hjn, hjt⟩ := htj
 rw [hjt] at hdr hda
 have hk1 : Kp [2 + 8 * j, 3 + 8 * j, 4 + 8 * j, 5 + 8 * j, 6 + 8 * j, 7 + 8 * j, 8 + 8 * j, 9 + 8 * j] := ⟨⟩
 have hkr : Kp [4 + 8 * j, 5 + 8 * j] := ⟨⟩
 have hka : Kp [8 + 8 * j, 9 + 8 * j] := ⟨⟩
 have hkfr : Kp (List.set [0, 1, 2, 3, 4, 5, 6, 7, 8, 9, 10, 11, 12, 13, 14, 15, 16, 17, 18, 19, 20, 21, 22, 23, 24, 25, 26, 27, 28, 29, 30, 31, 32, 33] (5 + 8 * j) 35) := ⟨⟩
 have hkfa : Kp (List.set [0, 1, 2, 3, 4, 5, 6, 7, 8, 9, 10, 11, 12, 13, 14, 15, 16, 17, 18, 19, 20, 21, 22, 23, 24, 25, 26, 27, 28, 29, 30, 31, 32, 33] (9 + 8 * j) 35) := ⟨⟩
 have hjs : j = 0 ∨ j = 1 ∨ j = 2 ∨ j = 3 := by omega
 clear hwi hjn hspoil hjt hw
 cbv
 refine br_f (show I.cmp .neq 0 0 = false from by rw [hI]; rfl) ?_
 cbv
 refine .drawn [2, 3, 4, 5, 6, 7, 8, 9, 10, 11, 12, 13, 14, 15, 16, 17, 18, 19, 20, 21, 22, 23, 24, 25, 26, 27, 28, 29, 30, 31, 32, 33] ?_
 cbv
 rcases hjs with rfl | rfl | rfl | rfl
 all_goals
  refine .idx _ hj (by decide) ?_
  cbv
  refine .go [] [] [] hreq rfl rfl rfl rfl rfl rfl ?_
  rintro v m1 ⟨rq, hrq, rfl, rfl⟩
  cbv
  refine .go (sOf hk1) [] [] (sort_ hp (.sym rq) o i _ _ _ _) rfl rfl rfl rfl rfl rfl ?_
  rintro v m1 ⟨⟨hs, rfl⟩ | ⟨hs, rfl⟩, rfl⟩
  ·have hs : rq = true := hs
   have h9 := hdr (hrq.symm.trans hs)
   obtain ⟨hde, hrm⟩ := h9
   cbv
   refine .go (sOf hkr) [] [.keep, .bor 1] (k_put hp ⟨.sym k, .sym f, .sym t, .sym i2, .sym l, .sym p, .sym s, .sym b⟩ D2 d hD2 hd2 _ _ (by first | assumption | decide) (by first | assumption | decide) (by assumption)) rfl rfl rfl rfl rfl rfl ?_
   rintro v m1 ⟨t2, rfl, ⟨rfl, h6, rfl⟩ | ⟨rfl, h6, X1, hX1, rfl⟩⟩
   ·have h9 := hfull _ _ hde rfl (by rw [hrm]; exact h6)
    cbv
    refine br_t (show I.cmp .neq 5 0 = true from by rw [hI]; rfl) ?_
    cbv
    exact hP _ _ [0, 1, 2, 3, 4, 5, 6, 7, 8, 9, 10, 11, 12, 13, 14, 15, 16, 17, 18, 19, 20, 21, 22, 23, 24, 25, 26, 27, 28, 29, 30, 31, 32, 33] [] _ _ (by decide) rfl rfl rfl rfl rfl ⟨_, ⟨.sym 5, rfl, h9⟩, .inl ⟨hF', rfl⟩⟩
   ·have h9 := hput2 _ _ _ hde rfl (by rw [hrm]; exact h6) hX1
    obtain ⟨pq, hX1, lX, hfin⟩ := h9
    clear hX1 h6
    cbv
    refine br_f (show I.cmp .neq 0 0 = false from by rw [hI]; rfl) ?_
    cbv
    refine .go (sOf hkfr) [] [] (find4 hp (.sym z) hzr o i _ _ _ _ _ _ _ _ _ _ _ _ _ _ _ _ (by assumption) (by assumption) (by assumption) (by assumption) (by assumption) (by assumption) (by assumption) (by assumption) (by assumption) (by assumption) (by assumption) (by assumption) (by assumption) (by assumption) (by assumption) (by assumption)) rfl rfl rfl rfl rfl rfl ?_
    rintro v m1 (⟨q2, n2, x, L, hq2, hx, hz2, hn, rfl, rfl⟩ | ⟨h, rfl, rfl⟩)
    ·have h9 := huni q2 n2 L hq2 hz2 hn
     obtain ⟨h7, h8⟩ := h9
     subst h7
     subst h8
     cases hq2.symm.trans hLa
     have hkq : Kp [2 + 4 * q, 3 + 4 * q] := ⟨⟩
     clear huni
     rcases (show q = 0 ∨ q = 1 ∨ q = 2 ∨ q = 3 ∨ q = 4 ∨ q = 5 ∨ q = 6 ∨ q = 7 from hcs) with rfl | rfl | rfl | rfl | rfl | rfl | rfl | rfl
     all_goals
      cases hLa
      cbv
      refine .go (sOf hkq) [] [] (p_remove hp (.sym x) _ _ ps' hPa (okQ.len hok) hla) rfl rfl rfl rfl rfl rfl ?_
      rintro v m1 (⟨h, _⟩ | ⟨n3, r3, D3, LR, hn3, hr3, hD3, hLR, rfl, rfl⟩)
      ·exact absurd h (notOut hx (lenIs hPa hn))
      ·obtain rfl : n3 = n := isN_eq hn3 hx
       have h9 := hfin LR hLR
       cbv
       exact hP _ _ [0, 1, 2, 3, 4, 5, 6, 7, 8, 9, 10, 11, 12, 13, 14, 15, 16, 17, 18, 19, 20, 21, 22, 23, 24, 25, 26, 27, 28, 29, 30, 31, 32, 33, 35, 37] [] _ _ (by decide) rfl rfl rfl rfl rfl ⟨_, ⟨.lit 0, rfl, h9.1⟩, .inr (.inr ⟨_, _, X1, LR, by decide, by decide, by decide, h9.2, rfl⟩)⟩
    ·exact absurd h hbig
  ·have hs : rq = false := hs
   have h9 := hda (hrq.symm.trans hs)
   obtain ⟨hde, hrm⟩ := h9
   cbv
   refine .go (sOf hka) [] [.keep, .bor 1] (k_put hp ⟨.sym k, .sym f, .sym t, .sym i2, .sym l, .sym p, .sym s, .sym b⟩ D2 d hD2 hd2 _ _ (by first | assumption | decide) (by first | assumption | decide) (by assumption)) rfl rfl rfl rfl rfl rfl ?_
   rintro v m1 ⟨t2, rfl, ⟨rfl, h6, rfl⟩ | ⟨rfl, h6, X1, hX1, rfl⟩⟩
   ·have h9 := hfull _ _ hde rfl (by rw [hrm]; exact h6)
    cbv
    refine br_t (show I.cmp .neq 5 0 = true from by rw [hI]; rfl) ?_
    cbv
    exact hP _ _ [0, 1, 2, 3, 4, 5, 6, 7, 8, 9, 10, 11, 12, 13, 14, 15, 16, 17, 18, 19, 20, 21, 22, 23, 24, 25, 26, 27, 28, 29, 30, 31, 32, 33] [] _ _ (by decide) rfl rfl rfl rfl rfl ⟨_, ⟨.sym 5, rfl, h9⟩, .inl ⟨hF', rfl⟩⟩
   ·have h9 := hput2 _ _ _ hde rfl (by rw [hrm]; exact h6) hX1
    obtain ⟨pq, hX1, lX, hfin⟩ := h9
    clear hX1 h6
    cbv
    refine br_f (show I.cmp .neq 0 0 = false from by rw [hI]; rfl) ?_
    cbv
    refine .go (sOf hkfa) [] [] (find4 hp (.sym z) hzr o i _ _ _ _ _ _ _ _ _ _ _ _ _ _ _ _ (by assumption) (by assumption) (by assumption) (by assumption) (by assumption) (by assumption) (by assumption) (by assumption) (by assumption) (by assumption) (by assumption) (by assumption) (by assumption) (by assumption) (by assumption) (by assumption)) rfl rfl rfl rfl rfl rfl ?_
    rintro v m1 (⟨q2, n2, x, L, hq2, hx, hz2, hn, rfl, rfl⟩ | ⟨h, rfl, rfl⟩)
    ·have h9 := huni q2 n2 L hq2 hz2 hn
     obtain ⟨h7, h8⟩ := h9
     subst h7
     subst h8
     cases hq2.symm.trans hLa
     have hkq : Kp [2 + 4 * q, 3 + 4 * q] := ⟨⟩
     clear huni
     rcases (show q = 0 ∨ q = 1 ∨ q = 2 ∨ q = 3 ∨ q = 4 ∨ q = 5 ∨ q = 6 ∨ q = 7 from hcs) with rfl | rfl | rfl | rfl | rfl | rfl | rfl | rfl
     all_goals
      cases hLa
      cbv
      refine .go (sOf hkq) [] [] (p_remove hp (.sym x) _ _ ps' hPa (okQ.len hok) hla) rfl rfl rfl rfl rfl rfl ?_
      rintro v m1 (⟨h, _⟩ | ⟨n3, r3, D3, LR, hn3, hr3, hD3, hLR, rfl, rfl⟩)
      ·exact absurd h (notOut hx (lenIs hPa hn))
      ·obtain rfl : n3 = n := isN_eq hn3 hx
       have h9 := hfin LR hLR
       cbv
       exact hP _ _ [0, 1, 2, 3, 4, 5, 6, 7, 8, 9, 10, 11, 12, 13, 14, 15, 16, 17, 18, 19, 20, 21, 22, 23, 24, 25, 26, 27, 28, 29, 30, 31, 32, 33, 35, 37] [] _ _ (by decide) rfl rfl rfl rfl rfl ⟨_, ⟨.lit 0, rfl, h9.1⟩, .inr (.inr ⟨_, _, X1, LR, by decide, by decide, by decide, h9.2, rfl⟩)⟩
    ·exact absurd h hbig
theorem deliverU4 (z : Z) (hzr : -9223372036854775808 ≤ z.val ∧ z.val ≤ 9223372036854775807) (bz : Z) (hb : -9223372036854775808 ≤ bz.val ∧ bz.val ≤ 9223372036854775807) (mz : Z) (mask : BitVec 16) (hm : mz.val = w16 mask) (o i : Int) (h0 : 0 ≤ o) (h1 : o ≤ 999999) (g0 : 0 ≤ i) (g1 : i ≤ 999999) (L0 L1 L2 L3 L4 L5 L6 L7 L8 L9 L10 L11 L12 L13 L14 L15 : List (List G)) (ps : List (List PK)) (hF : FIs 4 o i 0 [L0, L1, L2, L3, L4, L5, L6, L7, L8, L9, L10, L11, L12, L13, L14, L15] ps) : LValid P 14 [.c (.ptr 0 (.lit 0) 1 0), .c (.g (.int .i64 z)), .c (.g (.int .i64 bz)), .c (.g (.int .u16 mz))] (fabM o i 4 [L0, L1, L2, L3, L4, L5, L6, L7, L8, L9, L10, L11, L12, L13, L14, L15])
  (fun v m1 => ∃ (M0 M1 M2 M3 M4 M5 M6 M7 M8 M9 M10 M11 M12 M13 M14 M15 : List (List G)) (ps' : List (List PK)), (∃ t, v = i64 t ∧ DelR i ps z.val bz.val mask t ps') ∧ FIs 4 o i 0 [M0, M1, M2, M3, M4, M5, M6, M7, M8, M9, M10, M11, M12, M13, M14, M15] ps' ∧ m1 = fabU o i 4 [M0, M1, M2, M3, M4, M5, M6, M7, M8, M9, M10, M11, M12, M13, M14, M15]) :=
 up4 (fun I v ps ⟨t, h, _⟩ => by subst h; exact ⟨rfl, fun _ _ => rfl⟩) (del4 hp z hzr bz hb mz mask hm o i h0 h1 g0 g1 L0 L1 L2 L3 L4 L5 L6 L7 L8 L9 L10 L11 L12 L13 L14 L15 ps hF)
end
end Go.Proofs.Ytofdnnjkfpomcaa.E

/- The network of 4 nodes: New. -/
namespace Go.Proofs.Ytofdnnjkfpomcaa.E
open Go
set_option linter.unusedVariables false
set_option maxRecDepth 100000
section
variable {P : Program} (hp : P = Try.prog)
include hp
set_option maxHeartbeats 16000000 in
theorem new4 (z0 z1 z2 z3 z4 z5 z6 : Z) (l : List (List G)) (hN : z0.val = 4) : LValid P 8 [.agg [.g (.int .i64 z0), .g (.int .i64 z1), .g (.int .i64 z2), .g (.int .i64 z3), .g (.int .i64 z4), .g (.int .i64 z5), .g (.int .i64 z6), .bor 1 l]] []
  (fun v m1 => ∃ ro ri : Int, ro = max 0 z5.val ∧ ri = max 0 z6.val ∧ v = .one (.c (.ptr 0 (.lit 0) 1 0)) ∧ m1 = fabM ro ri 4 [[], [], [], [], [], [], [], [], [], [], [], [], [], [], [], []]) := by
 refine LValid.sy ?_
 show LValid P 8 [.agg [.g (.int .i64 (.sym z0.val)), .g (.int .i64 (.sym z1.val)), .g (.int .i64 (.sym z2.val)), .g (.int .i64 (.sym z3.val)), .g (.int .i64 (.sym z4.val)), .g (.int .i64 (.sym z5.val)), .g (.int .i64 (.sym z6.val)), .bor 1 l]] _ _
 rw [hN]
 generalize z1.val = a1, z2.val = a2, z3.val = a3, z4.val = a4, z5.val = ou, z6.val = inn
 obtain ⟨ro, hro⟩ : ∃ ro, ro = max 0 ou := ⟨_, rfl⟩
 obtain ⟨ri, hri⟩ : ∃ ri, ri = max 0 inn := ⟨_, rfl⟩
 obtain ⟨I, hI⟩ := ref
 refine fn_sim hI (mo hp) (cc hp c8) fun Post hP => ?_
 cbv
 refine .loop_next (fun n ts m => ∃ (j : Nat) (z : Int), n = 4 - j ∧ isN z j ∧ j ≤ 4 ∧ ts = fr 34 [(1, .one (.c (.ptr 0 (.lit 0) 8 0))), (3, .one (.c (.ptr 1 (.lit 0) 1 0))), (7, i64 4), (8, i64 z)] ∧ m = newM 4 a1 a2 a3 a4 ou inn l ro ri j)
  4 _ _ [0, 1] [] [1, 3, 7, 8] (by decide) rfl rfl rfl ⟨0, 0, rfl, rfl, Nat.zero_le _, rfl, rfl⟩ ?_
 rintro next n hnext ts m ⟨j, z, hnn, hz, hj, rfl, rfl⟩
 have hz1 : isN (I.bin .add .i64 z 1) (j + 1) := by unfold isN at hz ⊢; rw [hI]; simp only [ints, rBin]; rw [wrap_in] <;> omega
 have hcm : (j < 4 → I.cmp .lss z 4 = true) ∧ (j = 4 → I.cmp .lss z 4 = false) := by
  unfold isN at hz
  rw [hI]
  simp only [ints, rCmp, decide_eq_true_eq, decide_eq_false_iff_not]
  omega
 have hcs : j = 0 ∨ j = 1 ∨ j = 2 ∨ j = 3 ∨ j = 4 := by omega
 clear hj
 rcases hcs with rfl | rfl | rfl | rfl | rfl
 ·have hc := hcm.1 (by decide)
  clear hcm
  cbv
  refine br_t hc ?_
  cbv
  refine .drawn [1] ?_
  repeat' first
   | (refine .both ?_ ?_ <;> cbv)
   | (refine .go [] [] [] (p_new hp (.sym ou)) rfl rfl rfl rfl rfl rfl ?_; rintro v m1 ⟨rm, hrm, rfl, rfl⟩; (obtain rfl : ro = rm := (hrm.trans hro.symm).symm); cbv)
   | (refine .go [] [] [] (k_new hp (.sym inn)) rfl rfl rfl rfl rfl rfl ?_; rintro v m1 ⟨rm, hrm, rfl, rfl⟩; (obtain rfl : ri = rm := (hrm.trans hri.symm).symm); cbv)
   | (refine .go [] [] [] (k_new hp (.lit 1)) rfl rfl rfl rfl rfl rfl ?_; rintro v m1 ⟨rm, hrm, rfl, rfl⟩; (obtain rfl : rm = 1 := hrm); cbv)
   | (refine .most (by decide) (by decide) ?_; cbv)
  all_goals exact hnext _ _ 3 [0, 1, 11, 2, 3, 4, 5, 6, 7, 8, 9] [] [1, 3, 7, 8] _ _ (by omega) (by decide) rfl rfl rfl ⟨1, _, rfl, hz1, by decide, rfl, rfl⟩
 ·have hc := hcm.1 (by decide)
  clear hcm
  cbv
  refine br_t hc ?_
  cbv
  refine .drawn [1, 2] ?_
  repeat' first
   | (refine .both ?_ ?_ <;> cbv)
   | (refine .go [] [] [] (p_new hp (.sym ou)) rfl rfl rfl rfl rfl rfl ?_; rintro v m1 ⟨rm, hrm, rfl, rfl⟩; (obtain rfl : ro = rm := (hrm.trans hro.symm).symm); cbv)
   | (refine .go [] [] [] (k_new hp (.sym inn)) rfl rfl rfl rfl rfl rfl ?_; rintro v m1 ⟨rm, hrm, rfl, rfl⟩; (obtain rfl : ri = rm := (hrm.trans hri.symm).symm); cbv)
   | (refine .go [] [] [] (k_new hp (.lit 1)) rfl rfl rfl rfl rfl rfl ?_; rintro v m1 ⟨rm, hrm, rfl, rfl⟩; (obtain rfl : rm = 1 := hrm); cbv)
   | (refine .most (by decide) (by decide) ?_; cbv)
  all_goals exact hnext _ _ 2 [0, 1, 20, 3, 4, 5, 6, 7, 8, 9, 10, 11, 12, 13, 14, 15, 16, 17, 18] [] [1, 3, 7, 8] _ _ (by omega) (by decide) rfl rfl rfl ⟨2, _, rfl, hz1, by decide, rfl, rfl⟩
 ·have hc := hcm.1 (by decide)
  clear hcm
  cbv
  refine br_t hc ?_
  cbv
  refine .drawn [1, 2] ?_
  repeat' first
   | (refine .both ?_ ?_ <;> cbv)
   | (refine .go [] [] [] (p_new hp (.sym ou)) rfl rfl rfl rfl rfl rfl ?_; rintro v m1 ⟨rm, hrm, rfl, rfl⟩; (obtain rfl : ro = rm := (hrm.trans hro.symm).symm); cbv)
   | (refine .go [] [] [] (k_new hp (.sym inn)) rfl rfl rfl rfl rfl rfl ?_; rintro v m1 ⟨rm, hrm, rfl, rfl⟩; (obtain rfl : ri = rm := (hrm.trans hri.symm).symm); cbv)
   | (refine .go [] [] [] (k_new hp (.lit 1)) rfl rfl rfl rfl rfl rfl ?_; rintro v m1 ⟨rm, hrm, rfl, rfl⟩; (obtain rfl : rm = 1 := hrm); cbv)
   | (refine .most (by decide) (by decide) ?_; cbv)
  all_goals exact hnext _ _ 1 [0, 1, 28, 3, 4, 5, 6, 7, 8, 9, 10, 11, 12, 13, 14, 15, 16, 17, 18, 19, 20, 21, 22, 23, 24, 25, 26] [] [1, 3, 7, 8] _ _ (by omega) (by decide) rfl rfl rfl ⟨3, _, rfl, hz1, by decide, rfl, rfl⟩
 ·have hc := hcm.1 (by decide)
  clear hcm
  cbv
  refine br_t hc ?_
  cbv
  refine .drawn [1, 2] ?_
  repeat' first
   | (refine .both ?_ ?_ <;> cbv)
   | (refine .go [] [] [] (p_new hp (.sym ou)) rfl rfl rfl rfl rfl rfl ?_; rintro v m1 ⟨rm, hrm, rfl, rfl⟩; (obtain rfl : ro = rm := (hrm.trans hro.symm).symm); cbv)
   | (refine .go [] [] [] (k_new hp (.sym inn)) rfl rfl rfl rfl rfl rfl ?_; rintro v m1 ⟨rm, hrm, rfl, rfl⟩; (obtain rfl : ri = rm := (hrm.trans hri.symm).symm); cbv)
   | (refine .go [] [] [] (k_new hp (.lit 1)) rfl rfl rfl rfl rfl rfl ?_; rintro v m1 ⟨rm, hrm, rfl, rfl⟩; (obtain rfl : rm = 1 := hrm); cbv)
   | (refine .most (by decide) (by decide) ?_; cbv)
  all_goals exact hnext _ _ 0 [0, 1, 36, 3, 4, 5, 6, 7, 8, 9, 10, 11, 12, 13, 14, 15, 16, 17, 18, 19, 20, 21, 22, 23, 24, 25, 26, 27, 28, 29, 30, 31, 32, 33, 34] [] [1, 3, 7, 8] _ _ (by omega) (by decide) rfl rfl rfl ⟨4, _, rfl, hz1, by decide, rfl, rfl⟩
 ·have hc := hcm.2 rfl
  clear hcm
  cbv
  refine br_f hc ?_
  cbv
  exact hP _ _ [1, 2, 3, 4, 5, 6, 7, 8, 9, 10, 11, 12, 13, 14, 15, 16, 17, 18, 19, 20, 21, 22, 23, 24, 25, 26, 27, 28, 29, 30, 31, 32, 33, 34] [] _ _ (by decide) rfl rfl rfl rfl rfl ⟨ro, ri, hro, hri, rfl, rfl⟩
end
end Go.Proofs.Ytofdnnjkfpomcaa.E

/- FabricBounds: how many packets there are, in a network of 4 nodes. -/
namespace Go.Proofs.Ytofdnnjkfpomcaa.E
open Go
set_option linter.unusedVariables false
set_option maxRecDepth 100000
section
variable {P : Program} (hp : P = Try.prog)
include hp
set_option maxHeartbeats 64000000 in
theorem bounds4 (s1 s2 s3 s4 s5 s6 s7 : Int) (l0 W0 K0 A1 V0 : List (List G)) (ys : List Int) (h0 : isL .i64 l0 ys) (A0 : List (List G)) (acts : List AC) (hA : A0 = acts.map AC.row) (hok : ∀ a ∈ acts, a.ok)
  (hn : (CFof s1 s2 s3 s4 s5 s6 s7 ys).a = 4) (ho : 1 ≤ (CFof s1 s2 s3 s4 s5 s6 s7 ys).f ∧ (CFof s1 s2 s3 s4 s5 s6 s7 ys).f ≤ 3) (hi : 1 ≤ (CFof s1 s2 s3 s4 s5 s6 s7 ys).g ∧ (CFof s1 s2 s3 s4 s5 s6 s7 ys).g ≤ 3) :
  LValid P 7 [.agg [.g (.int .i64 (.sym s1)), .g (.int .i64 (.sym s2)), .g (.int .i64 (.sym s3)), .g (.int .i64 (.sym s4)), .g (.int .i64 (.sym s5)), .g (.int .i64 (.sym s6)), .g (.int .i64 (.sym s7)), .g (.rows 1 l0), .g (.rows 1 W0), .g (.rows 1 K0), .g (.rows 1 A1), .g (.rows 1 V0)], .c (.g (.rows 14 A0))] [] (fun v _ => ∃ b : BB, b.val = true ∧ v = .one (.c (.g (.bool b)))) := by
 obtain ⟨I, hI⟩ := ref
 have hcE := configE hp s1 s2 s3 s4 s5 s6 s7 l0 W0 K0 A1 V0 ys h0
 generalize CFof s1 s2 s3 s4 s5 s6 s7 ys = q at hcE hn ho hi
 obtain ⟨qa, qb, qc, qd, qe, qf, qg, ini⟩ := q
 have hn : qa = 4 := hn
 subst hn
 have ho : 1 ≤ qf ∧ qf ≤ 3 := ho
 have hi : 1 ≤ qg ∧ qg ≤ 3 := hi
 have hmul : I.bin .mul .i64 (I.bin .mul .i64 2 4) qf = qf * ((8 : Nat) : Int) := by
  have h : qf = 1 ∨ qf = 2 ∨ qf = 3 := by omega
  rw [hI]
  rcases h with rfl | rfl | rfl <;> rfl
 refine fn_sim hI (mo hp) (ccj hp c7) fun Post hP => ?_
 cbv
 refine .go [] [] [.bor 1] hcE rfl rfl rfl rfl rfl rfl ?_
 rintro v m1 ⟨hqo, L, hL, rfl, rfl⟩
 clear hcE hqo hL
 cbv
 refine .go [] [] [.bor 1] (new4 hp (.sym 4) (.sym qb) (.sym qc) (.sym qd) (.sym qe) (.sym qf) (.sym qg) L rfl) rfl rfl rfl rfl rfl rfl ?_
 rintro v m1 ⟨ro, ri, hro, hri, rfl, rfl⟩
 obtain rfl : qf = ro := by rw [hro]; show qf = max 0 qf; omega
 obtain rfl : qg = ri := by rw [hri]; show qg = max 0 qg; omega
 clear hro hri
 cbv
 refine .loop_next (fun n ts m => ∃ (j : Nat) (z : Int) (L0 L1 L2 L3 L4 L5 L6 L7 L8 L9 L10 L11 L12 L13 L14 L15 : List (List G)) (ps : List (List PK)) (sa tb : Int) (na nb : Nat), n = 40 - j ∧ isN z j ∧ j ≤ 40 ∧ FIs 4 qf qg 0 [L0, L1, L2, L3, L4, L5, L6, L7, L8, L9, L10, L11, L12, L13, L14, L15] ps ∧ isN sa na ∧ isN tb nb ∧ na ≤ j ∧ na = nb + cnt ps ∧ ts = fr 166 [(1, .one (.c (.g (.rows 14 A0)))), (5, .one (.c (.ptr 0 (.lit 0) 8 0))), (6, .one (.c (.ptr 1 (.lit 0) 1 0))), (7, i64 sa), (8, i64 tb), (9, i64 z)] ∧ m = .lit 8 [cfg (.sym 4) (.sym qb) (.sym qc) (.sym qd) (.sym qe) (.sym qf) (.sym qg) (.g (.rows 1 L))] :: fabS 1 qf qg 4 [L0, L1, L2, L3, L4, L5, L6, L7, L8, L9, L10, L11, L12, L13, L14, L15])
  40 _ _ [1, 2, 3, 4, 5, 6, 7, 8, 9, 10, 11, 12, 13, 14, 15, 16, 17, 18, 19, 20, 21, 22, 23, 24, 25, 26, 27, 28, 29, 30, 31, 32, 33, 34, 35] [] [1, 5, 6, 7, 8, 9] (by decide) rfl rfl rfl ⟨0, 0, [], [], [], [], [], [], [], [], [], [], [], [], [], [], [], [], List.replicate 16 [], 0, 0, 0, 0, rfl, rfl, by decide, FIs.nils (by omega) (by omega) 16 0, rfl, rfl, Nat.le_refl _, rfl, rfl, rfl⟩ ?_
 rintro next n hnext ts m ⟨j, z, L0, L1, L2, L3, L4, L5, L6, L7, L8, L9, L10, L11, L12, L13, L14, L15, ps, sa, tb, na, nb, hnn, hz, hj, hF, hsa, htb, hna, hnb, rfl, rfl⟩
 have hz1 := inc_n hI hz (by omega)
 have hc9 := lss_iff hI hz (b := 40) (n := 40) rfl
 have hcl : I.cmp .lss z (I.ofNat (I.len A0)) = true ↔ j < A0.length := lss_iff hI hz (by rw [hI]; rfl)
 cbv
 refine .br (fun g => ?_) (fun g => ?_)
 rotate_left
 ·cbv
  refine .go [] [] [] (wakes6 hp) rfl rfl rfl rfl rfl rfl ?_
  rintro v m1 ⟨rfl, rfl⟩
  cbv
  exact hP _ _ [] [] _ _ .nil rfl rfl rfl rfl rfl ⟨_, rfl, rfl⟩
 have hjl := hcl.1 g
 clear hcl g
 cbv
 refine .br (fun g => ?_) (fun g => ?_)
 rotate_left
 ·cbv
  refine .go [] [] [] (wakes6 hp) rfl rfl rfl rfl rfl rfl ?_
  rintro v m1 ⟨rfl, rfl⟩
  cbv
  exact hP _ _ [] [] _ _ .nil rfl rfl rfl rfl rfl ⟨_, rfl, rfl⟩
 have hj9 := hc9.1 g
 clear hc9 g hP
 obtain ⟨ac, hx, hac⟩ : ∃ a : AC, A0[j]? = some a.row ∧ a.ok := by
  rw [hA, List.length_map] at hjl
  have h9 : acts[j]? = some acts[j] := List.getElem?_eq_getElem hjl
  exact ⟨acts[j], by rw [hA, List.getElem?_map, h9]; rfl, hok _ (List.getElem_mem hjl)⟩
 obtain ⟨ad, aa, ab, am, ⟨ak, af, at_, ai, al, ap, aS, ax, ad2⟩, ah⟩ := ac
 obtain ⟨ha1, ha2, ha3⟩ := hac
 have ha3 : ∀ y ∈ ad2, in64 y := ha3
 obtain ⟨DA, hDA⟩ : ∃ DA, DA = nrow .i64 ad2 := ⟨_, rfl⟩
 have hx : A0[j]? = some [.int .i64 (.sym ad), .int .i64 (.sym aa), .int .i64 (.sym ab), .int .u16 (.sym (w16 am)), .int .i64 (.sym ak), .int .i64 (.sym af), .int .i64 (.sym at_), .int .i64 (.sym ai), .int .i64 (.sym al), .int .i64 (.sym ap), .int .i64 (.sym aS), .bool (.sym ax), .rows 1 DA, .int .i64 (.sym ah)] := by rw [hx, hDA]; rfl
 have hDA : isL .i64 DA ad2 := hDA
 generalize hwm : w16 am = wm at hx
 cbv
 refine .idx j hz (by rw [hI]; exact hjl) ?_
 cbv
 refine .nth _ hx ?_
 cbv
 refine .go [] [] [] (withinL hp ad 5) rfl rfl rfl rfl rfl rfl ?_
 rintro r m1 ⟨y, hy, rfl, rfl⟩
 clear hy hx
 cbv
 refine .join_next (fun ts m => ∃ (L0 L1 L2 L3 L4 L5 L6 L7 L8 L9 L10 L11 L12 L13 L14 L15 : List (List G)) (ps : List (List PK)) (sa tb : Int) (na nb : Nat), FIs 4 qf qg 0 [L0, L1, L2, L3, L4, L5, L6, L7, L8, L9, L10, L11, L12, L13, L14, L15] ps ∧ isN sa na ∧ isN tb nb ∧ na ≤ j + 1 ∧ na = nb + cnt ps ∧ ts = fr 166 [(1, .one (.c (.g (.rows 14 A0)))), (5, .one (.c (.ptr 0 (.lit 0) 8 0))), (6, .one (.c (.ptr 1 (.lit 0) 1 0))), (7, i64 sa), (8, i64 tb), (9, i64 z)] ∧ m = .lit 8 [cfg (.sym 4) (.sym qb) (.sym qc) (.sym qd) (.sym qe) (.sym qf) (.sym qg) (.g (.rows 1 L))] :: fabS 1 qf qg 4 [L0, L1, L2, L3, L4, L5, L6, L7, L8, L9, L10, L11, L12, L13, L14, L15]) ?_ ?_
 ·intro next2 hnx
  clear hnext
  cbv
  refine .join_next (fun ts m => ∃ tt : Bool, ts = fr 166 [(1, .one (.c (.g (.rows 14 A0)))), (5, .one (.c (.ptr 0 (.lit 0) 8 0))), (6, .one (.c (.ptr 1 (.lit 0) 1 0))), (7, i64 sa), (8, i64 tb), (9, i64 z), (10, .one (.c (.ptr 35 (.lit 0) 14 0))), (42, i64 y), (69, boo tt)] ∧ m = .lit 8 [cfg (.sym 4) (.sym qb) (.sym qc) (.sym qd) (.sym qe) (.sym qf) (.sym qg) (.g (.rows 1 L))] :: fabS 1 qf qg 4 [L0, L1, L2, L3, L4, L5, L6, L7, L8, L9, L10, L11, L12, L13, L14, L15] ++ [.lit 14 [[.g (.int .i64 (.sym ad)), .g (.int .i64 (.sym aa)), .g (.int .i64 (.sym ab)), .g (.int .u16 (.sym wm)), .g (.int .i64 (.sym ak)), .g (.int .i64 (.sym af)), .g (.int .i64 (.sym at_)), .g (.int .i64 (.sym ai)), .g (.int .i64 (.sym al)), .g (.int .i64 (.sym ap)), .g (.int .i64 (.sym aS)), .g (.bool (.sym ax)), .g (.rows 1 DA), .g (.int .i64 (.sym ah))]]]) ?_ ?_
  ·intro next3 hnx3
   cbv
   refine .br (fun g => ?_) (fun g => ?_) <;> cbv <;> exact hnx3 _ _ [0, 1, 2, 3, 4, 5, 6, 7, 8, 9, 10, 11, 12, 13, 14, 15, 16, 17, 18, 19, 20, 21, 22, 23, 24, 25, 26, 27, 28, 29, 30, 31, 32, 33, 34, 35] [] [1, 5, 6, 7, 8, 9, 10, 42, 69] _ _ (by decide) rfl rfl rfl ⟨_, rfl, rfl⟩
  rintro ts m ⟨tt, rfl, rfl⟩
  cbv
  refine .pass ?_
  cbv
  refine .br (fun g => ?_) (fun g => ?_)
  ·clear g
   cbv
   refine .go [] [] [.bor 1] (pplayF hp ⟨ak, af, at_, ai, al, ap, aS, ax, ad2⟩ DA hDA) rfl rfl rfl rfl rfl rfl ?_
   rintro v m1 ⟨r, D, hr, hD, rfl, rfl⟩
   have hsd := pkW_send (n := 4) ⟨ak, af, at_, ai, al, ap, aS, ax, ad2⟩ (by decide) (by decide)
   have hdy : ∀ y ∈ r.d, -9223372036854775808 ≤ y ∧ y ≤ 9223372036854775807 := fun y hy => by
    rw [hr] at hy
    exact ha3 y (List.mem_of_mem_take hy)
   have hmk : ∀ (f' t' : Int), f' = win r.f 4 → t' = win r.t 4 → sendB 4 (⟨r.k, f', t', r.i, r.l, r.p, r.s, r.b, r.d⟩ : PK) = true := fun f' t' e1 e2 => by
    rw [show (⟨r.k, f', t', r.i, r.l, r.p, r.s, r.b, r.d⟩ : PK) = pkW 4 ⟨ak, af, at_, ai, al, ap, aS, ax, ad2⟩ by rw [e1, e2, hr]; rfl]
    exact hsd
   clear hsd hr
   obtain ⟨k, f, t, i2, l, p, s, b, d⟩ := r
   have hD : isL .i64 D d := hD
   have hdy : ∀ y ∈ d, -9223372036854775808 ≤ y ∧ y ≤ 9223372036854775807 := hdy
   have hmk : ∀ (f' t' : Int), f' = win f 4 → t' = win t 4 → sendB 4 (⟨k, f', t', i2, l, p, s, b, d⟩ : PK) = true := hmk
   cbv
   refine .join_next (fun ts m => ∃ (f' t' : Int), sendB 4 (⟨k, f', t', i2, l, p, s, b, d⟩ : PK) = true ∧ ts = fr 166 [(1, .one (.c (.g (.rows 14 A0)))), (5, .one (.c (.ptr 0 (.lit 0) 8 0))), (6, .one (.c (.ptr 1 (.lit 0) 1 0))), (7, i64 sa), (8, i64 tb), (9, i64 z), (11, .one (.c (.ptr 35 (.lit 0) 9 0)))] ∧ m = .lit 8 [cfg (.sym 4) (.sym qb) (.sym qc) (.sym qd) (.sym qe) (.sym qf) (.sym qg) (.g (.rows 1 L))] :: fabS 1 qf qg 4 [L0, L1, L2, L3, L4, L5, L6, L7, L8, L9, L10, L11, L12, L13, L14, L15] ++ [.lit 9 [[.g (.int .i64 (.sym k)), .g (.int .i64 (.sym f')), .g (.int .i64 (.sym t')), .g (.int .i64 (.sym i2)), .g (.int .i64 (.sym l)), .g (.int .i64 (.sym p)), .g (.int .i64 (.sym s)), .g (.bool (.sym b)), .g (.rows 1 D)]]]) ?_ ?_
   ·intro next4 hnx4
    cbv
    refine .drawn [36] ?_
    cbv
    repeat' first
     | (refine .both ?_ ?_)
     | (refine .go [] [] [] (within hp _ _) rfl rfl rfl rfl rfl rfl ?_; rintro r m1 ⟨y, hy, rfl, rfl⟩; cbv)
    all_goals exact hnx4 _ _ [0, 1, 2, 3, 4, 5, 6, 7, 8, 9, 10, 11, 12, 13, 14, 15, 16, 17, 18, 19, 20, 21, 22, 23, 24, 25, 26, 27, 28, 29, 30, 31, 32, 33, 34, 36] [] [1, 5, 6, 7, 8, 9, 11] _ _ (by decide) rfl rfl rfl ⟨_, _, hmk _ _ (by assumption) (by assumption), rfl, rfl⟩
   clear hmk
   rintro ts m ⟨f', t', hsd, rfl, rfl⟩
   have hd4 : d.length ≤ 4 := (send_kind hsd).2.2.2
   have hDl : D.length * 8 ≤ 140737488355328 := by rw [hD.len]; omega
   cbv
   refine .go [1, 2, 3, 4, 5, 6, 7, 8, 9, 10, 11, 12, 13, 14, 15, 16, 17, 18, 19, 20, 21, 22, 23, 24, 25, 26, 27, 28, 29, 30, 31, 32, 33, 34] [] [.keep, .bor 1] (sendU4 hp ⟨.sym k, .sym f', .sym t', .sym i2, .sym l, .sym p, .sym s, .sym b⟩ D d hD hDl hdy qf qg (by omega) (by omega) (by omega) (by omega) L0 L1 L2 L3 L4 L5 L6 L7 L8 L9 L10 L11 L12 L13 L14 L15 ps hF) rfl rfl rfl rfl rfl rfl ?_
   clear hF
   rintro v m1 ⟨M0, M1, M2, M3, M4, M5, M6, M7, M8, M9, M10, M11, M12, M13, M14, M15, ps1, ⟨t, rfl, hS⟩, hF, rfl⟩
   have hc := cnt_send hS
   clear hS hsd
   cbv
   refine .br (fun g => ?_) (fun g => ?_)
   ·have h1 : t = 0 := by
     rw [hI] at g
     simpa [ints, rCmp] using g
    rcases hc with ⟨_, hc⟩ | ⟨h2, _⟩
    ·have hsa1 := inc_n hI hsa (by omega)
     cbv
     exact hnx _ _ [0, 1, 2, 3, 36, 5, 37, 7, 38, 9, 39, 11, 40, 13, 41, 15, 42, 17, 43, 19, 44, 21, 45, 23, 46, 25, 47, 27, 48, 29, 49, 31, 50, 33, 51] [] [1, 5, 6, 7, 8, 9] _ _ (by decide) rfl rfl rfl ⟨M0, M1, M2, M3, M4, M5, M6, M7, M8, M9, M10, M11, M12, M13, M14, M15, ps1, _, tb, na + 1, nb, hF, hsa1, htb, by omega, by omega, rfl, rfl⟩
    ·exact absurd h1 h2
   ·have h1 : t ≠ 0 := by
     rw [hI] at g
     simpa [ints, rCmp] using g
    rcases hc with ⟨h2, _⟩ | ⟨_, hc⟩
    ·exact absurd h2 h1
    ·cbv
     exact hnx _ _ [0, 1, 2, 3, 36, 5, 37, 7, 38, 9, 39, 11, 40, 13, 41, 15, 42, 17, 43, 19, 44, 21, 45, 23, 46, 25, 47, 27, 48, 29, 49, 31, 50, 33, 51] [] [1, 5, 6, 7, 8, 9] _ _ (by decide) rfl rfl rfl ⟨M0, M1, M2, M3, M4, M5, M6, M7, M8, M9, M10, M11, M12, M13, M14, M15, ps1, sa, tb, na, nb, hF, hsa, htb, by omega, by omega, rfl, rfl⟩
  clear g
  cbv
  refine .join_next (fun ts m => ∃ tt : Bool, ts = fr 166 [(1, .one (.c (.g (.rows 14 A0)))), (5, .one (.c (.ptr 0 (.lit 0) 8 0))), (6, .one (.c (.ptr 1 (.lit 0) 1 0))), (7, i64 sa), (8, i64 tb), (9, i64 z), (10, .one (.c (.ptr 35 (.lit 0) 14 0))), (42, i64 y), (93, boo tt)] ∧ m = .lit 8 [cfg (.sym 4) (.sym qb) (.sym qc) (.sym qd) (.sym qe) (.sym qf) (.sym qg) (.g (.rows 1 L))] :: fabS 1 qf qg 4 [L0, L1, L2, L3, L4, L5, L6, L7, L8, L9, L10, L11, L12, L13, L14, L15] ++ [.lit 14 [[.g (.int .i64 (.sym ad)), .g (.int .i64 (.sym aa)), .g (.int .i64 (.sym ab)), .g (.int .u16 (.sym wm)), .g (.int .i64 (.sym ak)), .g (.int .i64 (.sym af)), .g (.int .i64 (.sym at_)), .g (.int .i64 (.sym ai)), .g (.int .i64 (.sym al)), .g (.int .i64 (.sym ap)), .g (.int .i64 (.sym aS)), .g (.bool (.sym ax)), .g (.rows 1 DA), .g (.int .i64 (.sym ah))]]]) ?_ ?_
  ·intro next3 hnx3
   cbv
   refine .br (fun g => ?_) (fun g => ?_) <;> cbv <;> exact hnx3 _ _ [0, 1, 2, 3, 4, 5, 6, 7, 8, 9, 10, 11, 12, 13, 14, 15, 16, 17, 18, 19, 20, 21, 22, 23, 24, 25, 26, 27, 28, 29, 30, 31, 32, 33, 34, 35] [] [1, 5, 6, 7, 8, 9, 10, 42, 93] _ _ (by decide) rfl rfl rfl ⟨_, rfl, rfl⟩
  rintro ts m ⟨tt, rfl, rfl⟩
  cbv
  refine .pass ?_
  cbv
  refine .br (fun g => ?_) (fun g => ?_)
  ·clear g
   cbv
   refine .drawn [1, 2, 3, 4, 5, 6, 7, 8, 9, 10, 11, 12, 13, 14, 15, 16, 17, 18, 19, 20, 21, 22, 23, 24, 25, 26, 27, 28, 29, 30, 31, 32, 33, 34] ?_
   cbv
   refine .go [1, 2, 3, 4, 5, 6, 7, 8, 9, 10, 11, 12, 13, 14, 15, 16, 17, 18, 19, 20, 21, 22, 23, 24, 25, 26, 27, 28, 29, 30, 31, 32, 33, 34] [] [] (underU4 hp qf qg (by omega) (by omega) (by omega) (by omega) L0 L1 L2 L3 L4 L5 L6 L7 L8 L9 L10 L11 L12 L13 L14 L15 ps hF) rfl rfl rfl rfl rfl rfl ?_
   rintro v m1 ⟨un, hun, rfl, rfl⟩
   cbv
   refine .go [] [] [] (within hp (.sym aa) (.sym un)) rfl rfl rfl rfl rfl rfl ?_
   rintro v m1 ⟨pl, hpl, rfl, rfl⟩
   have hpl : in64 pl := by
    have hul : (under ps).length ≤ cnt ps := by
     have := wsum_all 4 ps (hF.length _ _ _).symm
     omega
    rw [show pl = win aa un from hpl]
    unfold isN at hun
    exact win_any _ _ (by omega) (by omega)
   clear hun
   cbv
   refine .go [] [] [] (withinL hp ah 2) rfl rfl rfl rfl rfl rfl ?_
   rintro v m1 ⟨w2, hw2, rfl, rfl⟩
   clear hw2
   have hmz : I.bin .and .u16 wm (I.conv .u16 (I.bin .mul .i64 w2 65535)) = w16 (am &&& BitVec.ofInt 16 (I.conv .u16 (I.bin .mul .i64 w2 65535))) := by
    rw [← hwm]
    have := andm16 am (I.conv .u16 (I.bin .mul .i64 w2 65535))
    rw [← this, hI]
    rfl
   have h9 : ∃ mk, I.bin .and .u16 wm (I.conv .u16 (I.bin .mul .i64 w2 65535)) = w16 mk := ⟨_, hmz⟩
   clear hmz
   obtain ⟨mk, hmz⟩ := h9
   cbv
   refine .go [1, 2, 3, 4, 5, 6, 7, 8, 9, 10, 11, 12, 13, 14, 15, 16, 17, 18, 19, 20, 21, 22, 23, 24, 25, 26, 27, 28, 29, 30, 31, 32, 33, 34] [] [] (deliverU4 hp (.sym pl) hpl (.sym ab) ha2 (.sym (I.bin .and .u16 wm (I.conv .u16 (I.bin .mul .i64 w2 65535)))) mk hmz qf qg (by omega) (by omega) (by omega) (by omega) L0 L1 L2 L3 L4 L5 L6 L7 L8 L9 L10 L11 L12 L13 L14 L15 ps hF) rfl rfl rfl rfl rfl rfl ?_
   clear hF
   rintro v m1 ⟨M0, M1, M2, M3, M4, M5, M6, M7, M8, M9, M10, M11, M12, M13, M14, M15, ps1, ⟨t, rfl, hR⟩, hF, rfl⟩
   have hc := cnt_del hR
   clear hR hmz
   cbv
   exact hnx _ _ [0, 1, 2, 3, 36, 5, 37, 7, 38, 9, 39, 11, 40, 13, 41, 15, 42, 17, 43, 19, 44, 21, 45, 23, 46, 25, 47, 27, 48, 29, 49, 31, 50, 33, 51] [] [1, 5, 6, 7, 8, 9] _ _ (by decide) rfl rfl rfl ⟨M0, M1, M2, M3, M4, M5, M6, M7, M8, M9, M10, M11, M12, M13, M14, M15, ps1, sa, tb, na, nb, hF, hsa, htb, by omega, by omega, rfl, rfl⟩
  clear g
  cbv
  refine .go [] [] [] (within hp (.sym aa) (.sym 4)) rfl rfl rfl rfl rfl rfl ?_
  rintro v m1 ⟨y2, hy2, rfl, rfl⟩
  clear hy2
  cbv
  refine .go [1, 2, 3, 4, 5, 6, 7, 8, 9, 10, 11, 12, 13, 14, 15, 16, 17, 18, 19, 20, 21, 22, 23, 24, 25, 26, 27, 28, 29, 30, 31, 32, 33, 34] [] [] (requestU4 hp (.sym y2) qf qg (by omega) (by omega) (by omega) (by omega) L0 L1 L2 L3 L4 L5 L6 L7 L8 L9 L10 L11 L12 L13 L14 L15 ps hF) rfl rfl rfl rfl rfl rfl ?_
  clear hF
  rintro v m1 ⟨M0, M1, M2, M3, M4, M5, M6, M7, M8, M9, M10, M11, M12, M13, M14, M15, ps1, ⟨r, rb, D2, rfl, hD2, hT, hokr⟩, hF, rfl⟩
  have hc := cnt_take hT
  obtain ⟨rk, rf, rt, ri, rl, rp, rs, rbb, rd⟩ := r
  clear hT hokr hD2
  cbv
  refine .join_next (fun ts m => ∃ (L0 L1 L2 L3 L4 L5 L6 L7 L8 L9 L10 L11 L12 L13 L14 L15 : List (List G)) (ps : List (List PK)) (tb : Int) (nb : Nat), FIs 4 qf qg 0 [L0, L1, L2, L3, L4, L5, L6, L7, L8, L9, L10, L11, L12, L13, L14, L15] ps ∧ isN tb nb ∧ na = nb + cnt ps ∧ ts = fr 166 [(1, .one (.c (.g (.rows 14 A0)))), (5, .one (.c (.ptr 0 (.lit 0) 8 0))), (6, .one (.c (.ptr 1 (.lit 0) 1 0))), (7, i64 sa), (8, i64 tb), (9, i64 z), (10, .one (.c (.ptr 35 (.lit 0) 14 0)))] ∧ m = .lit 8 [cfg (.sym 4) (.sym qb) (.sym qc) (.sym qd) (.sym qe) (.sym qf) (.sym qg) (.g (.rows 1 L))] :: fabS 1 qf qg 4 [L0, L1, L2, L3, L4, L5, L6, L7, L8, L9, L10, L11, L12, L13, L14, L15] ++ [.lit 14 [[.g (.int .i64 (.sym ad)), .g (.int .i64 (.sym aa)), .g (.int .i64 (.sym ab)), .g (.int .u16 (.sym wm)), .g (.int .i64 (.sym ak)), .g (.int .i64 (.sym af)), .g (.int .i64 (.sym at_)), .g (.int .i64 (.sym ai)), .g (.int .i64 (.sym al)), .g (.int .i64 (.sym ap)), .g (.int .i64 (.sym aS)), .g (.bool (.sym ax)), .g (.rows 1 DA), .g (.int .i64 (.sym ah))]]]) ?_ ?_
  ·intro next3 hnx3
   cbv
   refine .br (fun g => ?_) (fun g => ?_)
   ·subst g
    rcases hc with ⟨_, hc⟩ | ⟨hc, _⟩
    ·have htb1 := inc_n hI htb (by omega)
     cbv
     exact hnx3 _ _ [0, 1, 2, 3, 36, 5, 37, 7, 38, 9, 39, 11, 40, 13, 41, 15, 42, 17, 43, 19, 44, 21, 45, 23, 46, 25, 47, 27, 48, 29, 49, 31, 50, 33, 51, 35] [] [1, 5, 6, 7, 8, 9, 10] _ _ (by decide) rfl rfl rfl ⟨M0, M1, M2, M3, M4, M5, M6, M7, M8, M9, M10, M11, M12, M13, M14, M15, ps1, _, nb + 1, hF, htb1, by omega, rfl, rfl⟩
    ·cases hc
   ·subst g
    rcases hc with ⟨hc, _⟩ | ⟨_, hc⟩
    ·cases hc
    ·cbv
     exact hnx3 _ _ [0, 1, 2, 3, 36, 5, 37, 7, 38, 9, 39, 11, 40, 13, 41, 15, 42, 17, 43, 19, 44, 21, 45, 23, 46, 25, 47, 27, 48, 29, 49, 31, 50, 33, 51, 35] [] [1, 5, 6, 7, 8, 9, 10] _ _ (by decide) rfl rfl rfl ⟨M0, M1, M2, M3, M4, M5, M6, M7, M8, M9, M10, M11, M12, M13, M14, M15, ps1, tb, nb, hF, htb, by omega, rfl, rfl⟩
  clear hc hF htb hnb
  rintro ts m ⟨L0, L1, L2, L3, L4, L5, L6, L7, L8, L9, L10, L11, L12, L13, L14, L15, ps, tb, nb, hF, htb, hnb, rfl, rfl⟩
  cbv
  refine .go [] [] [] (within hp (.sym aa) (.sym 4)) rfl rfl rfl rfl rfl rfl ?_
  rintro v m1 ⟨y3, hy3, rfl, rfl⟩
  clear hy3
  cbv
  refine .go [1, 2, 3, 4, 5, 6, 7, 8, 9, 10, 11, 12, 13, 14, 15, 16, 17, 18, 19, 20, 21, 22, 23, 24, 25, 26, 27, 28, 29, 30, 31, 32, 33, 34] [] [] (replyU4 hp (.sym y3) qf qg (by omega) (by omega) (by omega) (by omega) L0 L1 L2 L3 L4 L5 L6 L7 L8 L9 L10 L11 L12 L13 L14 L15 ps hF) rfl rfl rfl rfl rfl rfl ?_
  clear hF
  rintro v m1 ⟨M0, M1, M2, M3, M4, M5, M6, M7, M8, M9, M10, M11, M12, M13, M14, M15, ps1, ⟨r, rb, D2, rfl, hD2, hT, hokr⟩, hF, rfl⟩
  have hc := cnt_take hT
  obtain ⟨rk, rf, rt, ri, rl, rp, rs, rbb, rd⟩ := r
  clear hT hokr hD2
  cbv
  refine .br (fun g => ?_) (fun g => ?_)
  ·subst g
   rcases hc with ⟨_, hc⟩ | ⟨hc, _⟩
   ·have htb1 := inc_n hI htb (by omega)
    cbv
    exact hnx _ _ [0, 1, 2, 3, 36, 5, 37, 7, 38, 9, 39, 11, 40, 13, 41, 15, 42, 17, 43, 19, 44, 21, 45, 23, 46, 25, 47, 27, 48, 29, 49, 31, 50, 33, 51] [] [1, 5, 6, 7, 8, 9] _ _ (by decide) rfl rfl rfl ⟨M0, M1, M2, M3, M4, M5, M6, M7, M8, M9, M10, M11, M12, M13, M14, M15, ps1, sa, _, na, nb + 1, hF, hsa, htb1, by omega, by omega, rfl, rfl⟩
   ·cases hc
  ·subst g
   rcases hc with ⟨hc, _⟩ | ⟨_, hc⟩
   ·cases hc
   ·cbv
    exact hnx _ _ [0, 1, 2, 3, 36, 5, 37, 7, 38, 9, 39, 11, 40, 13, 41, 15, 42, 17, 43, 19, 44, 21, 45, 23, 46, 25, 47, 27, 48, 29, 49, 31, 50, 33, 51] [] [1, 5, 6, 7, 8, 9] _ _ (by decide) rfl rfl rfl ⟨M0, M1, M2, M3, M4, M5, M6, M7, M8, M9, M10, M11, M12, M13, M14, M15, ps1, sa, tb, na, nb, hF, hsa, htb, by omega, by omega, rfl, rfl⟩
 clear hF hsa htb hna hnb
 rintro ts m ⟨L0, L1, L2, L3, L4, L5, L6, L7, L8, L9, L10, L11, L12, L13, L14, L15, ps, sa, tb, na, nb, hF, hsa, htb, hna, hnb, rfl, rfl⟩
 have hlen := (hF.length _ _ _).symm
 have hall := wsum_all 4 ps hlen
 have hule := under_le 8 _ ps 0 rfl hlen hF
 cbv
 refine .go [1, 2, 3, 4, 5, 6, 7, 8, 9, 10, 11, 12, 13, 14, 15, 16, 17, 18, 19, 20, 21, 22, 23, 24, 25, 26, 27, 28, 29, 30, 31, 32, 33, 34] [] [] (underU4 hp qf qg (by omega) (by omega) (by omega) (by omega) L0 L1 L2 L3 L4 L5 L6 L7 L8 L9 L10 L11 L12 L13 L14 L15 ps hF) rfl rfl rfl rfl rfl rfl ?_
 rintro v m1 ⟨un, hun, rfl, rfl⟩
 have hgt : I.cmp .gtr un (I.bin .mul .i64 (I.bin .mul .i64 2 4) qf) = false := gtr_no hI (by rw [hmul]; unfold isN at hun; rw [hun]; exact hule)
 cbv
 refine br_f hgt ?_
 clear hgt hule hmul
 cbv
 refine .loop_next (fun n ts m => ∃ (c : Nat) (x nn : Int), n = 4 - c ∧ isN x c ∧ c ≤ 4 ∧ isN nn ((under ps).length + wsum c ps) ∧ ts = fr 166 [(1, .one (.c (.g (.rows 14 A0)))), (5, .one (.c (.ptr 0 (.lit 0) 8 0))), (6, .one (.c (.ptr 1 (.lit 0) 1 0))), (7, i64 sa), (8, i64 tb), (9, i64 z), (16, i64 nn), (17, i64 x)] ∧ m = .lit 8 [cfg (.sym 4) (.sym qb) (.sym qc) (.sym qd) (.sym qe) (.sym qf) (.sym qg) (.g (.rows 1 L))] :: fabS 1 qf qg 4 [L0, L1, L2, L3, L4, L5, L6, L7, L8, L9, L10, L11, L12, L13, L14, L15])
  4 _ _ [0, 1, 2, 3, 4, 5, 6, 7, 8, 9, 10, 11, 12, 13, 14, 15, 16, 17, 18, 19, 20, 21, 22, 23, 24, 25, 26, 27, 28, 29, 30, 31, 32, 33, 34] [] [1, 5, 6, 7, 8, 9, 16, 17] (by decide) rfl rfl rfl ⟨0, 0, un, rfl, rfl, Nat.zero_le _, by rw [show wsum 0 ps = 0 by cases ps <;> rfl]; exact hun, rfl, rfl⟩ ?_
 clear hun un
 rintro next2 n2 hnext2 ts m ⟨c, x, nn, hn2, hx, hc, hnn2, rfl, rfl⟩
 have hcm := lss_iff hI hx (b := 4) (n := 4) rfl
 have hx1 := inc_n hI hx (by omega)
 cbv
 refine .br (fun g => ?_) (fun g => ?_)
 ·have hcN := hcm.1 g
  clear hcm g
  cbv
  refine .go [1, 2, 3, 4, 5, 6, 7, 8, 9, 10, 11, 12, 13, 14, 15, 16, 17, 18, 19, 20, 21, 22, 23, 24, 25, 26, 27, 28, 29, 30, 31, 32, 33, 34] [] [] (waitingU4 hp (.sym x) qf qg (by omega) (by omega) (by omega) (by omega) L0 L1 L2 L3 L4 L5 L6 L7 L8 L9 L10 L11 L12 L13 L14 L15 ps hF) rfl rfl rfl rfl rfl rfl ?_
  rintro v m1 ⟨t1, t2, rfl, rfl, hn1, hn3⟩
  have h9 := num_in hF hn1 hx (by omega)
  obtain ⟨p1, q1, q2, q3⟩ := h9
  have h9 := num_in hF hn3 hx (by omega)
  obtain ⟨p3, u1, u2, u3⟩ := h9
  rw [room1] at q3
  rw [room3] at u3
  have hstep := wsum_step c ps p1 p3 q1 u1
  have hle := wsum_mono c 4 ps hc
  have hp3 : p1.length ≤ 3 ∧ p3.length ≤ 1 := by omega
  have hg1 : I.cmp .gtr t1 qg = false := gtr_no hI (by unfold isN at q2; omega)
  have hg2 : I.cmp .gtr t2 1 = false := gtr_no hI (by unfold isN at u2; omega)
  have hb : (under ps).length + wsum c ps < 900000 := by omega
  have hadd := add_n hI hnn2 (add_n hI q2 u2 (by omega)) (by omega)
  rw [show (under ps).length + wsum c ps + (p1.length + p3.length) = (under ps).length + wsum (c + 1) ps by omega] at hadd
  clear hn1 hn3 q1 q2 q3 u1 u2 u3 hstep hle hp3 hb
  cbv
  refine br_f hg1 ?_
  cbv
  refine br_f hg2 ?_
  cbv
  refine .go [1, 2, 3, 4, 5, 6, 7, 8, 9, 10, 11, 12, 13, 14, 15, 16, 17, 18, 19, 20, 21, 22, 23, 24, 25, 26, 27, 28, 29, 30, 31, 32, 33, 34] [] [] (roomRU4 hp (.lit true) rfl (.sym x) qf qg (by omega) (by omega) (by omega) (by omega) L0 L1 L2 L3 L4 L5 L6 L7 L8 L9 L10 L11 L12 L13 L14 L15 ps hF) rfl rfl rfl rfl rfl rfl ?_
  rintro v m1 ⟨t, rfl, rfl, ht⟩
  have ht0 := lss_no hI (room_in hF (room0 qf qg c) ht hx (by omega))
  clear ht
  cbv
  refine br_f ht0 ?_
  cbv
  refine .go [1, 2, 3, 4, 5, 6, 7, 8, 9, 10, 11, 12, 13, 14, 15, 16, 17, 18, 19, 20, 21, 22, 23, 24, 25, 26, 27, 28, 29, 30, 31, 32, 33, 34] [] [] (roomAU4 hp (.lit false) rfl (.sym x) qf qg (by omega) (by omega) (by omega) (by omega) L0 L1 L2 L3 L4 L5 L6 L7 L8 L9 L10 L11 L12 L13 L14 L15 ps hF) rfl rfl rfl rfl rfl rfl ?_
  rintro v m1 ⟨t4, rfl, rfl, ht⟩
  have ht4 := lss_no hI (room_in hF (room2 qf qg c) ht hx (by omega))
  clear ht
  cbv
  refine br_f ht4 ?_
  cbv
  exact hnext2 _ _ (4 - (c + 1)) [0, 1, 2, 3, 4, 5, 6, 7, 8, 9, 10, 11, 12, 13, 14, 15, 16, 17, 18, 19, 20, 21, 22, 23, 24, 25, 26, 27, 28, 29, 30, 31, 32, 33, 34] [] [1, 5, 6, 7, 8, 9, 16, 17] _ _ (by omega) (by decide) rfl rfl rfl ⟨c + 1, _, _, rfl, hx1, by omega, hadd, rfl, rfl⟩
 ·have hcN : c = 4 := by
   have := no_lss hcm g
   omega
  subst hcN
  clear hnext2 hcm g
  have hfin : I.cmp .neq (I.bin .add .i64 nn tb) sa = false := neq_eq hI (by
   have := add_n hI hnn2 htb (by omega)
   unfold isN at this hsa
   rw [this, hsa]
   omega)
  cbv
  refine br_f hfin ?_
  cbv
  exact hnext _ _ (40 - (j + 1)) [0, 1, 2, 3, 4, 5, 6, 7, 8, 9, 10, 11, 12, 13, 14, 15, 16, 17, 18, 19, 20, 21, 22, 23, 24, 25, 26, 27, 28, 29, 30, 31, 32, 33, 34] [] [1, 5, 6, 7, 8, 9] _ _ (by omega) (by decide) rfl rfl rfl ⟨j + 1, _, L0, L1, L2, L3, L4, L5, L6, L7, L8, L9, L10, L11, L12, L13, L14, L15, ps, sa, tb, na, nb, rfl, hz1, by omega, hF, hsa, htb, hna, hnb, rfl, rfl⟩
end
end Go.Proofs.Ytofdnnjkfpomcaa.E

/- FabricBounds: how many packets there are, of every setup. -/
namespace Go.Proofs.Ytofdnnjkfpomcaa.E
open Go
set_option linter.unusedVariables false

section
variable {P : Program} (hp : P = Try.prog)
include hp
theorem bounds (s1 s2 s3 s4 s5 s6 s7 : Int) (l0 W0 K0 A1 V0 : List (List G)) (ys : List Int) (h0 : isL .i64 l0 ys) (A0 : List (List G)) (acts : List AC) (hA : A0 = acts.map AC.row) (hok : ∀ a ∈ acts, a.ok) :
  LValid P 7 [.agg [.g (.int .i64 (.sym s1)), .g (.int .i64 (.sym s2)), .g (.int .i64 (.sym s3)), .g (.int .i64 (.sym s4)), .g (.int .i64 (.sym s5)), .g (.int .i64 (.sym s6)), .g (.int .i64 (.sym s7)), .g (.rows 1 l0), .g (.rows 1 W0), .g (.rows 1 K0), .g (.rows 1 A1), .g (.rows 1 V0)], .c (.g (.rows 14 A0))] [] (fun v _ => ∃ b : BB, b.val = true ∧ v = .one (.c (.g (.bool b)))) := by
 have add1 : ∀ (v n : Int), 0 < n → n ≤ 100 → 1 ≤ rBin .add .i64 1 (win v n) ∧ rBin .add .i64 1 (win v n) ≤ n := fun v n h hn => by
  have h1 := win_in v n h (by omega)
  have e : rBin .add .i64 1 (win v n) = 1 + win v n := by
   show IntKind.i64.wrap (1 + win v n) = _
   rw [wrap_in] <;> omega
  omega
 have ho : 1 ≤ (CFof s1 s2 s3 s4 s5 s6 s7 ys).f ∧ (CFof s1 s2 s3 s4 s5 s6 s7 ys).f ≤ 3 := add1 s6 3 (by decide) (by decide)
 have hi : 1 ≤ (CFof s1 s2 s3 s4 s5 s6 s7 ys).g ∧ (CFof s1 s2 s3 s4 s5 s6 s7 ys).g ≤ 3 := add1 s7 3 (by decide) (by decide)
 have h : 1 ≤ (CFof s1 s2 s3 s4 s5 s6 s7 ys).a ∧ (CFof s1 s2 s3 s4 s5 s6 s7 ys).a ≤ 4 := add1 s1 4 (by decide) (by decide)
 have e : (CFof s1 s2 s3 s4 s5 s6 s7 ys).a = 1 ∨ (CFof s1 s2 s3 s4 s5 s6 s7 ys).a = 2 ∨ (CFof s1 s2 s3 s4 s5 s6 s7 ys).a = 3 ∨ (CFof s1 s2 s3 s4 s5 s6 s7 ys).a = 4 := by omega
 rcases e with e | e | e | e
 ·exact bounds1 hp s1 s2 s3 s4 s5 s6 s7 l0 W0 K0 A1 V0 ys h0 A0 acts hA hok e ho hi
 ·exact bounds2 hp s1 s2 s3 s4 s5 s6 s7 l0 W0 K0 A1 V0 ys h0 A0 acts hA hok e ho hi
 ·exact bounds3 hp s1 s2 s3 s4 s5 s6 s7 l0 W0 K0 A1 V0 ys h0 A0 acts hA hok e ho hi
 ·exact bounds4 hp s1 s2 s3 s4 s5 s6 s7 l0 W0 K0 A1 V0 ys h0 A0 acts hA hok e ho hi
end
end Go.Proofs.Ytofdnnjkfpomcaa.E

-- PRINTED BY print.sh 35421559b90ae4d0a3588c463048766b98c2df88dd9212a6774a882060cdf62d: not written by this session
/-
  PRINTED WORDS, second file: A REGION THAT DRAWS ITS ORDER, WALKED BY HAND, where its last store writes what its own loads read ('x.f = append(x.f, f(i))'). Plain theorems; no macro, no elab. A claim may hold it (turn the namespace's name).
  A load may be taken first in every world that meets S; behind the operations of ds nothing is shown; sound because each of ds waits for what is taken (Region.lastB). The kernel checks it.
  By an AI agent of Go's test side, Mon Nov 16 2026. No person has read it.
-/
namespace Go.Proofs.YtofdnnjkfpomcaaW.PrintLast

section
variable {P : Program} {ops : Array Oper} {Q : Exit → Act → World → Prop} {md : Region.Mode} {S : World → Prop} {ds : List Nat}

/-- Operation d waits for operation i, by a chain of at most 'fuel' edges. -/
def Region.reachB (md : Region.Mode) (ops : Array Oper) (i : Nat) : Nat → Nat → Bool
  | 0, _ => false
  | fuel + 1, d => match ops[d]? with
    | some o => o.after.any fun e => Region.binds md e && (e.on == i || Region.reachB md ops i fuel e.on)
    | none => false

/-- Each of ds that has not come up yet waits for number i. -/
def Region.lastB (md : Region.Mode) (ops : Array Oper) (listed : Array Bool) (ds : List Nat) (i : Nat) : Bool :=
  ds.all fun d => listed.getD d true || Region.reachB md ops i ops.size d

def ListedClosed (md : Region.Mode) (ops : Array Oper) (listed : Array Bool) : Prop :=
  ∀ j oj, ops[j]? = some oj → listed.getD j false = true → ∀ e ∈ oj.after, Region.binds md e = true → listed.getD e.on false = true

theorem ListedClosed.set {listed : Array Bool} {i : Nat} (h : ListedClosed md ops listed) (hi : i ∈ Region.ready md ops listed) : ListedClosed md ops (listed.setIfInBounds i true) := by
  obtain ⟨_, oi, hoi, hall⟩ := mem_ready.1 hi
  intro j oj hj hl e he hb
  by_cases hij : i = j
  · subst hij
    have : oj = oi := Option.some.inj (hj.symm.trans hoi)
    subst this
    exact getD_set_true (hall e he hb)
  · rw [getD_set_ne false hij] at hl
    exact getD_set_true (h j oj hj hl e he hb)

/-- Whatever order is picked from here on, AND 'S' HOLDS BEHIND EVERY OPERATION THAT IS CARRIED OUT, those of ds apart. -/
def wpAnyLast (P : Program) (md : Region.Mode) (ops : Array Oper) (Q : Exit → Act → World → Prop) (S : World → Prop) (ds : List Nat) : Nat → Array Bool → Act → World → Prop
  | 0, listed, a, w => Region.ready md ops listed = [] ∧ Q .normal a w
  | fuel + 1, listed, a, w =>
    (Region.ready md ops listed = [] → Q .normal a w) ∧
    ∀ i ∈ Region.ready md ops listed, wpOp P ops Q i (fun a' w' => (i ∉ ds → S w → S w') ∧ wpAnyLast P md ops Q S ds fuel (listed.setIfInBounds i true) a' w') a w

theorem wpAnyLast_all {rs : List Nat} {fuel : Nat} {listed : Array Bool} {a : Act} {w : World} (hr : Region.ready md ops listed = rs) (hne : rs ≠ [])
    (h : ∀ i ∈ rs, wpOp P ops Q i (fun a' w' => (i ∉ ds → S w → S w') ∧ wpAnyLast P md ops Q S ds fuel (listed.setIfInBounds i true) a' w') a w) : wpAnyLast P md ops Q S ds (fuel + 1) listed a w :=
  ⟨fun h0 => absurd (hr ▸ h0) hne, hr ▸ h⟩

end

section
variable {P : Program} {ops : Array Oper} {Q : Exit → Act → World → Prop} {md : Region.Mode} {S : World → Prop} {ds : List Nat}

def AllReadyL (P : Program) (md : Region.Mode) (ops : Array Oper) (Q : Exit → Act → World → Prop) (S : World → Prop) (ds : List Nat) (fuel : Nat) (listed : Array Bool) (a : Act) (w : World) (rs : List Nat) : Prop :=
  ∀ i ∈ rs, wpOp P ops Q i (fun a' w' => (i ∉ ds → S w → S w') ∧ wpAnyLast P md ops Q S ds fuel (listed.setIfInBounds i true) a' w') a w
theorem AllReadyL.nil {fuel : Nat} {listed : Array Bool} {a : Act} {w : World} : AllReadyL P md ops Q S ds fuel listed a w [] := fun _ h => by cases h
theorem AllReadyL.cons {fuel : Nat} {listed : Array Bool} {a : Act} {w : World} {i : Nat} {o : Oper} {rs : List Nat} (ho : ops[i]? = some o) (hd : i ∉ ds)
    (h : ∀ K' : Act → World → Prop, Shut (∀ a w, S w → (S w → wpAnyLast P md ops Q S ds fuel (listed.setIfInBounds i true) a w) → K' a w) → if Region.wanted o (yielded ops a.tmps) = true then Oper.wp P o a w K' Q else K' (a.put o.dst undef) w)
    (hs : AllReadyL P md ops Q S ds fuel listed a w rs) : AllReadyL P md ops Q S ds fuel listed a w (i :: rs) := fun j hj => by
  rcases List.mem_cons.1 hj with rfl | hj
  · exact wpOp_step ho (fun K' hK => h K' (fun a w hS hW => hK a w ⟨fun _ _ => hS, hW hS⟩))
  · exact hs j hj
theorem wpAnyLast_ready {rs : List Nat} {fuel : Nat} {listed : Array Bool} {a : Act} {w : World} (hr : Region.ready md ops listed = rs) (hne : rs ≠ [])
    (h : AllReadyL P md ops Q S ds fuel listed a w rs) : wpAnyLast P md ops Q S ds (fuel + 1) listed a w := wpAnyLast_all hr hne h
def readyB (md : Region.Mode) (ops : Array Oper) (l l' : Array Bool) (i : Nat) : Bool := (Region.ready md ops l == [i]) && (l.setIfInBounds i true == l')
/-- One operation alone may come up now (a call, a build, an append ..): it is run, S is shown behind it. -/
theorem one_ {i : Nat} {N : Option Tmp} {oi : Oper} {fuel : Nat} {l : Array Bool} {a : Act} {w : World} (l' : Array Bool) (hi : ops[i]? = some oi) (hN : oi.dst = N) (hc : readyB md ops l l' i = true) (hd : i ∉ ds)
    (h : ∀ K : Act → World → Prop, Shut (∀ a' w', S w' → (S w' → wpAnyLast P md ops Q S ds fuel l' a' w') → K a' w') → if Region.wanted oi (yielded ops a.tmps) = true then Oper.wp P oi a w K Q else K (a.put N undef) w) :
    wpAnyLast P md ops Q S ds (fuel + 1) l a w := by
  subst hN
  simp only [readyB, Bool.and_eq_true, beq_iff_eq] at hc
  obtain ⟨h1, h2⟩ := hc
  subst h2
  exact wpAnyLast_ready h1 (by simp) (AllReadyL.cons hi hd (fun K hK => h K hK) AllReadyL.nil)
/-! ### Several operations that write or call may come up: each order is walked, what follows is shown once (join_) -/
theorem two_ {i j : Nat} {Ni Nj : Option Tmp} {oi oj : Oper} {fuel : Nat} {l : Array Bool} {a : Act} {w : World} (li lj : Array Bool) (hi : ops[i]? = some oi) (hj : ops[j]? = some oj) (hNi : oi.dst = Ni) (hNj : oj.dst = Nj)
    (hc : (Region.ready md ops l == [i, j] && l.setIfInBounds i true == li && l.setIfInBounds j true == lj) = true) (hdi : i ∉ ds) (hdj : j ∉ ds)
    (h1 : ∀ K : Act → World → Prop, Shut (∀ a' w', S w' → (S w' → wpAnyLast P md ops Q S ds fuel li a' w') → K a' w') → if Region.wanted oi (yielded ops a.tmps) = true then Oper.wp P oi a w K Q else K (a.put Ni undef) w)
    (h2 : ∀ K : Act → World → Prop, Shut (∀ a' w', S w' → (S w' → wpAnyLast P md ops Q S ds fuel lj a' w') → K a' w') → if Region.wanted oj (yielded ops a.tmps) = true then Oper.wp P oj a w K Q else K (a.put Nj undef) w) :
    wpAnyLast P md ops Q S ds (fuel + 1) l a w := by
  subst hNi
  subst hNj
  simp only [Bool.and_eq_true, beq_iff_eq] at hc
  obtain ⟨⟨h3, h4⟩, h5⟩ := hc
  subst h4
  subst h5
  exact wpAnyLast_ready h3 (by simp) (AllReadyL.cons hi hdi (fun K hK => h1 K hK) (AllReadyL.cons hj hdj (fun K hK => h2 K hK) AllReadyL.nil))
theorem three_ {i j k : Nat} {Ni Nj Nk : Option Tmp} {oi oj ok : Oper} {fuel : Nat} {l : Array Bool} {a : Act} {w : World} (li lj lk : Array Bool) (hi : ops[i]? = some oi) (hj : ops[j]? = some oj) (hk : ops[k]? = some ok) (hNi : oi.dst = Ni) (hNj : oj.dst = Nj) (hNk : ok.dst = Nk)
    (hc : (Region.ready md ops l == [i, j, k] && l.setIfInBounds i true == li && l.setIfInBounds j true == lj && l.setIfInBounds k true == lk) = true) (hdi : i ∉ ds) (hdj : j ∉ ds) (hdk : k ∉ ds)
    (h1 : ∀ K : Act → World → Prop, Shut (∀ a' w', S w' → (S w' → wpAnyLast P md ops Q S ds fuel li a' w') → K a' w') → if Region.wanted oi (yielded ops a.tmps) = true then Oper.wp P oi a w K Q else K (a.put Ni undef) w)
    (h2 : ∀ K : Act → World → Prop, Shut (∀ a' w', S w' → (S w' → wpAnyLast P md ops Q S ds fuel lj a' w') → K a' w') → if Region.wanted oj (yielded ops a.tmps) = true then Oper.wp P oj a w K Q else K (a.put Nj undef) w)
    (h3 : ∀ K : Act → World → Prop, Shut (∀ a' w', S w' → (S w' → wpAnyLast P md ops Q S ds fuel lk a' w') → K a' w') → if Region.wanted ok (yielded ops a.tmps) = true then Oper.wp P ok a w K Q else K (a.put Nk undef) w) :
    wpAnyLast P md ops Q S ds (fuel + 1) l a w := by
  subst hNi
  subst hNj
  subst hNk
  simp only [Bool.and_eq_true, beq_iff_eq] at hc
  obtain ⟨⟨⟨h4, h5⟩, h6⟩, h7⟩ := hc
  subst h5
  subst h6
  subst h7
  exact wpAnyLast_ready h4 (by simp) (AllReadyL.cons hi hdi (fun K hK => h1 K hK) (AllReadyL.cons hj hdj (fun K hK => h2 K hK) (AllReadyL.cons hk hdk (fun K hK => h3 K hK) AllReadyL.nil)))
/-- The act with some destinations filled. -/
def putAll : Act → List (Tmp × Value) → Act
  | a, [] => a
  | a, (n, v) :: r => putAll (a.put (some n) v) r
/-- What follows, once: s the values that the orders leave, F what is known of them and of the world. -/
theorem join_ {σ : Type} {fuel : Nat} {l : Array Bool} {a : Act} {w : World} (fuel' : Nat) (l' : Array Bool) (ns : σ → List (Tmp × Value)) (F : σ → World → Prop)
    (hcont : ∀ s w', F s w' → wpAnyLast P md ops Q S ds fuel' l' (putAll a (ns s)) w')
    (h : (∀ s w', F s w' → wpAnyLast P md ops Q S ds fuel' l' (putAll a (ns s)) w') → wpAnyLast P md ops Q S ds fuel l a w) : wpAnyLast P md ops Q S ds fuel l a w := h hcont
end
end Go.Proofs.YtofdnnjkfpomcaaW.PrintLast

-- PRINTED BY print.sh 35421559b90ae4d0a3588c463048766b98c2df88dd9212a6774a882060cdf62d: not written by this session
/-! ### 39. Stores into a row that may begin inside its block (Q): Q_form, Q_elem, Q_seg; scalars: Q_cell, Q_putg -/
namespace Go.Proofs.YtofdnnjkfpomcaaW.PrintWords
open Go.RowKit
namespace Kd
section
variable {α : Type} {d : Kd α} {e base g o n cap : Nat} {ok okp : Nat → Prop} {w W : World} {v : Value} {xs : List α}
theorem Q_form (h : d.Q e w base ok v xs) (hp : 0 < xs.length) : ∃ g o cap, v = .slice (some ⟨g, o, none⟩) xs.length cap ∧ base ≤ g ∧ g < w.heap.size ∧ ∃ cells, w.heap[g]? = some (.cells cells e (0, 0)) := by
  obtain ⟨h0, inner, hq, hr⟩ := h
  rcases hq.2 with ⟨h1, _⟩ | ⟨g, off, cap, cur, rfl, hb, hh, r⟩
  · omega
  · exact ⟨g, off * d.sz, cap, rfl, hb, blk_lt hh, cur, hh⟩
/-- Element i of such a row: its cells. -/
theorem Q_elem (h : d.Q e W base ok (.slice (some ⟨g, o, none⟩) n cap) xs) (z : α) (i : Int) (h0 : 0 ≤ i) (h1 : i < n) :
    ∃ c, c.length = d.sz ∧ d.M W base (fun k => ok k ∧ k ≠ g) (xs.getD i.toNat z) c ∧ (∀ j u, c[j]? = some u → W.cell? ⟨g, o + i.toNat * d.sz + j, none⟩ = some u) ∧ ∀ j, W.frozen? ⟨g, o + i.toNat * d.sz + j, none⟩ = false := by
  obtain ⟨hn, hnc, hC⟩ := Q_reads' h
  obtain ⟨_, inner, ho, hr⟩ := h
  have hil : i.toNat < xs.length := by omega
  have hseg : i.toNat * d.sz + d.sz ≤ inner.length := by rw [hr.1, ← Nat.succ_mul]; exact Nat.mul_le_mul_right _ hil
  have hM := hr.2 i.toNat _ (List.getElem?_eq_getElem hil)
  refine ⟨(inner.drop (i.toNat * d.sz)).take d.sz, by rw [List.length_take, List.length_drop]; omega, ?_, fun j u hu => ?_, fun j => ?_⟩
  · rw [List.getD_eq_getElem?_getD, List.getElem?_eq_getElem hil]
    exact d.M_mono (fun k hk => ⟨hk.1, fun he => hk.2 (by rw [he]; simp [Value.ownBlock])⟩) hM
  · rw [List.getElem?_take] at hu
    split at hu
    · rw [List.getElem?_drop] at hu
      subst hn
      obtain ⟨ad, he, hc⟩ := q_cells ho (by omega)
      injection he with he
      subst he
      have := hc _ u hu
      rwa [add_at, ← Nat.add_assoc] at this
    · cases hu
  · obtain ⟨_, cells, hc⟩ := q_typed ho g (by simp [Value.ownBlock])
    exact blk_frozen hc _
/-- A run of cells of element i is written: element i is x' then. c: the element's cells before (Q_elem). -/
theorem Q_seg (h : d.Q e W base ok (.slice (some ⟨g, o, none⟩) n cap) xs) (i : Int) (h0 : 0 ≤ i) (h1 : i < n) {c seg : List Value} {j : Nat} (hcl : c.length = d.sz) (hcc : ∀ j u, c[j]? = some u → W.cell? ⟨g, o + i.toNat * d.sz + j, none⟩ = some u)
    (hj : j + seg.length ≤ d.sz) {x' : α} (hM : d.M W base okp x' (c.take j ++ seg ++ c.drop (j + seg.length))) (hokp : ∀ k, okp k → ok k ∧ k ≠ g) :
    d.Q e (W.setCells g (o + i.toNat * d.sz + j) seg) base ok (.slice (some ⟨g, o, none⟩) n cap) (xs.set i.toNat x') ∧ W.grownBy (W.setCells g (o + i.toNat * d.sz + j) seg) (some g) := by
  obtain ⟨hn, hnc, _⟩ := Q_reads' h
  obtain ⟨hok, inner, ho, hr⟩ := h
  have hil : i.toNat < xs.length := by omega
  have hseg : i.toNat * d.sz + d.sz ≤ inner.length := by rw [hr.1, ← Nat.succ_mul]; exact Nat.mul_le_mul_right _ hil
  have hin : inner.length = n * d.sz := by rw [hr.1, hn]
  obtain ⟨ho1, ho2⟩ := ho
  rcases ho2 with ⟨hz, _⟩ | ⟨g', off, cap', cur, hv, hb, hh, hnc', hcm, hcs, ht⟩
  · omega
  injection hv with ha _ hc
  injection ha with ha
  injection ha with hg hoff
  subst hg; subst hc; subst hoff
  have hcap : n * d.sz ≤ cap * d.sz := Nat.mul_le_mul_right _ hnc
  have hcs' : cur.size = off * d.sz + cap * d.sz := by rw [hcs, Nat.add_mul]
  have hfit : off * d.sz + i.toNat * d.sz + j + seg.length ≤ cur.size := by omega
  obtain ⟨cur', h3, h4, h5⟩ := setCells_row seg (off * d.sz + i.toNat * d.sz + j) W cur hh hfit
  obtain ⟨s1, s2, s3, s4⟩ := setCells_same g seg (off * d.sz + i.toNat * d.sz + j) W
  have hfar : ∀ k, k ≠ g → (W.setCells g (off * d.sz + i.toNat * d.sz + j) seg).heap[k]? = W.heap[k]? := fun k hk => setCells_far seg _ k hk
  rw [← hn] at ht
  -- the row's cells are the block's from off on
  have hat : ∀ q, q < n * d.sz → cur.toList[off * d.sz + q]? = inner[q]? := by
    intro q hq
    rw [← ht, List.getElem?_take, if_pos hq, List.getElem?_drop]
  have hcin : ∀ q, q < d.sz → c[q]? = inner[i.toNat * d.sz + q]? := by
    intro q hq
    have hq' : q < c.length := by omega
    have h6 := hcc q _ (List.getElem?_eq_getElem hq')
    rw [cell_of_row W g _ cur e (0, 0) hh] at h6
    rw [List.getElem?_eq_getElem hq', ← h6, ← hat _ (by omega), Array.getElem?_toList, Nat.add_assoc]
  refine ⟨⟨hok, inner.take (i.toNat * d.sz + j) ++ seg ++ inner.drop (i.toNat * d.sz + j + seg.length), ⟨?_, .inr ⟨g, off, cap, cur', by rw [List.length_set, hn], hb, h3, by rw [List.length_set, ← hn]; exact hnc, hcm, by rw [h4, hcs], ?_⟩⟩, ?_⟩,
    ⟨s1, s2, s3, by rw [s4]; exact Nat.le_refl _, fun k _ hk => hfar k (fun he => hk (by rw [he]))⟩⟩
  · rw [List.length_set]
    simp only [List.length_append, List.length_take, List.length_drop]
    rw [hr.1] at hseg ⊢
    omega
  · rw [List.length_set, ← hn]
    apply List.ext_getElem?
    intro q
    rw [List.getElem?_take, List.getElem?_drop, h5]
    rw [seg_get cur.toList seg (off * d.sz + i.toNat * d.sz + j) (by rw [Array.length_toList]; omega) (off * d.sz + q), seg_get inner seg (i.toNat * d.sz + j) (by omega) q]
    by_cases hq : q < n * d.sz
    · rw [if_pos hq]
      by_cases hq1 : q < i.toNat * d.sz + j
      · rw [if_pos (by omega), if_pos hq1, hat q hq]
      · rw [if_neg (by omega), if_neg hq1]
        by_cases hq2 : q < i.toNat * d.sz + j + seg.length
        · rw [if_pos (by omega), if_pos hq2]
          congr 1
          omega
        · rw [if_neg (by omega), if_neg hq2, hat q hq]
    · rw [if_neg hq, if_neg (by omega), if_neg (by omega), List.getElem?_eq_none (by omega)]
  · refine ⟨?_, fun m p hm => ?_⟩
    · rw [List.length_set]
      simp only [List.length_append, List.length_take, List.length_drop]
      rw [hr.1] at hseg ⊢
      omega
    · have hml : m < xs.length := by
        have := (List.getElem?_eq_some_iff.1 hm).1
        rwa [List.length_set] at this
      have hmfit : m * d.sz + d.sz ≤ inner.length := by rw [hr.1, ← Nat.succ_mul]; exact Nat.mul_le_mul_right _ hml
      have hgo : some g = (Value.slice (some ⟨g, off * d.sz, none⟩) n cap).ownBlock := by simp [Value.ownBlock]
      by_cases hmi : m = i.toNat
      · subst hmi
        rw [List.getElem?_set_self (by omega)] at hm
        injection hm with hm
        subst hm
        have hcells : ((inner.take (i.toNat * d.sz + j) ++ seg ++ inner.drop (i.toNat * d.sz + j + seg.length)).drop (i.toNat * d.sz)).take d.sz = c.take j ++ seg ++ c.drop (j + seg.length) := by
          apply List.ext_getElem?
          intro q
          rw [List.getElem?_take, List.getElem?_drop, seg_get inner seg _ (by omega), seg_get c seg j (by omega) q]
          by_cases hq : q < d.sz
          · rw [if_pos hq, hcin q hq]
            by_cases hq1 : q < j
            · rw [if_pos (by omega), if_pos hq1]
            · rw [if_neg (by omega), if_neg hq1]
              by_cases hq2 : q < j + seg.length
              · rw [if_pos (by omega), if_pos hq2]
                congr 1
                omega
              · rw [if_neg (by omega), if_neg hq2]
          · rw [if_neg hq, if_neg (by omega), if_neg (by omega), List.getElem?_eq_none (by omega)]
        rw [hcells]
        refine d.M_mono (fun k hk => ?_) (d.M_move (w1 := W.setCells g (off * d.sz + i.toNat * d.sz + j) seg) (fun k hk => hfar k (hokp k hk).2) hM)
        exact ⟨(hokp k hk).1, fun he => (hokp k hk).2 (by rw [← hgo] at he; injection he)⟩
      · rw [List.getElem?_set_ne (by omega)] at hm
        have hold := hr.2 m p hm
        have hcells : ((inner.take (i.toNat * d.sz + j) ++ seg ++ inner.drop (i.toNat * d.sz + j + seg.length)).drop (m * d.sz)).take d.sz = (inner.drop (m * d.sz)).take d.sz := by
          apply List.ext_getElem?
          intro q
          rw [List.getElem?_take, List.getElem?_take, List.getElem?_drop, List.getElem?_drop, seg_get inner seg _ (by omega)]
          by_cases hq : q < d.sz
          · rw [if_pos hq, if_pos hq]
            rcases Nat.lt_or_gt_of_ne hmi with hlt | hgt
            · have : m * d.sz + d.sz ≤ i.toNat * d.sz := by rw [← Nat.succ_mul]; exact Nat.mul_le_mul_right _ hlt
              rw [if_pos (by omega)]
            · have : i.toNat * d.sz + d.sz ≤ m * d.sz := by rw [← Nat.succ_mul]; exact Nat.mul_le_mul_right _ hgt
              rw [if_neg (by omega), if_neg (by omega)]
          · rw [if_neg hq, if_neg hq]
        rw [hcells]
        refine d.M_move (fun k hk => hfar k (fun he => hk.2 (by rw [he]; exact hgo))) hold
end
section
variable {α : Type} {enc : α → Value} {h1 : ∀ x, (enc x).oneCell' = true} {e base g o n cap : Nat} {ok : Nat → Prop} {W : World} {xs : List α}
theorem Q_cell (d : α) (h : (scalar enc h1).Q e W base ok (.slice (some ⟨g, o, none⟩) n cap) xs) (i : Int) (h0 : 0 ≤ i) (hi : i < n) : W.cell? ⟨g, o + i.toNat, none⟩ = some (enc (rdOf d xs i)) ∧ W.frozen? ⟨g, o + i.toNat, none⟩ = false := by
  obtain ⟨c, _, hM, hcc, hf⟩ := Q_elem h d i h0 hi
  have hM' : c = [enc (xs.getD i.toNat d)] := hM
  subst hM'
  have h2 := hcc 0 _ rfl
  have h3 := hf 0
  rw [show (scalar enc h1).sz = 1 from rfl, Nat.mul_one, Nat.add_zero] at h2 h3
  exact ⟨h2, h3⟩
theorem Q_putg (h : (scalar enc h1).Q e W base ok (.slice (some ⟨g, o, none⟩) n cap) xs) (i : Int) (h0 : 0 ≤ i) (hi : i < n) (x : α) : (scalar enc h1).Q e (W.setCell ⟨g, o + i.toNat, none⟩ (enc x)) base ok (.slice (some ⟨g, o, none⟩) n cap) (xs.set i.toNat x) ∧ W.grownBy (W.setCell ⟨g, o + i.toNat, none⟩ (enc x)) (some g) := by
  have hp : 0 < xs.length := by have := (Q_reads' h).1; omega
  obtain ⟨c, hcl, _, hcc, _⟩ := Q_elem h (xs[0]'hp) i h0 hi
  have h2 := Q_seg h i h0 hi (c := c) (seg := [enc x]) (j := 0) (okp := fun _ => False) (x' := x) hcl hcc (Nat.le_refl 1) (by
    have hl : c.length = 1 := hcl
    show c.take 0 ++ [enc x] ++ c.drop (0 + 1) = [enc x]
    rw [List.drop_eq_nil_of_le (by omega)]
    rfl) (fun _ hk => hk.elim)
  rw [show (scalar enc h1).sz = 1 from rfl, Nat.mul_one, Nat.add_zero] at h2
  exact h2
end
end Kd
end Go.Proofs.YtofdnnjkfpomcaaW.PrintWords

-- PRINTED BY print.sh 35421559b90ae4d0a3588c463048766b98c2df88dd9212a6774a882060cdf62d: not written by this session
/-! ### 40. Elements whose inner rows lie apart: what is stored into one says nothing of the others.
   S: as R, with an owner function f (block to element's index). H: as S with a hole: of element i its cells alone are told, its blocks are oki. -/
namespace Go.Proofs.YtofdnnjkfpomcaaW.PrintWords
open Go.RowKit
namespace Kd
/-- An element with its index: its blocks are those that f gives to it. -/
def tag {α : Type} (f : Nat → Nat) (d : Kd α) : Kd (α × Nat) where
  sz := d.sz
  E := d.E
  K := fun w x cs => d.K w x.1 cs
  M := fun w base ok x cs => d.M w base (fun k => ok k ∧ f k = x.2) x.1 cs
  K_len := fun h => d.K_len h
  K_one := fun h => d.K_one h
  K_below := fun hb h => d.K_below hb h
  K_of_M := fun h => d.K_of_M h
  M_mono := fun hok h => d.M_mono (fun k hk => ⟨hok k hk.1, hk.2⟩) h
  M_bound := fun h => d.M_mono (fun _ hk => ⟨⟨hk.1.1, hk.2⟩, hk.1.2⟩) (d.M_bound h)
  M_move := fun hm h => d.M_move (fun k hk => hm k hk.1) h
  M_lower := fun hb h => d.M_lower hb h
/-- The cells themselves. -/
def raw (sz : Nat) : Kd (List Value) where
  sz := sz
  E := []
  K := fun _ x cs => cs = x ∧ cs.length = sz ∧ ∀ u ∈ cs, u.oneCell' = true
  M := fun _ _ _ x cs => cs = x ∧ cs.length = sz ∧ ∀ u ∈ cs, u.oneCell' = true
  K_len := fun h => h.2.1
  K_one := fun h => h.2.2
  K_below := fun _ h => h
  K_of_M := fun h => h
  M_mono := fun _ h => h
  M_bound := fun h => h
  M_move := fun _ h => h
  M_lower := fun _ h => h
/-- A row of elements (type e) of the call's own, no two of which lead to one block. -/
def S {α : Type} (d : Kd α) (e : Nat) (w : World) (base : Nat) (ok : Nat → Prop) (v : Value) (xs : List α) : Prop := ∃ f, (tag f d).R e w base ok v xs.zipIdx
section
variable {α β : Type} {d : Kd α} {d' : Kd β} {e e' : Nat} {w w1 W : World} {base b : Nat} {ok ok' okv oku : Nat → Prop} {u v : Value} {xs : List α} {ys : List β}
end
section
variable {α β : Type} {d : Kd α} {d' : Kd β} {e e' g : Nat} {w w1 W : World} {base b : Nat} {ok ok' okv oku : Nat → Prop} {u v : Value} {xs : List α} {ys : List β}
end
/-! #### append, make, literals: the new element's blocks are none of the elder ones' -/
section
variable {P : Program} {ops : Array Oper} {rest : List Oper} {o : Oper} {a : Act} {Q : Exit → Act → World → Prop} {Kc : Act → World → Prop} {α : Type}
end
/-! #### a row with a hole: element i is lent, its blocks are oki; of it the row says its cells alone -/
/-- Element i is these cells; the others are d's. -/
def gap {α : Type} (f : Nat → Nat) (d : Kd α) (i : Nat) (c : List Value) : Kd (α × Nat) where
  sz := d.sz
  E := d.E
  K := fun w x cs => (x.2 = i → cs = c ∧ cs.length = d.sz ∧ ∀ u ∈ cs, u.oneCell' = true) ∧ (x.2 ≠ i → d.K w x.1 cs)
  M := fun w base ok x cs => (x.2 = i → cs = c ∧ cs.length = d.sz ∧ ∀ u ∈ cs, u.oneCell' = true) ∧ (x.2 ≠ i → d.M w base (fun k => ok k ∧ f k = x.2) x.1 cs)
  K_len := fun {w x cs} h => by
    by_cases hx : x.2 = i
    · exact (h.1 hx).2.1
    · exact d.K_len (h.2 hx)
  K_one := fun {w x cs} h => by
    by_cases hx : x.2 = i
    · exact (h.1 hx).2.2
    · exact d.K_one (h.2 hx)
  K_below := fun hb h => ⟨h.1, fun hx => d.K_below hb (h.2 hx)⟩
  K_of_M := fun h => ⟨h.1, fun hx => d.K_of_M (h.2 hx)⟩
  M_mono := fun hok h => ⟨h.1, fun hx => d.M_mono (fun k hk => ⟨hok k hk.1, hk.2⟩) (h.2 hx)⟩
  M_bound := fun h => ⟨h.1, fun hx => d.M_mono (fun _ hk => ⟨⟨hk.1.1, hk.2⟩, hk.1.2⟩) (d.M_bound (h.2 hx))⟩
  M_move := fun hm h => ⟨h.1, fun hx => d.M_move (fun k hk => hm k hk.1) (h.2 hx)⟩
  M_lower := fun hb h => ⟨h.1, fun hx => d.M_lower hb (h.2 hx)⟩
def H {α : Type} (d : Kd α) (e : Nat) (w : World) (base : Nat) (ok : Nat → Prop) (v : Value) (xs : List α) (i : Int) (oki : Nat → Prop) (c : List Value) : Prop :=
  (∀ k, oki k → ok k) ∧ ∃ f, (gap f d i.toNat c).R e w base (fun k => ok k ∧ ¬ oki k) v xs.zipIdx
section
variable {α β : Type} {d : Kd α} {e e' g n cap : Nat} {w w1 W : World} {base : Nat} {ok ok' oki okp : Nat → Prop} {u v : Value} {xs : List α} {i : Int} {c : List Value}
end
section
variable {P : Program} {ops : Array Oper} {rest : List Oper} {o : Oper} {a : Act} {Q : Exit → Act → World → Prop} {α : Type}
end
end Kd
end Go.Proofs.YtofdnnjkfpomcaaW.PrintWords

-- PRINTED BY print.sh 35421559b90ae4d0a3588c463048766b98c2df88dd9212a6774a882060cdf62d: not written by this session
/-! ### 41. Arrays '[n]T' as_ values: a kind (a field, an element of a row), an element read, an element set -/
namespace Go.Proofs.YtofdnnjkfpomcaaW.PrintWords
open Go.RowKit
namespace Kd
theorem reps_one {α : Type} {R : α → List Value → Prop} {size : Nat} {ps : List α} {cs : List Value} (h : Reps R size ps cs) (hs0 : 0 < size) (hR : ∀ p c, R p c → ∀ u ∈ c, u.oneCell' = true) : ∀ u ∈ cs, u.oneCell' = true := by
  intro u hu
  obtain ⟨q, hq, rfl⟩ := List.mem_iff_getElem.1 hu
  have hql : q / size < ps.length := by
    rw [Nat.div_lt_iff_lt_mul hs0, ← h.1]
    exact hq
  refine hR _ _ (h.2 (q / size) _ (List.getElem?_eq_getElem hql)) _ ?_
  rw [List.mem_iff_getElem?]
  refine ⟨q % size, ?_⟩
  rw [List.getElem?_take, if_pos (Nat.mod_lt _ hs0), List.getElem?_drop, Nat.mul_comm, Nat.div_add_mod, List.getElem?_eq_getElem hq]
/-- An array of n elements of kind d. -/
def arr {α : Type} (n : Nat) (d : Kd α) (hs : 0 < d.sz) : Kd (List α) where
  sz := n * d.sz
  E := d.E
  K := fun w xs cs => xs.length = n ∧ Reps (d.K w) d.sz xs cs
  M := fun w base ok xs cs => xs.length = n ∧ Reps (d.M w base ok) d.sz xs cs
  K_len := fun h => by rw [← h.1]; exact h.2.1
  K_one := fun h => reps_one h.2 hs (fun _ _ hk => d.K_one hk)
  K_below := fun hb h => ⟨h.1, h.2.imp_ (fun _ _ hk => d.K_below hb hk)⟩
  K_of_M := fun h => ⟨h.1, h.2.imp_ (fun _ _ hk => d.K_of_M hk)⟩
  M_mono := fun hok h => ⟨h.1, h.2.imp_ (fun _ _ hk => d.M_mono hok hk)⟩
  M_bound := fun h => ⟨h.1, h.2.imp_ (fun _ _ hk => d.M_bound hk)⟩
  M_move := fun hm h => ⟨h.1, h.2.imp_ (fun _ _ hk => d.M_move hm hk)⟩
  M_lower := fun hb h => ⟨h.1, h.2.imp_ (fun _ _ hk => d.M_lower hb hk)⟩
section
variable {α : Type} {n : Nat} {d : Kd α} {hs : 0 < d.sz} {w : World} {base : Nat} {ok : Nat → Prop} {xs : List α} {cs : List Value}
end
section
variable {α : Type} {n : Nat} {enc : α → Value} {h1 : ∀ x, (enc x).oneCell' = true} {hs : 0 < (scalar enc h1).sz} {w : World} {base : Nat} {ok : Nat → Prop} {xs : List α} {cs : List Value}
end
end Kd
end Go.Proofs.YtofdnnjkfpomcaaW.PrintWords

-- PRINTED BY print.sh 35421559b90ae4d0a3588c463048766b98c2df88dd9212a6774a882060cdf62d: not written by this session
/-! ### 42. append(v, make([]T, n)...): the operation comes as_ append with the number in the second place -/
namespace Go.Proofs.YtofdnnjkfpomcaaW.PrintWords
open Go.RowKit
section
variable {P : Program}
end
namespace Kd
section
variable {P : Program} {ops : Array Oper} {rest : List Oper} {o : Oper} {a : Act} {Q : Exit → Act → World → Prop} {Kc : Act → World → Prop} {α : Type}
end
/-! #### the same for rows whose elements lie apart -/
section
variable {α : Type} {d : Kd α} {e : Nat} {w : World} {base : Nat} {ok : Nat → Prop} {v : Value} {xs : List α}
end
section
variable {P : Program} {ops : Array Oper} {rest : List Oper} {o : Oper} {a : Act} {Q : Exit → Act → World → Prop} {Kc : Act → World → Prop} {α : Type}
end
end Kd
end Go.Proofs.YtofdnnjkfpomcaaW.PrintWords

-- PRINTED BY print.sh 35421559b90ae4d0a3588c463048766b98c2df88dd9212a6774a882060cdf62d: not written by this session
/-! ### 43. What is read beside a state: it stays read whatever the state's calls turn ('∀ W', KeepBut w W' g none → d.C W' A n xs') -/
namespace Go.Proofs.YtofdnnjkfpomcaaW.PrintWords
open Go.RowKit
namespace Kd
/-- What a kind reads lies in the blocks: nothing else of the world is looked at. -/
structure Heap {α : Type} (d : Kd α) : Prop where
  K : ∀ {w w1 : World} {x : α} {cs : List Value}, (∀ k, k < w.heap.size → w1.heap[k]? = w.heap[k]?) → d.K w x cs → d.K w1 x cs
theorem cell_heap {w w1 : World} (hb : ∀ k, k < w.heap.size → w1.heap[k]? = w.heap[k]?) {a : Addr} {v : Value} (h : w.cell? a = some v) : w1.cell? a = some v := by
  have := hb a.block (World.block_lt_of_cell? w a h)
  simpa [World.cell?, this] using h
theorem Heap.C {α : Type} {d : Kd α} (hd : Heap d) {w w1 : World} {A : Option Addr} {n : Nat} {xs : List α} (hb : ∀ k, k < w.heap.size → w1.heap[k]? = w.heap[k]?) (h : d.C w A n xs) : d.C w1 A n xs :=
  ⟨h.1, h.2.1, fun hn => by
    obtain ⟨ad, e, hc⟩ := h.2.2 hn
    refine ⟨ad, e, fun j p hj => ?_⟩
    obtain ⟨c, hs, hr, hcell⟩ := hc j p hj
    exact ⟨c, hs, hd.K hb hr, fun i u hu => cell_heap hb (hcell i u hu)⟩⟩
section
variable {α : Type} {d : Kd α} {e base g n c : Nat} {ok : Nat → Prop} {w w0 W : World} {A : Option Addr} {xs : List α}
end
end Kd
end Go.Proofs.YtofdnnjkfpomcaaW.PrintWords

-- PRINTED BY print.sh 35421559b90ae4d0a3588c463048766b98c2df88dd9212a6774a882060cdf62d: not written by this session
/-! ### 45. What a call keeps: all but the blocks of S (the rows that it was given to write) and what is new since -/
namespace Go.Proofs.YtofdnnjkfpomcaaW.PrintWords
open Go.RowKit
def Kept (w W : World) (S : Nat → Prop) : Prop := w.heap.size ≤ W.heap.size ∧ ∀ i, i < w.heap.size → ¬ S i → W.heap[i]? = w.heap[i]?
section
variable {w W W2 : World} {S S2 S' : Nat → Prop}
theorem Kept.refl (w : World) (S : Nat → Prop) : Kept w w S := ⟨Nat.le_refl _, fun _ _ _ => rfl⟩
theorem Kept.of_below (h : Below w.heap.size w W) (S : Nat → Prop) : Kept w W S := ⟨h.size, fun i hi _ => h.block i hi⟩
theorem Kept.mono (h : Kept w W S) (hs : ∀ k, S k → S' k) : Kept w W S' := ⟨h.1, fun i hi hn => h.2 i hi (fun hk => hn (hs i hk))⟩
theorem Kept.then_ (h : Kept w W S) (k : Kept W W2 S2) (hs : ∀ k, S2 k → S k ∨ w.heap.size ≤ k) : Kept w W2 S :=
  ⟨Nat.le_trans h.1 k.1, fun i hi hn => (k.2 i (Nat.lt_of_lt_of_le hi h.1) (fun h2 => (hs i h2).elim hn (fun h3 => by omega))).trans (h.2 i hi hn)⟩
theorem Kept.below (h : Kept w W S) (hb : Below W.heap.size W W2) : Kept w W2 S := h.then_ (Kept.of_below hb (fun _ => False)) (fun _ hk => hk.elim)
theorem Kept.alloc (h : Kept w W S) (o : Obj) : Kept w (W.alloc o) S := h.below (below_alloc (Below.refl _ _) o)
theorem Kept.drew (h : Kept w W S) : Kept w W.drew S := h
theorem Kept.drewN (h : Kept w W S) (m : Nat) : Kept w (W.drewN m) S := h
theorem Kept.setCell (h : Kept w W S) {p : Addr} (hp : S p.block ∨ w.heap.size ≤ p.block) (u : Value) : Kept w (W.setCell p u) S :=
  h.then_ (S2 := fun k => k = p.block) ⟨by simp [World.setCell], fun i _ hn => Below.heap_setCell W p u i hn⟩ (fun k hk => by rw [hk]; exact hp)
/-- Beside a state: what was written is new since. -/
theorem Kept.keep {g : Nat} (h : KeepBut w W g none) (k : Kept W W2 S2) (hs : ∀ k, S2 k → w.heap.size ≤ k) : KeepBut w W2 g none :=
  ⟨Nat.le_trans h.1 k.1, fun i hi hg hr => (k.2 i (Nat.lt_of_lt_of_le hi h.1) (fun h2 => by have := hs i h2; omega)).trans (h.2 i hi hg hr)⟩
theorem cell_kept {a : Addr} {v : Value} (hc : W.cell? a = some v) (hk : Kept W W2 S) (hne : ¬ S a.block) : W2.cell? a = some v := by
  have := hk.2 a.block (World.block_lt_of_cell? W a hc) hne
  simpa [World.cell?, this] using hc
end
namespace Kd
section
variable {α : Type} {d : Kd α} {e base n c : Nat} {ok oki S S2 : Nat → Prop} {w w0 W W1 W2 : World} {v : Value} {A : Option Addr} {xs : List α} {i : Int} {cs : List Value}
end
end Kd
end Go.Proofs.YtofdnnjkfpomcaaW.PrintWords

-- PRINTED BY print.sh 35421559b90ae4d0a3588c463048766b98c2df88dd9212a6774a882060cdf62d: not written by this session
/-! ### 46. Values that share: what is only read, with the blocks it lies in (its footprint 'ok'): Foot, F (a row that is read), FK (an element's cells) -/
namespace Go.Proofs.YtofdnnjkfpomcaaW.PrintWords
open Go.RowKit
/-- P holds in W and in every world that has W's blocks of ok. -/
def Foot (P : World → Prop) (W : World) (ok : Nat → Prop) : Prop := ∀ W' : World, (∀ k, ok k → k < W.heap.size → W'.heap[k]? = W.heap[k]?) → P W'
theorem heap_lt {W W1 : World} {k : Nat} (h : W1.heap[k]? = W.heap[k]?) (hlt : k < W.heap.size) : k < W1.heap.size := by
  rw [Array.getElem?_eq_getElem hlt] at h
  exact (Array.getElem?_eq_some_iff.1 h).1
namespace Foot
variable {P Q : World → Prop} {W W1 : World} {ok ok' : Nat → Prop}
theorem now (h : Foot P W ok) : P W := h W (fun _ _ _ => rfl)
theorem mono (h : Foot P W ok) (hok : ∀ k, ok k → ok' k) : Foot P W ok' := fun W' hW => h W' (fun k hk hlt => hW k (hok k hk) hlt)
theorem bound (h : Foot P W ok) : Foot P W (fun k => ok k ∧ k < W.heap.size) := fun W' hW => h W' (fun k hk hlt => hW k ⟨hk, hlt⟩ hlt)
theorem step (h : Foot P W ok) (hm : ∀ k, ok k → k < W.heap.size → W1.heap[k]? = W.heap[k]?) : Foot P W1 ok := fun W' hW => h W' (fun k hk hlt => (hW k hk (heap_lt (hm k hk hlt) hlt)).trans (hm k hk hlt))
theorem imp (h : Foot P W ok) (hi : ∀ W', P W' → Q W') : Foot Q W ok := fun W' hW => hi W' (h W' hW)
/-- Moved, and still elder than what is new since W. -/
theorem old (h : Foot P W ok) (hb : Below W.heap.size W W1) : Foot P W1 (fun k => ok k ∧ k < W.heap.size) := (h.bound).step (fun k _ hlt => hb.block k hlt)
end Foot
namespace Kd
/-- A row that is only read: what it leads to lies in ok. -/
def F {α : Type} (d : Kd α) (W : World) (ok : Nat → Prop) (A : Option Addr) (n : Nat) (xs : List α) : Prop := Foot (fun W => d.C W A n xs) W ok
/-- An element's cells: what they lead to lies in ok. -/
def FK {α : Type} (d : Kd α) (W : World) (ok : Nat → Prop) (x : α) (c : List Value) : Prop := Foot (fun W => d.K W x c) W ok
section
variable {α β : Type} {d : Kd α} {e base n n' cc g N : Nat} {ok ok' okp S : Nat → Prop} {w w0 w1 W W1 : World} {A A' : Option Addr} {u v v1 : Value} {xs : List α} {xs' : List β} {d' : Kd β} {x : α} {c : List Value}
end
end Kd
end Go.Proofs.YtofdnnjkfpomcaaW.PrintWords

-- PRINTED BY print.sh 35421559b90ae4d0a3588c463048766b98c2df88dd9212a6774a882060cdf62d: not written by this session
/-! ### 47. N: a row of the call's own whose elements share (what they lead to is only read) -/
namespace Go.Proofs.YtofdnnjkfpomcaaW.PrintWords
open Go.RowKit
namespace Kd
/-- The cells one behind the other, element by element. -/
def chunks (sz : Nat) (n : Nat) (inner : List Value) : List (List Value) := (List.range n).map fun j => (inner.drop (j * sz)).take sz
section
variable {α : Type} {d : Kd α} {e base n cc g : Nat} {ok ok' okp S : Nat → Prop} {w w1 W W1 : World} {A : Option Addr} {u v v1 : Value} {xs : List α} {x : α} {c : List Value}
/-- A row of elements (type e) of the call's own; what the elements lead to is only read, and is not this row. -/
def N {α : Type} (d : Kd α) (e : Nat) (w : World) (base : Nat) (ok : Nat → Prop) (v : Value) (xs : List α) : Prop :=
  (∀ k, v.ownBlock = some k → ok k) ∧ ∃ rows : List (List Value), rows.length = xs.length ∧ (raw d.sz).R e w base (fun k => some k = v.ownBlock) v rows ∧ ∀ (j : Nat) (x : α) (c : List Value), xs[j]? = some x → rows[j]? = some c → FK d w (fun k => ok k ∧ some k ≠ v.ownBlock) x c
end
end Kd
end Go.Proofs.YtofdnnjkfpomcaaW.PrintWords

-- PRINTED BY print.sh 35421559b90ae4d0a3588c463048766b98c2df88dd9212a6774a882060cdf62d: not written by this session
/-! ### 48. N's events: append, a whole row appended, zeros appended, literals, make, stores, cuts, an element taken out -/
namespace Go.Proofs.YtofdnnjkfpomcaaW.PrintWords
open Go.RowKit
namespace Kd
section
variable {α : Type} {d : Kd α} {e base n cap g : Nat} {ok ok' okp : Nat → Prop} {w w1 W : World} {v v1 : Value} {xs ys : List α}
end
section
variable {P : Program} {ops : Array Oper} {rest : List Oper} {o : Oper} {a : Act} {Q : Exit → Act → World → Prop} {Kc : Act → World → Prop} {α : Type}
end
end Kd
end Go.Proofs.YtofdnnjkfpomcaaW.PrintWords

-- PRINTED BY print.sh 35421559b90ae4d0a3588c463048766b98c2df88dd9212a6774a882060cdf62d: not written by this session
-- PRINTED WORDS (module Derived/Print/More.lean): go-gate-2's additions: an AI agent of Go's test side, Tue Nov 17 2026; no person has read it. Lean checks it.
namespace Go.Proofs.YtofdnnjkfpomcaaW.PrintMore
open Go.RowKit Go.Proofs.YtofdnnjkfpomcaaW.PrintWords
namespace Kd
open Go.Proofs.YtofdnnjkfpomcaaW.PrintWords.Kd
end Kd

namespace Kd
open Go.Proofs.YtofdnnjkfpomcaaW.PrintWords.Kd
section
variable {α : Type} {d : Kd α} {e base g N : Nat} {ok : Nat → Prop} {W w1 : World} {u v : Value} {xs : List α}
end
end Kd
end Go.Proofs.YtofdnnjkfpomcaaW.PrintMore
namespace Go.Proofs.YtofdnnjkfpomcaaW.PrintWords
open Go.RowKit
section
variable {P : Program} {ops : Array Oper} {rest : List Oper} {o : Oper} {a : Act} {Q : Exit → Act → World → Prop} {W : World}
end
/-- The greater of two whole numbers, as Go's max tells it. -/
def mx (a b : Int) : Int := if a < b then b else a
/-- The smaller of two whole numbers, as Go's min tells it. -/
def mn (a b : Int) : Int := if b < a then b else a
/-- A shift to the left, as Go tells it: a count beyond the width leaves nothing. -/
def shl (k : IntKind) (x y : Int) : Int := k.wrap (x * 2 ^ min y.toNat k.bits)
/-- A shift to the right: a count beyond the width leaves the sign. -/
def shr (k : IntKind) (x y : Int) : Int := x / 2 ^ min y.toNat k.bits
namespace Kd
section
variable {α : Type} {d : Kd α} {e base : Nat} {ok : Nat → Prop} {W w1 : World} {v : Value} {xs : List α}
end
section
variable {α : Type} {d : Kd α} {e base g n cap : Nat} {ok oki okp : Nat → Prop} {W : World} {xs : List α} {i : Int} {c : List Value}
end
section
variable {α : Type} {d : Kd α} {e base b b' g N : Nat} {ok ok1 : Nat → Prop} {W W2 w1 : World} {u v : Value} {xs ys : List α} {S : Nat → Prop}
end
end Kd
end Go.Proofs.YtofdnnjkfpomcaaW.PrintWords
namespace Go.Proofs.YtofdnnjkfpomcaaW.PrintWords
open Go.RowKit
namespace Kd
/-- A row that is only read, told by its value: its form, its length, what it leads to (in ok). e and base say nothing; they make it as the others are. -/
def V {α : Type} (d : Kd α) (_e : Nat) (W : World) (_base : Nat) (ok : Nat → Prop) (v : Value) (xs : List α) : Prop := ∃ A c, v = .slice A xs.length c ∧ xs.length ≤ c ∧ F d W ok A xs.length xs
section
variable {α β : Type} {d : Kd α} {e base base' n m c g N' lo hi : Nat} {ok ok' S : Nat → Prop} {w W w1 : World} {A : Option Addr} {ad : Addr} {u v v1 : Value} {xs : List α}
end
end Kd
end Go.Proofs.YtofdnnjkfpomcaaW.PrintWords

/- What comes in, opened by its kind: a reading as data is a value of the kind. -/
namespace Go.Proofs.Ytofdnnjkfpomcaa.B
open Go.RowKit Go.Deep Go.Proofs.YtofdnnjkfpomcaaW.PrintWords Go.Proofs.YtofdnnjkfpomcaaW.PrintLast Go.Proofs.YtofdnnjkfpomcaaW.PrintMore

/-- Whatever reads as data of type t is of kind d, and wf. -/
structure Rdb {α : Type} (P : Program) (t : TypeId) (d : Kd α) (wf : α → Prop) : Prop where
  run : ∀ {H : Type} (enc : TypeId × Value → H) (w : World) (fuel : Nat) (cs : List Value) (x : DataW H × List MemPlace),
    DataW.trod enc P w 0 (fun _ => true) true fuel t cs = some x → ∃ y, d.K w y cs ∧ wf y

section
variable {P : Program} {t e : TypeId}
theorem Rdb.int {k : IntKind} (h : P.underlying t = some (.int k)) : Rdb P t (Kd.int k) (fun n => (Lit.int k n).wf = true) := by
  refine ⟨?_⟩
  intro H enc w fuel cs x hx
  obtain ⟨n, rfl, _, hw⟩ := DataW.trod_int h hx
  exact ⟨n, rfl, hw⟩
theorem Rdb.bool (h : P.underlying t = some .bool) : Rdb P t Kd.bool (fun _ => True) := by
  refine ⟨?_⟩
  intro H enc w fuel cs x hx
  obtain ⟨n, rfl, _⟩ := DataW.trod_bool h hx
  exact ⟨n, rfl, trivial⟩
theorem Rdb.slice {α : Type} {d : Kd α} {wf : α → Prop} (h : P.underlying t = some (.slice e)) (hc : P.cellsOf e = d.sz) (hd : Rdb P e d wf) : Rdb P t (Kd.slice e d) (fun l => ∀ y ∈ l, wf y) := by
  refine ⟨?_⟩
  intro H enc w fuel cs x hx
  rcases open_slice h hx with ⟨rfl, _⟩ | ⟨a, len, cap, m, n, D, Pl, rfl, _, hl, hm, hmm, _, hi⟩
  · exact ⟨[], ⟨none, 0, rfl, Nat.le_refl _, ⟨rfl, by simp, fun h => absurd h (by simp)⟩⟩, fun y hy => by cases hy⟩
  · have hle : len ≤ m := by rw [hmm]; simp [hl]
    obtain ⟨f, hf⟩ := choose_lt (n := len) (α := Option α) (p := fun i (o : Option α) => ∃ y c, o = some y ∧ d.K w y c ∧ wf y ∧ w.cells? 0 (a.add (i * d.sz)) d.sz = some c) (fun i hil => by
      obtain ⟨c, h1, h2⟩ := hi i (by omega)
      rw [hc] at h1
      obtain ⟨y, hK, hw⟩ := hd.run enc w _ _ _ h2
      exact ⟨some y, y, c, rfl, hK, hw, h1⟩)
    have hall : ∀ i, i < len → (f i).isSome = true := fun i hil => by obtain ⟨y, _, he, _⟩ := hf i hil; rw [he]; rfl
    have hlen : ((List.range len).attach.map (fun i => (f i.1).get (hall i.1 (List.mem_range.1 i.2)))).length = len := by simp
    refine ⟨(List.range len).attach.map (fun i => (f i.1).get (hall i.1 (List.mem_range.1 i.2))), ⟨some a, cap, by rw [hlen], by rw [hlen]; exact hl, ⟨rfl, by rw [hlen]; unfold maxLen at hm; omega, fun _ => ⟨a, rfl, ?_⟩⟩⟩, ?_⟩
    · intro j p hj
      have hjl : j < len := by
        have := (List.getElem?_eq_some_iff.1 hj).1
        rwa [hlen] at this
      obtain ⟨y, c, he, hK, _, hcells⟩ := hf j hjl
      have hp : p = y := by
        have h1 := (List.getElem?_eq_some_iff.1 hj).2
        simp only [List.getElem_map, List.getElem_attach, List.getElem_range] at h1
        rw [← h1]
        simp [he]
      subst hp
      obtain ⟨_, hcl, hcc⟩ := World.cells?_some hcells
      refine ⟨c, d.K_len hK, hK, fun i u hu => ?_⟩
      have hil : i < d.sz := by
        have := (List.getElem?_eq_some_iff.1 hu).1
        omega
      have := hcc i hil
      rw [hu] at this
      rw [← this]
      congr 1
      unfold Addr.add
      by_cases h1 : j * d.sz = 0 <;> by_cases h2 : i = 0 <;> simp [h1, h2, Nat.add_assoc]
    · intro y hy
      obtain ⟨i, hi1, hi2⟩ := List.mem_map.1 hy
      obtain ⟨y', c, he, _, hw, _⟩ := hf i.1 (List.mem_range.1 i.2)
      rw [← hi2]
      simpa [he] using hw
/-- A struct's fields from the place off on. -/
structure OpF {α : Type} (P : Program) (fs : List Field) (off : Nat) (d : Kd α) (wf : α → Prop) : Prop where
  run : ∀ {H : Type} (enc : TypeId × Value → H) (w : World) (fuel : Nat) (cs : List Value),
    cs.length = off + d.sz → (∀ f ∈ fs, ∃ x, DataW.trod enc P w 0 (fun _ => true) true fuel f.type ((cs.drop f.offset).take (P.cellsOf f.type)) = some x) → ∃ y, d.K w y (cs.drop off) ∧ wf y
theorem OpF.one {α : Type} {d : Kd α} {wf : α → Prop} {f : Field} {off : Nat} (ho : f.offset = off) (hc : P.cellsOf f.type = d.sz) (h : Rdb P f.type d wf) : OpF P [f] off d wf := by
  refine ⟨?_⟩
  intro H enc w fuel cs hl hx
  obtain ⟨x, hx⟩ := hx f (by simp)
  obtain ⟨y, hK, hw⟩ := h.run enc w _ _ _ hx
  rw [ho, hc, List.take_of_length_le (by rw [List.length_drop]; omega)] at hK
  exact ⟨y, hK, hw⟩
def WfP {α β : Type} (wf : α → Prop) (wf' : β → Prop) (x : α × β) : Prop := wf x.1 ∧ wf' x.2
theorem Rdb.mono {α : Type} {d : Kd α} {wf wf' : α → Prop} (h : Rdb P t d wf) (hw : ∀ x, wf x → wf' x) : Rdb P t d wf' := ⟨fun enc w fuel cs x hx => let ⟨y, h1, h2⟩ := h.run enc w fuel cs x hx; ⟨y, h1, hw y h2⟩⟩
theorem OpF.cons {α β : Type} {d : Kd α} {d' : Kd β} {wf : α → Prop} {wf' : β → Prop} {f : Field} {fs : List Field} {off : Nat} (ho : f.offset = off) (hc : P.cellsOf f.type = d.sz) (h : Rdb P f.type d wf) (h' : OpF P fs (off + d.sz) d' wf') : OpF P (f :: fs) off (Kd.pair d d') (WfP wf wf') := by
  refine ⟨?_⟩
  intro H enc w fuel cs hl hx
  have hl' : cs.length = off + (d.sz + d'.sz) := hl
  obtain ⟨x, hx0⟩ := hx f (by simp)
  obtain ⟨y, hK, hw⟩ := h.run enc w _ _ _ hx0
  obtain ⟨y', hK', hw'⟩ := h'.run enc w fuel cs (by omega) (fun f hf => hx f (by simp [hf]))
  rw [ho, hc] at hK
  refine ⟨(y, y'), ⟨_, _, ?_, hK, hK'⟩, hw, hw'⟩
  rw [← List.drop_drop, List.take_append_drop]
theorem Rdb.struct {α β : Type} {d : Kd α} {f : β → α} {g : α → β} {wf : α → Prop} {fs : Array Field} (hg : ∀ x, f (g x) = x) (h : P.underlying t = some (.struct fs)) (hc : P.cellsOf t = d.sz) (hf : OpF P fs.toList 0 d wf) : Rdb P t (Kd.iso d f) (fun x => wf (f x)) := by
  refine ⟨?_⟩
  intro H enc w fuel cs x hx
  obtain ⟨xs, n, _, _, hl, hlen, hfs⟩ := DataW.trod_struct h hx
  obtain ⟨y, hK, hw⟩ := hf.run enc w n cs (by rw [hl, hc]; omega) (fun fd hfd => by
    obtain ⟨i, hi, he⟩ := List.mem_iff_getElem.1 hfd
    have hi' : i < fs.size := by simpa using hi
    have := hfs i fd (by rw [Array.getElem?_eq_getElem hi']; simp only [Option.some.injEq]; rw [← he]; simp)
    rw [List.getElem?_eq_getElem (by omega)] at this
    exact ⟨_, this⟩)
  refine ⟨g y, ?_, ?_⟩
  · show d.K w (f (g y)) cs
    rw [hg]
    simpa using hK
  · show wf (f (g y))
    rw [hg]
    exact hw
/-- A slice's length is that of its datum. -/
theorem slice_len {H : Type} {enc : TypeId × Value → H} {w : World} {fuel : Nat} {A : Option Addr} {n c : Nat} {x : DataW H × List MemPlace} (h : P.underlying t = some (.slice e))
    (hx : DataW.trod enc P w 0 (fun _ => true) true fuel t [.slice A n c] = some x) : (x.1 = .nil ∧ n = 0) ∨ ∃ elems spare, x.1 = .slice elems spare ∧ elems.length = n := by
  rcases open_slice h hx with ⟨h1, rfl⟩ | ⟨a, len, cap, m, _, D, Pl, h1, _, hl, hm, hmm, rfl, hi⟩
  · simp only [List.cons.injEq, Value.slice.injEq, and_true] at h1
    exact .inl ⟨rfl, h1.2.1⟩
  · simp only [List.cons.injEq, Value.slice.injEq, and_true] at h1
    exact .inr ⟨_, _, rfl, by simp [h1.2.1]⟩
end
end Go.Proofs.Ytofdnnjkfpomcaa.B

/- The kinds of the struct types: written by gen.py (this session's) out of the translation's types. -/
namespace Go.Proofs.Ytofdnnjkfpomcaa.B
open Go.RowKit Go.Deep Go.Proofs.YtofdnnjkfpomcaaW.PrintWords Go.Proofs.YtofdnnjkfpomcaaW.PrintLast Go.Proofs.YtofdnnjkfpomcaaW.PrintMore

/-! #### chaplet/api.Config: type 25 -/
structure GConfig where
  nodes : Int
  lines : Int
  words : Int
  sets : Int
  ways : Int
  out : Int
  in_ : Int
  init : (List Int)
  deriving DecidableEq
/-! #### chaplet/api.Packet: type 33 -/
structure GPacket where
  kind : Int
  from_ : Int
  to_ : Int
  iD : Int
  line : Int
  ptr : Int
  state : Int
  flag : Bool
  data : (List Int)
  deriving DecidableEq
def kGPacket : Kd GPacket := Kd.iso (Kd.pair (Kd.int .i64) (Kd.pair (Kd.int .i64) (Kd.pair (Kd.int .i64) (Kd.pair (Kd.int .i64) (Kd.pair (Kd.int .i64) (Kd.pair (Kd.int .i64) (Kd.pair (Kd.int .i64) (Kd.pair Kd.bool (Kd.slice 3 (Kd.int .i64)))))))))) (fun x : GPacket => (x.kind, x.from_, x.to_, x.iD, x.line, x.ptr, x.state, x.flag, x.data))
def wfGPacket (x : GPacket) : Prop := (Lit.int .i64 x.kind).wf = true ∧ (Lit.int .i64 x.from_).wf = true ∧ (Lit.int .i64 x.to_).wf = true ∧ (Lit.int .i64 x.iD).wf = true ∧ (Lit.int .i64 x.line).wf = true ∧ (Lit.int .i64 x.ptr).wf = true ∧ (Lit.int .i64 x.state).wf = true ∧ True ∧ (∀ y ∈ x.data, (Lit.int .i64 y).wf = true)
theorem opGPacket : Rdb Try.prog 33 kGPacket wfGPacket := Rdb.mono (Rdb.struct (d := (Kd.pair (Kd.int .i64) (Kd.pair (Kd.int .i64) (Kd.pair (Kd.int .i64) (Kd.pair (Kd.int .i64) (Kd.pair (Kd.int .i64) (Kd.pair (Kd.int .i64) (Kd.pair (Kd.int .i64) (Kd.pair Kd.bool (Kd.slice 3 (Kd.int .i64))))))))))) (f := fun x : GPacket => (x.kind, x.from_, x.to_, x.iD, x.line, x.ptr, x.state, x.flag, x.data)) (g := fun x : Int × Int × Int × Int × Int × Int × Int × Bool × (List Int) => (⟨x.1, x.2.1, x.2.2.1, x.2.2.2.1, x.2.2.2.2.1, x.2.2.2.2.2.1, x.2.2.2.2.2.2.1, x.2.2.2.2.2.2.2.1, x.2.2.2.2.2.2.2.2⟩ : GPacket)) (fun _ => rfl) Try.underlying33 (by kernel_rfl) (OpF.cons rfl (by kernel_rfl) (Rdb.int Try.underlying3) (OpF.cons rfl (by kernel_rfl) (Rdb.int Try.underlying3) (OpF.cons rfl (by kernel_rfl) (Rdb.int Try.underlying3) (OpF.cons rfl (by kernel_rfl) (Rdb.int Try.underlying3) (OpF.cons rfl (by kernel_rfl) (Rdb.int Try.underlying3) (OpF.cons rfl (by kernel_rfl) (Rdb.int Try.underlying3) (OpF.cons rfl (by kernel_rfl) (Rdb.int Try.underlying3) (OpF.cons rfl (by kernel_rfl) (Rdb.bool Try.underlying4) (OpF.one rfl (by kernel_rfl) (Rdb.slice Try.underlying22 (by kernel_rfl) (Rdb.int Try.underlying3)))))))))))) (fun _ h => h)

/-! #### chaplet/chapletplay.Setup: type 47 -/
structure GSetup where
  nodes : Int
  lines : Int
  words : Int
  sets : Int
  ways : Int
  out : Int
  in_ : Int
  init : (List Int)
  who : (List Int)
  kinds : (List Int)
  addrs : (List Int)
  values : (List Int)
  deriving DecidableEq
def kGSetup : Kd GSetup := Kd.iso (Kd.pair (Kd.int .i64) (Kd.pair (Kd.int .i64) (Kd.pair (Kd.int .i64) (Kd.pair (Kd.int .i64) (Kd.pair (Kd.int .i64) (Kd.pair (Kd.int .i64) (Kd.pair (Kd.int .i64) (Kd.pair (Kd.slice 3 (Kd.int .i64)) (Kd.pair (Kd.slice 3 (Kd.int .i64)) (Kd.pair (Kd.slice 3 (Kd.int .i64)) (Kd.pair (Kd.slice 3 (Kd.int .i64)) (Kd.slice 3 (Kd.int .i64))))))))))))) (fun x : GSetup => (x.nodes, x.lines, x.words, x.sets, x.ways, x.out, x.in_, x.init, x.who, x.kinds, x.addrs, x.values))
theorem kGSetup_open {w : World} {x : GSetup} {cs : List Value} (h : kGSetup.K w x cs) : ∃ A0 c0, ∃ A1 c1, ∃ A2 c2, ∃ A3 c3, ∃ A4 c4, cs = [.int .i64 x.nodes, .int .i64 x.lines, .int .i64 x.words, .int .i64 x.sets, .int .i64 x.ways, .int .i64 x.out, .int .i64 x.in_, .slice A0 x.init.length c0, .slice A1 x.who.length c1, .slice A2 x.kinds.length c2, .slice A3 x.addrs.length c3, .slice A4 x.values.length c4] ∧ x.init.length ≤ c0 ∧ (Kd.int .i64).C w A0 x.init.length x.init ∧ x.who.length ≤ c1 ∧ (Kd.int .i64).C w A1 x.who.length x.who ∧ x.kinds.length ≤ c2 ∧ (Kd.int .i64).C w A2 x.kinds.length x.kinds ∧ x.addrs.length ≤ c3 ∧ (Kd.int .i64).C w A3 x.addrs.length x.addrs ∧ x.values.length ≤ c4 ∧ (Kd.int .i64).C w A4 x.values.length x.values := by
  obtain ⟨_, _, rfl, rfl, ⟨_, _, rfl, rfl, ⟨_, _, rfl, rfl, ⟨_, _, rfl, rfl, ⟨_, _, rfl, rfl, ⟨_, _, rfl, rfl, ⟨_, _, rfl, rfl, ⟨_, _, rfl, ⟨A0, c0, rfl, l0, h0⟩, ⟨_, _, rfl, ⟨A1, c1, rfl, l1, h1⟩, ⟨_, _, rfl, ⟨A2, c2, rfl, l2, h2⟩, ⟨_, _, rfl, ⟨A3, c3, rfl, l3, h3⟩, ⟨A4, c4, rfl, l4, h4⟩⟩⟩⟩⟩⟩⟩⟩⟩⟩⟩⟩ := h
  exact ⟨A0, c0, A1, c1, A2, c2, A3, c3, A4, c4, rfl, l0, h0, l1, h1, l2, h2, l3, h3, l4, h4⟩
def wfGSetup (x : GSetup) : Prop := (Lit.int .i64 x.nodes).wf = true ∧ (Lit.int .i64 x.lines).wf = true ∧ (Lit.int .i64 x.words).wf = true ∧ (Lit.int .i64 x.sets).wf = true ∧ (Lit.int .i64 x.ways).wf = true ∧ (Lit.int .i64 x.out).wf = true ∧ (Lit.int .i64 x.in_).wf = true ∧ (∀ y ∈ x.init, (Lit.int .i64 y).wf = true) ∧ (∀ y ∈ x.who, (Lit.int .i64 y).wf = true) ∧ (∀ y ∈ x.kinds, (Lit.int .i64 y).wf = true) ∧ (∀ y ∈ x.addrs, (Lit.int .i64 y).wf = true) ∧ (∀ y ∈ x.values, (Lit.int .i64 y).wf = true)
theorem opGSetup : Rdb Try.prog 47 kGSetup wfGSetup := Rdb.mono (Rdb.struct (d := (Kd.pair (Kd.int .i64) (Kd.pair (Kd.int .i64) (Kd.pair (Kd.int .i64) (Kd.pair (Kd.int .i64) (Kd.pair (Kd.int .i64) (Kd.pair (Kd.int .i64) (Kd.pair (Kd.int .i64) (Kd.pair (Kd.slice 3 (Kd.int .i64)) (Kd.pair (Kd.slice 3 (Kd.int .i64)) (Kd.pair (Kd.slice 3 (Kd.int .i64)) (Kd.pair (Kd.slice 3 (Kd.int .i64)) (Kd.slice 3 (Kd.int .i64)))))))))))))) (f := fun x : GSetup => (x.nodes, x.lines, x.words, x.sets, x.ways, x.out, x.in_, x.init, x.who, x.kinds, x.addrs, x.values)) (g := fun x : Int × Int × Int × Int × Int × Int × Int × (List Int) × (List Int) × (List Int) × (List Int) × (List Int) => (⟨x.1, x.2.1, x.2.2.1, x.2.2.2.1, x.2.2.2.2.1, x.2.2.2.2.2.1, x.2.2.2.2.2.2.1, x.2.2.2.2.2.2.2.1, x.2.2.2.2.2.2.2.2.1, x.2.2.2.2.2.2.2.2.2.1, x.2.2.2.2.2.2.2.2.2.2.1, x.2.2.2.2.2.2.2.2.2.2.2⟩ : GSetup)) (fun _ => rfl) Try.underlying47 (by kernel_rfl) (OpF.cons rfl (by kernel_rfl) (Rdb.int Try.underlying3) (OpF.cons rfl (by kernel_rfl) (Rdb.int Try.underlying3) (OpF.cons rfl (by kernel_rfl) (Rdb.int Try.underlying3) (OpF.cons rfl (by kernel_rfl) (Rdb.int Try.underlying3) (OpF.cons rfl (by kernel_rfl) (Rdb.int Try.underlying3) (OpF.cons rfl (by kernel_rfl) (Rdb.int Try.underlying3) (OpF.cons rfl (by kernel_rfl) (Rdb.int Try.underlying3) (OpF.cons rfl (by kernel_rfl) (Rdb.slice Try.underlying22 (by kernel_rfl) (Rdb.int Try.underlying3)) (OpF.cons rfl (by kernel_rfl) (Rdb.slice Try.underlying22 (by kernel_rfl) (Rdb.int Try.underlying3)) (OpF.cons rfl (by kernel_rfl) (Rdb.slice Try.underlying22 (by kernel_rfl) (Rdb.int Try.underlying3)) (OpF.cons rfl (by kernel_rfl) (Rdb.slice Try.underlying22 (by kernel_rfl) (Rdb.int Try.underlying3)) (OpF.one rfl (by kernel_rfl) (Rdb.slice Try.underlying22 (by kernel_rfl) (Rdb.int Try.underlying3))))))))))))))) (fun _ h => h)

/-! #### chaplet/chapletlaw06.Act: type 57 -/
structure GAct where
  do_ : Int
  at_ : Int
  bit : Int
  mask : Int
  packet : GPacket
  how : Int
  deriving DecidableEq
def kGAct : Kd GAct := Kd.iso (Kd.pair (Kd.int .i64) (Kd.pair (Kd.int .i64) (Kd.pair (Kd.int .i64) (Kd.pair (Kd.int .u16) (Kd.pair kGPacket (Kd.int .i64)))))) (fun x : GAct => (x.do_, x.at_, x.bit, x.mask, x.packet, x.how))
theorem kGAct_open {w : World} {x : GAct} {cs : List Value} (h : kGAct.K w x cs) : ∃ A0 c0, cs = [.int .i64 x.do_, .int .i64 x.at_, .int .i64 x.bit, .int .u16 x.mask, .int .i64 x.packet.kind, .int .i64 x.packet.from_, .int .i64 x.packet.to_, .int .i64 x.packet.iD, .int .i64 x.packet.line, .int .i64 x.packet.ptr, .int .i64 x.packet.state, .bool x.packet.flag, .slice A0 x.packet.data.length c0, .int .i64 x.how] ∧ x.packet.data.length ≤ c0 ∧ (Kd.int .i64).C w A0 x.packet.data.length x.packet.data := by
  obtain ⟨_, _, rfl, rfl, ⟨_, _, rfl, rfl, ⟨_, _, rfl, rfl, ⟨_, _, rfl, rfl, ⟨_, _, rfl, ⟨_, _, rfl, rfl, ⟨_, _, rfl, rfl, ⟨_, _, rfl, rfl, ⟨_, _, rfl, rfl, ⟨_, _, rfl, rfl, ⟨_, _, rfl, rfl, ⟨_, _, rfl, rfl, ⟨_, _, rfl, rfl, ⟨A0, c0, rfl, l0, h0⟩⟩⟩⟩⟩⟩⟩⟩⟩, rfl⟩⟩⟩⟩⟩ := h
  exact ⟨A0, c0, rfl, l0, h0⟩
def wfGAct (x : GAct) : Prop := (Lit.int .i64 x.do_).wf = true ∧ (Lit.int .i64 x.at_).wf = true ∧ (Lit.int .i64 x.bit).wf = true ∧ (Lit.int .u16 x.mask).wf = true ∧ wfGPacket x.packet ∧ (Lit.int .i64 x.how).wf = true
theorem opGAct : Rdb Try.prog 57 kGAct wfGAct := Rdb.mono (Rdb.struct (d := (Kd.pair (Kd.int .i64) (Kd.pair (Kd.int .i64) (Kd.pair (Kd.int .i64) (Kd.pair (Kd.int .u16) (Kd.pair kGPacket (Kd.int .i64))))))) (f := fun x : GAct => (x.do_, x.at_, x.bit, x.mask, x.packet, x.how)) (g := fun x : Int × Int × Int × Int × GPacket × Int => (⟨x.1, x.2.1, x.2.2.1, x.2.2.2.1, x.2.2.2.2.1, x.2.2.2.2.2⟩ : GAct)) (fun _ => rfl) Try.underlying57 (by kernel_rfl) (OpF.cons rfl (by kernel_rfl) (Rdb.int Try.underlying3) (OpF.cons rfl (by kernel_rfl) (Rdb.int Try.underlying3) (OpF.cons rfl (by kernel_rfl) (Rdb.int Try.underlying3) (OpF.cons rfl (by kernel_rfl) (Rdb.int Try.underlying41) (OpF.cons rfl (by kernel_rfl) (opGPacket) (OpF.one rfl (by kernel_rfl) (Rdb.int Try.underlying3)))))))) (fun _ h => h)

/-! #### chaplet/pool.Pool: type 96 -/
structure GPool where
  l : (List GPacket)
  room : Int
/-! #### chaplet/queue.Queue: type 98 -/
structure GQueue where
  l : (List GPacket)
  room : Int
end Go.Proofs.Ytofdnnjkfpomcaa.B

/- FabricBounds, with its arguments as they are read. -/
namespace Go.Proofs.Ytofdnnjkfpomcaa.B
open Go.RowKit Go.Proofs.YtofdnnjkfpomcaaW.PrintWords Go.Proofs.Ytofdnnjkfpomcaa.E
set_option linter.unusedVariables false
theorem cells_nil {F : Env} {m : Mem} {w : World} : ∀ (i : Nat) (x : C), ([] : List C)[i]? = some x → ∃ u, ([] : List Value)[i]? = some u ∧ CRep F m w x u := fun i x h => by simp at h
theorem cells_cons {F : Env} {m : Mem} {w : World} {x : C} {u : Value} {l : List C} {us : List Value} (h : CRep F m w x u) (hl : ∀ (i : Nat) (x : C), l[i]? = some x → ∃ u, us[i]? = some u ∧ CRep F m w x u) :
    ∀ (i : Nat) (y : C), (x :: l)[i]? = some y → ∃ u', (u :: us)[i]? = some u' ∧ CRep F m w y u' := fun i y hi => by
  cases i with
  | zero => simp at hi; subst hi; exact ⟨u, rfl, h⟩
  | succ i => simpa using hl i y (by simpa using hi)
theorem arg_agg {w : World} {l : List C} {us : List Value} (h0 : us.length = l.length) (h : ∀ (i : Nat) (x : C), l[i]? = some x → ∃ u, us[i]? = some u ∧ CRep (nought w) [] w x u) : V1Rep (nought w) [] w (.agg l) (.agg us.toArray) :=
  ⟨us.toArray, rfl, by simpa using h0, fun i x hi => by simpa using h i x hi⟩
theorem cell_g {w : World} {x : G} {u : Value} (h : GRep (fun k => k < w.heap.size) w x u) : CRep (nought w) [] w (.g x) u := h
def gA (x : GAct) : AC := ⟨x.do_, x.at_, x.bit, BitVec.ofNat 16 x.mask.toNat, ⟨x.packet.kind, x.packet.from_, x.packet.to_, x.packet.iD, x.packet.line, x.packet.ptr, x.packet.state, x.packet.flag, x.packet.data⟩, x.how⟩
def gR (x : GAct) : List G := [.int .i64 (.sym x.do_), .int .i64 (.sym x.at_), .int .i64 (.sym x.bit), .int .u16 (.sym x.mask), .int .i64 (.sym x.packet.kind), .int .i64 (.sym x.packet.from_), .int .i64 (.sym x.packet.to_), .int .i64 (.sym x.packet.iD), .int .i64 (.sym x.packet.line), .int .i64 (.sym x.packet.ptr), .int .i64 (.sym x.packet.state), .bool (.sym x.packet.flag), .rows 1 (nrow .i64 x.packet.data), .int .i64 (.sym x.how)]
theorem acts_rep {w : World} {Ad : Option Addr} {xs : List GAct} {c : Nat} (h : kGAct.C w Ad xs.length xs) (hc : xs.length ≤ c) : GRep (fun k => k < w.heap.size) w (.rows 14 (xs.map gR)) (.slice Ad xs.length c) :=
  rows_rep (d := kGAct) (g := gR) (by decide) (fun x cs hk => by
    obtain ⟨AA, cc, rfl, q1, q2⟩ := kGAct_open hk
    refine ⟨rfl, fun i y hi => ?_⟩
    match i with
    | 0 => cases hi; exact ⟨_, rfl, .int .i64 (.sym x.do_)⟩
    | 1 => cases hi; exact ⟨_, rfl, .int .i64 (.sym x.at_)⟩
    | 2 => cases hi; exact ⟨_, rfl, .int .i64 (.sym x.bit)⟩
    | 3 => cases hi; exact ⟨_, rfl, .int .u16 (.sym x.mask)⟩
    | 4 => cases hi; exact ⟨_, rfl, .int .i64 (.sym x.packet.kind)⟩
    | 5 => cases hi; exact ⟨_, rfl, .int .i64 (.sym x.packet.from_)⟩
    | 6 => cases hi; exact ⟨_, rfl, .int .i64 (.sym x.packet.to_)⟩
    | 7 => cases hi; exact ⟨_, rfl, .int .i64 (.sym x.packet.iD)⟩
    | 8 => cases hi; exact ⟨_, rfl, .int .i64 (.sym x.packet.line)⟩
    | 9 => cases hi; exact ⟨_, rfl, .int .i64 (.sym x.packet.ptr)⟩
    | 10 => cases hi; exact ⟨_, rfl, .int .i64 (.sym x.packet.state)⟩
    | 11 => cases hi; exact ⟨_, rfl, .bool (.sym x.packet.flag)⟩
    | 12 => cases hi; exact ⟨_, rfl, nums_rep q2 q1⟩
    | 13 => cases hi; exact ⟨_, rfl, .int .i64 (.sym x.how)⟩
    | i + 14 => simp [gR] at hi) h hc
theorem act_i64 {y : Int} (h : (Lit.int .i64 y).wf = true) : in64 y := by
  have h2 := wf64 h
  unfold in64
  omega
theorem acts_row {l : List GAct} (h : ∀ y ∈ l, wfGAct y) : l.map gR = (l.map gA).map AC.row ∧ ∀ a ∈ l.map gA, a.ok := by
  refine ⟨?_, fun a ha => ?_⟩
  · rw [List.map_map]
    refine List.map_congr_left fun x hx => ?_
    obtain ⟨b, hb⟩ := wordIs (h x hx).2.2.2.1
    have e : w16 (BitVec.ofNat 16 x.mask.toNat) = x.mask := by
      rw [hb]
      unfold w16
      simp
    show gR x = (gA x).row
    unfold gR AC.row gA
    rw [e]
  · obtain ⟨x, hx, rfl⟩ := List.mem_map.1 ha
    have hw := h x hx
    exact ⟨act_i64 hw.2.1, act_i64 hw.2.2.1, fun y hy => act_i64 (hw.2.2.2.2.1.2.2.2.2.2.2.2.2 y hy)⟩
theorem lawFabricBounds (w : World) (cs0 : List Value) (x0 : GSetup) (r0 : kGSetup.K w x0 cs0) (w0 : wfGSetup x0) (A1 : Option Addr) (c1 : Nat) (l1 : (List GAct)) (r1 : kGAct.C w A1 l1.length l1) (e1 : l1.length ≤ c1) (z1 : l1.length * 128 ≤ 140737488351232) (w1 : (∀ y ∈ l1, wfGAct y)) :
    Calls Try.prog 7 #[.agg cs0.toArray, .slice A1 l1.length c1] w fun e w' => e = .returned (.bool true) ∧ Below w.heap.size w w' := by
  obtain ⟨AA0, cc0, AA1, cc1, AA2, cc2, AA3, cc3, AA4, cc4, rfl, mm0, gg0, mm1, gg1, mm2, gg2, mm3, gg3, mm4, gg4⟩ := kGSetup_open r0
  exact law_calls (E.bounds rfl x0.nodes x0.lines x0.words x0.sets x0.ways x0.out x0.in_ _ _ _ _ _ _ rfl _ _ (acts_row w1).1 (acts_row w1).2) rfl (args_cons (arg_agg rfl (cells_cons (cell_g (.int .i64 (.sym _))) (cells_cons (cell_g (.int .i64 (.sym _))) (cells_cons (cell_g (.int .i64 (.sym _))) (cells_cons (cell_g (.int .i64 (.sym _))) (cells_cons (cell_g (.int .i64 (.sym _))) (cells_cons (cell_g (.int .i64 (.sym _))) (cells_cons (cell_g (.int .i64 (.sym _))) (cells_cons (cell_g (nums_rep gg0 mm0)) (cells_cons (cell_g (nums_rep gg1 mm1)) (cells_cons (cell_g (nums_rep gg2 mm2)) (cells_cons (cell_g (nums_rep gg3 mm3)) (cells_cons (cell_g (nums_rep gg4 mm4)) cells_nil))))))))))))) (args_cons (arg_g (acts_rep r1 e1)) args_nil))
end Go.Proofs.Ytofdnnjkfpomcaa.B
