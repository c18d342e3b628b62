/- Contracts: one memory: made, asked, told; whether events are what it does. -/
import Derived.Test.YtfoookmblfcmhaaPO
import Derived.Test.YtfoookmblfcmhaaTM
namespace Go.Proofs.Ytfoookmblfcmhaa.E
open Go
set_option linter.unusedVariables false
set_option maxRecDepth 100000

/-- The words of the lines below a bound. -/
def firstW (ini : List Int) (w n : Nat) : List Int := (List.range n).flatMap fun i => wordsL ini w i
theorem firstW_step (ini : List Int) (w n : Nat) : firstW ini w (n + 1) = firstW ini w n ++ wordsL ini w n := by
  unfold firstW
  rw [List.range_succ, List.flatMap_append]
  simp
theorem firstW_len (ini : List Int) (w : Nat) : ∀ n, (firstW ini w n).length = n * w
  | 0 => by simp [firstW]
  | n + 1 => by rw [firstW_step, List.length_append, firstW_len ini w n, wordsL_len, Nat.succ_mul]
def CF.first (q : CF) : List Int := firstW q.ini q.c.toNat q.b.toNat
/-- A memory's block. -/
def atB (q : CF) (L : List (List G)) : Blk := .lit 9 [q.cells (.g (.rows 1 L)) ++ [.row 1 1 none]]
/-- What an operation that may be does. -/
def stepA (ws : List Int) (o : OP) : Int × List Int :=
  let was := (ws[o.a.toNat]?).getD 0
  if o.k = 1 then (was, ws) else if o.k = 2 then (0, ws.set o.a.toNat o.v) else if o.k = 3 then (was, ws.set o.a.toNat (IntKind.i64.wrap (was + o.v))) else (0, ws)
theorem stepA_len (ws : List Int) (o : OP) : (stepA ws o).2.length = ws.length := by
  unfold stepA
  simp only
  split
  · rfl
  · split
    · simp
    · split
      · simp
      · rfl
theorem okOp_in {q : CF} {o : OP} (h : okOp q o = true) : (1 ≤ o.k ∧ o.k ≤ 4) ∧ (0 ≤ o.a ∧ o.a < q.b * q.c) := by
  unfold okOp at h
  simp only [Bool.and_eq_true, decide_eq_true_eq] at h
  exact ⟨⟨h.1.1.1, h.1.1.2⟩, h.1.2⟩
theorem bc_nat (q : CF) (hq : q.ok) : q.b * q.c = ((q.b.toNat * q.c.toNat : Nat) : Int) ∧ q.b.toNat * q.c.toNat ≤ 8 := by
  obtain ⟨-, hb, hc, -, -, -⟩ := hq
  have h1 : q.b = ((q.b.toNat : Nat) : Int) := by omega
  have h2 : q.c = ((q.c.toNat : Nat) : Int) := by omega
  refine ⟨?_, ?_⟩
  · rw [Int.natCast_mul, ← h1, ← h2]
  · have : q.b.toNat * q.c.toNat ≤ 4 * 2 := Nat.mul_le_mul (by omega) (by omega)
    omega
/-- An operation alone, and no others: programs. -/
def alone (an : Nat) (o : OP) : List (List OP) := [o] :: List.replicate (an - 1) []
theorem alone_ok (q : CF) (hq : q.ok) (an : Nat) (ha : isN q.a an) (o : OP) : okProgs q (alone an o) = okOp q o := by
  obtain ⟨h1, h2⟩ := hq.ha
  unfold isN at ha
  unfold okProgs alone
  have e1 : ∀ n, (List.replicate n ([] : List OP)).any (badProg q) = false := fun n => by
    rw [List.any_eq_false]
    intro x hx
    rw [List.eq_of_mem_replicate hx]
    unfold badProg
    simp
  rw [List.any_cons, e1, Bool.or_false]
  have e2 : badProg q [o] = !okOp q o := by
    unfold badProg
    simp
  rw [e2]
  have e3 : (([o] :: List.replicate (an - 1) ([] : List OP)).length : Int) = q.a := by
    rw [List.length_cons, List.length_replicate, ha]
    omega
  rw [decide_eq_true e3]
  simp
theorem alone_is (an : Nat) (h : 1 ≤ an) (o : OP) : isPs (ints.set (ints.rep an [.nil]) 0 [.rows 3 [o.row]]) (alone an o) := by
  show isPs ((List.replicate an [G.nil]).set 0 [.rows 3 [o.row]]) _
  unfold alone
  obtain ⟨k, rfl⟩ : ∃ k, an = k + 1 := ⟨an - 1, by omega⟩
  rw [List.replicate_succ, List.set_cons_zero, Nat.add_sub_cancel]
  refine ⟨by simp, fun i ops hi => ?_⟩
  cases i with
  | zero => simp at hi; subst hi; exact ⟨_, rfl, .inl ⟨_, rfl, rfl⟩⟩
  | succ i =>
    simp only [List.getElem?_cons_succ] at hi ⊢
    rw [List.getElem?_replicate] at hi ⊢
    split at hi
    · rename_i hlt
      rw [if_pos hlt]
      cases hi
      exact ⟨_, rfl, .inr ⟨rfl, rfl⟩⟩
    · cases hi
section
variable {P : Program} (hp : P = Try.prog)
include hp
set_option maxHeartbeats 4000000 in
theorem anew (q : CF) (hq : q.ok) (L : List (List G)) (hL : isL .i64 L q.ini) : LValid P 8 [q.told L] [] (fun v m1 => ∃ WL, isL .i64 WL q.first ∧ v = .one (.c (.ptr 0 (.lit 0) 9 0)) ∧ m1 = [atB q L, .sym 1 WL]) := by
  obtain ⟨I, hI⟩ := ref
  have hq0 := hq
  obtain ⟨-, hb, hc, -, -, -⟩ := hq
  have hws := fun (z : Z) (i : Nat) h1 h2 => words hp q hq0 L hL z i h1 h2
  unfold CF.first
  obtain ⟨cn, hcn⟩ : ∃ cn, cn = q.c.toNat := ⟨_, rfl⟩
  have hc2 : cn ≤ 2 := by omega
  obtain ⟨bn, hbe⟩ : ∃ bn, bn = q.b.toNat := ⟨_, rfl⟩
  have hbn : isN q.b bn := by unfold isN; omega
  rw [← hcn, ← hbe]
  have hws : ∀ (z : Z) (i : Nat), isN z.val i → i < bn → LValid P 21 [q.arg L, .c (.g (.int .i64 z))] [] (fun v m1 => ∃ W, isL .i64 W (wordsL q.ini cn i) ∧ v = .one (.c (.g (.rows 1 W))) ∧ m1 = []) := fun z i h1 h2 => by
    rw [hcn]
    exact hws z i h1 (by omega)
  have hb4 : bn ≤ 4 := by omega
  clear hbe hcn hb hc
  obtain ⟨qa, qb, qc, qd, qe, qf, qg, ini⟩ := q
  have hbn : isN qb bn := hbn
  show LValid P _ _ [] (fun v m1 => ∃ WL, isL .i64 WL (firstW ini cn bn) ∧ v = .one (.c (.ptr 0 (.lit 0) 9 0)) ∧ m1 = [atB ⟨qa, qb, qc, qd, qe, qf, qg, ini⟩ L, .sym 1 WL])
  refine fn_sim hI (mo hp) (cc hp c8) fun Post hP => ?_
  cbv
  refine .ownc 1 9 0 8 1 _ _ rfl rfl rfl ?_
  refine .loop_next (fun n ts m => ∃ (i : Nat) (z : Int) (WL : List (List G)), n = bn - i ∧ isN z i ∧ i ≤ bn ∧ isL .i64 WL (firstW ini cn i) ∧
      ts = fr 26 [(1, .one (.c (.ptr 0 (.lit 0) 8 0))), (3, .one (.c (.ptr 1 (.lit 0) 9 0))), (9, i64 qb), (10, i64 z)] ∧
      m = [.lit 8 [cfg (.sym qa) (.sym qb) (.sym qc) (.sym qd) (.sym qe) (.sym qf) (.sym qg) (.g (.rows 1 L))], .lit 9 [cfg (.sym qa) (.sym qb) (.sym qc) (.sym qd) (.sym qe) (.sym qf) (.sym qg) (.g (.rows 1 L)) ++ [.row 2 1 none]], .sym 1 WL])
    bn _ _ [0, 1, 2] [] [1, 3, 9, 10] (by decide) rfl rfl rfl ⟨0, 0, [], rfl, rfl, Nat.zero_le _, rfl, rfl, rfl⟩ ?_
  rintro next n hnext ts m ⟨i, z, WL, hn, hz, hi, hW, rfl, rfl⟩
  cbv
  refine .br (fun g1 => ?_) (fun g1 => ?_)
  · have hi1 : i < bn := by
      have : z < qb := by simpa [hI, ints, rCmp] using g1
      unfold isN at hz hbn
      omega
    have hz1 : isN (I.bin .add .i64 z 1) (i + 1) := by unfold isN at hz ⊢; rw [hI]; simp only [ints, rBin]; rw [wrap_in] <;> omega
    have hcall := hws (.sym z) i hz hi1
    have hW2 : ∀ W, isL .i64 W (wordsL ini cn i) → isL .i64 (I.app WL W) (firstW ini cn (i + 1)) ∧ I.len (I.app WL W) ≤ 8 := fun W h => by
      have h1 : isL .i64 (I.app WL W) (firstW ini cn (i + 1)) := by
        rw [firstW_step, hI]
        unfold isL at hW h ⊢
        rw [hW, h]
        simp [nrow, ints]
      refine ⟨h1, ?_⟩
      have h2 := h1.len
      rw [firstW_len] at h2
      rw [hI] at h2 ⊢
      show (ints.app WL W).length ≤ 8
      rw [h2]
      have : (i + 1) * cn ≤ 4 * 2 := Nat.mul_le_mul (by omega) hc2
      omega
    clear g1 hws
    cbv
    refine .drawn [1, 2] ?_
    cbv
    refine .both ?_ ?_
    all_goals
      cbv
      refine .go [] [] [.bor 1] hcall rfl rfl rfl rfl rfl rfl ?_
      rintro v m1 ⟨W, hWW, rfl, rfl⟩
      obtain ⟨h3, h4⟩ := hW2 W hWW
      clear hcall hW2
      cbv
      refine .most (show I.len (I.app WL W) * 8 ≤ 140737488355328 from by omega) (show I.len (I.app WL W) ≤ 140737488355328 from by omega) ?_
      cbv
      exact hnext _ _ (bn - (i + 1)) [0, 1, 3] [] [1, 3, 9, 10] _ _ (by omega) (by decide) rfl rfl rfl ⟨i + 1, _, _, rfl, hz1, hi1, h3, rfl, rfl⟩
  · have hi1 : i = bn := by
      have : ¬ z < qb := by simpa [hI, ints, rCmp] using g1
      unfold isN at hz hbn
      omega
    subst hi1
    cbv
    exact hP _ _ [1, 2] [] _ _ (by decide) rfl rfl rfl rfl rfl ⟨WL, hW, rfl, rfl⟩
theorem awords (q : CF) (L WL : List (List G)) (hl : WL.length ≤ 1000) : LValid P 11 [.c (.ptr 0 (.lit 0) 9 0)] [atB q L, .sym 1 WL] (fun v m1 => v = .one (.c (.row 2 1 none)) ∧ m1 = [atB q L, .sym 1 WL, .sym 1 WL]) := by
  obtain ⟨I, hI⟩ := ref
  obtain ⟨qa, qb, qc, qd, qe, qf, qg, ini⟩ := q
  have hc := cloneI hp WL (by omega)
  refine fn_sim hI (mo hp) (cc hp c11) fun Post hP => ?_
  cbv
  refine .go [] [] [.bor 1] hc rfl rfl rfl rfl rfl rfl ?_
  rintro v m1 ⟨rfl, rfl⟩
  cbv
  exact hP _ _ [0, 1, 2] [] _ _ (by decide) rfl rfl rfl rfl rfl ⟨rfl, rfl⟩
set_option maxHeartbeats 8000000 in
theorem ado (q : CF) (hq : q.ok) (L : List (List G)) (WL : List (List G)) (ws : List Int) (hW : isL .i64 WL ws) (hwl : ws.length = q.b.toNat * q.c.toNat) (zk za zv : Z) : LValid P 10 [.c (.ptr 0 (.lit 0) 9 0), .agg [.g (.int .i64 zk), .g (.int .i64 za), .g (.int .i64 zv)]] [atB q L, .sym 1 WL]
    (fun v m1 => ∃ (e r : Int) (WL' : List (List G)), v = .tup [.c (.g (.int .i64 (.sym r))), .c (.g (.int .i64 (.sym e)))] ∧ m1 = [atB q L, .sym 1 WL'] ∧
      ((okOp q ⟨zk.val, za.val, zv.val⟩ = true ∧ e = 0 ∧ r = (stepA ws ⟨zk.val, za.val, zv.val⟩).1 ∧ isL .i64 WL' (stepA ws ⟨zk.val, za.val, zv.val⟩).2) ∨ (okOp q ⟨zk.val, za.val, zv.val⟩ = false ∧ e = 1 ∧ r = 0 ∧ WL' = WL))) := by
  refine LValid.sy ?_
  show LValid P 10 [.c (.ptr 0 (.lit 0) 9 0), .agg [.g (.int .i64 (.sym zk.val)), .g (.int .i64 (.sym za.val)), .g (.int .i64 (.sym zv.val))]] _ _
  generalize zk.val = k, za.val = a, zv.val = x
  refine LValid.syv (R := fun v m1 => ∃ (e r : Z) (WL' : List (List G)), v = .tup [.c (.g (.int .i64 r)), .c (.g (.int .i64 e))] ∧ m1 = [atB q L, .sym 1 WL'] ∧
      ((okOp q ⟨k, a, x⟩ = true ∧ e.val = 0 ∧ r.val = (stepA ws ⟨k, a, x⟩).1 ∧ isL .i64 WL' (stepA ws ⟨k, a, x⟩).2) ∨ (okOp q ⟨k, a, x⟩ = false ∧ e.val = 1 ∧ r.val = 0 ∧ WL' = WL))) ?_
    (fun v m1 ⟨e, r, WL', h1, h2, h3⟩ => ⟨e.val, r.val, WL', by rw [h1]; rfl, h2, h3⟩)
  obtain ⟨I, hI⟩ := ref
  obtain ⟨an, han⟩ : ∃ an : Nat, isN q.a an := ⟨q.a.toNat, by have := hq.ha; unfold isN; omega⟩
  have ha14 : 1 ≤ an ∧ an ≤ 4 := by have := hq.ha; unfold isN at han; omega
  have hops := planOps hp q hq L (I.set (I.rep an [.nil]) 0 [.rows 3 [OP.row ⟨k, a, x⟩]]) (alone an ⟨k, a, x⟩) (by rw [hI]; exact alone_is an ha14.1 _) (by unfold alone; simp; omega) (fun ops h => by
    unfold alone at h
    rcases List.mem_cons.1 h with rfl | h
    · simp
    · rw [List.eq_of_mem_replicate h]; simp)
  rw [alone_ok q hq an han] at hops
  have hin : okOp q ⟨k, a, x⟩ = true → (1 ≤ k ∧ k ≤ 4) ∧ ∃ n : Nat, isN a n ∧ n < ws.length ∧ a.toNat = n := fun h => by
    obtain ⟨h1, h2⟩ := okOp_in h
    have h2 : 0 ≤ a ∧ a < q.b * q.c := h2
    obtain ⟨e, _⟩ := bc_nat q hq
    rw [e] at h2
    exact ⟨h1, a.toNat, by unfold isN; omega, by omega, rfl⟩
  have hWl : I.len WL = ws.length := by rw [hI]; exact hW.len
  have hset : ∀ (n : Nat) (y : Int), isL .i64 (I.set WL n [.int .i64 (.sym y)]) (ws.set n y) := fun n y => by
    rw [hI]
    unfold isL at hW ⊢
    rw [hW]
    simp [nrow, ints, List.map_set]
  generalize okOp q ⟨k, a, x⟩ = ok at hops hin ⊢
  have hrr : (I.rep an [.nil])[0]? = some [.nil] := by rw [hI]; show (List.replicate an _)[0]? = _; rw [List.getElem?_replicate, if_pos (by omega)]
  have h0a : 0 < I.len (I.rep an [.nil]) := by rw [hI]; show 0 < (List.replicate an _).length; rw [List.length_replicate]; omega
  have h24 : an * 24 ≤ 140737488355328 := by omega
  have hwl8 : ws.length ≤ 8 := by rw [hwl]; exact (bc_nat q hq).2
  clear hwl hq ha14
  obtain ⟨qa, qb, qc, qd, qe, qf, qg, ini⟩ := q
  refine fn_sim hI (mo hp) (cc hp c10) fun Post hP => ?_
  cbv
  refine .size an han h24 ?_
  cbv
  refine .idx 0 rfl h0a ?_
  cbv
  refine .nth _ hrr ?_
  cbv
  refine .go [] [] [.keep, .bor 1] hops rfl rfl rfl rfl rfl rfl ?_
  rintro v m1 ⟨t, ht, rfl, rfl⟩
  clear hops hrr
  cases ok with
  | false =>
    have ht : t = 1 := ht
    cbv
    refine br_t (by rw [ht, hI]; rfl) ?_
    cbv
    exact hP _ _ [0, 1] [] _ _ (by decide) rfl rfl rfl rfl rfl ⟨.sym t, .lit 0, WL, rfl, rfl, .inr ⟨rfl, ht, rfl, rfl⟩⟩
  | true =>
    have ht : t = 0 := ht
    obtain ⟨hk, n, han2, hnl, hat⟩ := hin rfl
    obtain ⟨w, hw⟩ : ∃ w, ws[n]? = some w := ⟨_, List.getElem?_eq_getElem hnl⟩
    have hr : WL[n]? = some [.int .i64 (.sym w)] := by rw [hW.get, hw]; rfl
    have hnl2 : n < I.len WL := by rw [hWl]; exact hnl
    have hst : stepA ws ⟨k, a, x⟩ = if k = 1 then (w, ws) else if k = 2 then (0, ws.set n x) else if k = 3 then (w, ws.set n (IntKind.i64.wrap (w + x))) else (0, ws) := by
      unfold stepA
      show (if k = 1 then ((ws[a.toNat]?).getD 0, ws) else if k = 2 then (0, ws.set a.toNat x) else if k = 3 then ((ws[a.toNat]?).getD 0, ws.set a.toNat (IntKind.i64.wrap ((ws[a.toNat]?).getD 0 + x))) else (0, ws)) = _
      rw [hat, hw]
      rfl
    have hadd : I.bin .add .i64 w x = IntKind.i64.wrap (w + x) := by rw [hI]; rfl
    have hs2 := hset n x
    have hs3 := hset n (I.bin .add .i64 w x)
    rw [hadd] at hs3
    rw [← hadd] at hst
    rw [← hadd] at hs3
    generalize hsA : stepA ws ⟨k, a, x⟩ = sA at hst hP
    clear hin hset hWl hw hat hsA hadd
    cbv
    refine br_f (by rw [ht, hI]; rfl) ?_
    cbv
    refine .drawn [] ?_
    cbv
    refine .idx n han2 hnl2 (.nth _ hr ?_)
    cbv
    refine .br (fun g1 => ?_) (fun g1 => ?_)
    · have h1 : k = 1 := by simpa [hI, ints, rCmp] using g1
      rw [if_pos h1] at hst
      subst hst
      cbv
      exact hP _ _ [0, 1] [] _ _ (by decide) rfl rfl rfl rfl rfl ⟨.lit 0, .sym w, WL, rfl, rfl, .inl ⟨rfl, rfl, rfl, hW⟩⟩
    have h1 : ¬ k = 1 := by simpa [hI, ints, rCmp] using g1
    rw [if_neg h1] at hst
    clear g1
    cbv
    refine .br (fun g1 => ?_) (fun g1 => ?_)
    · have h2 : k = 2 := by simpa [hI, ints, rCmp] using g1
      rw [if_pos h2] at hst
      subst hst
      cbv
      refine .drawn [1] ?_
      cbv
      refine .idx n han2 hnl2 ?_
      cbv
      refine .nth _ hr ?_
      cbv
      exact hP _ _ [0, 1] [] _ _ (by decide) rfl rfl rfl rfl rfl ⟨.lit 0, .lit 0, _, rfl, rfl, .inl ⟨rfl, rfl, rfl, hs2⟩⟩
    have h2 : ¬ k = 2 := by simpa [hI, ints, rCmp] using g1
    rw [if_neg h2] at hst
    clear g1
    cbv
    refine .br (fun g1 => ?_) (fun g1 => ?_)
    · have h3 : k = 3 := by simpa [hI, ints, rCmp] using g1
      rw [if_pos h3] at hst
      subst hst
      cbv
      refine .drawn [1] ?_
      cbv
      refine .idx n han2 hnl2 ?_
      cbv
      refine .nth _ hr ?_
      cbv
      exact hP _ _ [0, 1] [] _ _ (by decide) rfl rfl rfl rfl rfl ⟨.lit 0, .sym w, _, rfl, rfl, .inl ⟨rfl, rfl, rfl, hs3⟩⟩
    have h3 : ¬ k = 3 := by simpa [hI, ints, rCmp] using g1
    rw [if_neg h3] at hst
    subst hst
    clear g1
    cbv
    exact hP _ _ [0, 1] [] _ _ (by decide) rfl rfl rfl rfl rfl ⟨.lit 0, .lit 0, WL, rfl, rfl, .inl ⟨rfl, rfl, rfl, hW⟩⟩
end
end Go.Proofs.Ytfoookmblfcmhaa.E
