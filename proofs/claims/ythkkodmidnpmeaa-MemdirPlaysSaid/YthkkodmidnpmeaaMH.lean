/- Contracts: the document's own homes: made, asked. -/
import Derived.Test.YthkkodmidnpmeaaMD
import Derived.Test.YthkkodmidnpmeaaRWo
namespace Go.Proofs.Ythkkodmidnpmeaa.E
open Go
set_option linter.unusedVariables false
set_option maxRecDepth 100000

/-- A row of the document's, without its line. -/
def RW.g (r : RW) : List G := [.int .i64 (.sym r.s), .int .i64 (.sym r.h), .rows 1 (nrow .i64 r.d)]
def isR (L : List (List G)) (rs : List RW) : Prop := L = rs.map RW.g
theorem isR.len {L : List (List G)} {rs : List RW} (h : isR L rs) : L.length = rs.length := by rw [h]; simp
theorem isR.get {L : List (List G)} {rs : List RW} (h : isR L rs) {i : Nat} {r : RW} (hr : rs[i]? = some r) : L[i]? = some r.g := by rw [h]; simp [hr]
theorem isR.app {L R : List (List G)} {xs ys : List RW} (h : isR L xs) (g : isR R ys) : isR (L ++ R) (xs ++ ys) := by unfold isR at h g ⊢; rw [h, g]; simp
def rows0 (ini : List Int) (w n : Nat) : List RW := (List.range n).map fun i => ⟨0, -1, wordsL ini w i⟩
theorem rows0_step (ini : List Int) (w n : Nat) : rows0 ini w (n + 1) = rows0 ini w n ++ [⟨0, -1, wordsL ini w n⟩] := by
  unfold rows0
  rw [List.range_succ, List.map_append]
  rfl
theorem rows0_len (ini : List Int) (w n : Nat) : (rows0 ini w n).length = n := by unfold rows0; simp
/-- The homes' block. -/
def homB (q : CF) (L : List (List G)) (node : Int) : Blk := .lit 12 [q.cells (.g (.rows 1 L)) ++ [.g (.int .i64 (.sym node)), .row 1 3 none, .g .nil, .g .nil]]
/-- Is a line's home here? -/
def hereB (q : CF) (node z : Int) : Bool := decide (0 ≤ z) && (decide (z < q.b) && (z.tmod q.a == node))
/-- The rows of the lines that are here. -/
def dirOf (q : CF) (node : Int) (rs : List RW) : Int → Option RW := fun z => if hereB q node z = true then rs[z.toNat]? else none
theorem dirOf_set (q : CF) (node : Int) (rs : List RW) (z : Int) (n : Nat) (hz : isN z n) (hh : hereB q node z = true) (hn : n < rs.length) (r : RW) : dirOf q node (rs.set n r) = fun y => if y = z then some r else dirOf q node rs y := by
  unfold isN at hz
  funext y
  unfold dirOf
  by_cases hy : hereB q node y = true
  · have h0 : 0 ≤ y := by
      unfold hereB at hy
      simp only [Bool.and_eq_true, decide_eq_true_eq] at hy
      exact hy.1
    rw [if_pos hy, if_pos hy, List.getElem?_set]
    by_cases he : y = z
    · rw [if_pos (by omega), if_pos he, if_pos (by omega)]
    · rw [if_neg (by omega), if_neg he]
  · rw [if_neg hy, if_neg hy]
    by_cases he : y = z
    · exact absurd (he ▸ hh) hy
    · rw [if_neg he]
section
variable {P : Program} (hp : P = Try.prog)
include hp
set_option maxHeartbeats 4000000 in
theorem newHomes (q : CF) (hq : q.ok) (L : List (List G)) (hL : isL .i64 L q.ini) (zn : Z) : LValid P 15 [q.told L, .c (.g (.int .i64 zn))] [] (fun v m1 => ∃ RL, isR RL (rows0 q.ini q.c.toNat q.b.toNat) ∧ v = .one (.c (.ptr 0 (.lit 0) 12 0)) ∧ m1 = [homB q L zn.val, .sym 3 RL]) := by
  refine LValid.sy ?_
  show LValid P 15 [q.told L, .c (.g (.int .i64 (.sym zn.val)))] [] _
  generalize zn.val = node
  obtain ⟨I, hI⟩ := ref
  have hq0 := hq
  obtain ⟨-, hb, hc, -, -, -⟩ := hq
  have hws := fun (z : Z) (i : Nat) h1 h2 => rwords hp q hq0 L hL z i h1 h2
  obtain ⟨cn, hcn⟩ : ∃ cn, cn = q.c.toNat := ⟨_, rfl⟩
  obtain ⟨bn, hbe⟩ : ∃ bn, bn = q.b.toNat := ⟨_, rfl⟩
  have hbn : isN q.b bn := by unfold isN; omega
  rw [← hcn, ← hbe]
  have hws : ∀ (z : Z) (i : Nat), isN z.val i → i < bn → LValid P 24 [q.arg L, .c (.g (.int .i64 z))] [] (fun v m1 => ∃ W, isL .i64 W (wordsL q.ini cn i) ∧ v = .one (.c (.g (.rows 1 W))) ∧ m1 = []) := fun z i h1 h2 => by
    rw [hcn]
    exact hws z i h1 (by omega)
  have hb4 : bn ≤ 4 := by omega
  clear hbe hcn hb hc
  obtain ⟨qa, qb, qc, qd, qe, qf, qg, ini⟩ := q
  have hbn : isN qb bn := hbn
  show LValid P _ _ [] (fun v m1 => ∃ RL, isR RL (rows0 ini cn bn) ∧ v = .one (.c (.ptr 0 (.lit 0) 12 0)) ∧ m1 = [homB ⟨qa, qb, qc, qd, qe, qf, qg, ini⟩ L node, .sym 3 RL])
  refine fn_sim hI (mo hp) (cc hp c15) fun Post hP => ?_
  cbv
  refine .ownc 1 12 0 9 3 _ _ rfl rfl rfl ?_
  refine .loop_next (fun n ts m => ∃ (i : Nat) (z : Int) (RL : List (List G)), n = bn - i ∧ isN z i ∧ i ≤ bn ∧ isR RL (rows0 ini cn i) ∧
      ts = fr 31 [(2, .one (.c (.ptr 0 (.lit 0) 8 0))), (5, .one (.c (.ptr 1 (.lit 0) 12 0))), (6, i64 z)] ∧
      m = [.lit 8 [cfg (.sym qa) (.sym qb) (.sym qc) (.sym qd) (.sym qe) (.sym qf) (.sym qg) (.g (.rows 1 L))], .lit 12 [cfg (.sym qa) (.sym qb) (.sym qc) (.sym qd) (.sym qe) (.sym qf) (.sym qg) (.g (.rows 1 L)) ++ [.g (.int .i64 (.sym node)), .row 2 3 none, .g .nil, .g .nil]], .sym 3 RL])
    bn _ _ [0, 1, 2] [] [2, 5, 6] (by decide) rfl rfl rfl ⟨0, 0, [], rfl, rfl, Nat.zero_le _, rfl, rfl, rfl⟩ ?_
  rintro next n hnext ts m ⟨i, z, RL, hn, hz, hi, hR, rfl, rfl⟩
  cbv
  refine .br (fun g1 => ?_) (fun g1 => ?_)
  · have hi1 : i < bn := by
      have : z < qb := by simpa [hI, ints, rCmp] using g1
      unfold isN at hz hbn
      omega
    have hz1 : isN (I.bin .add .i64 z 1) (i + 1) := by unfold isN at hz ⊢; rw [hI]; simp only [ints, rBin]; rw [wrap_in] <;> omega
    have hcall := hws (.sym z) i hz hi1
    have hR2 : ∀ W, isL .i64 W (wordsL ini cn i) → isR (I.app RL [[.int .i64 (.sym 0), .int .i64 (.sym (-1)), .rows 1 W]]) (rows0 ini cn (i + 1)) ∧ I.len (I.app RL [[.int .i64 (.sym 0), .int .i64 (.sym (-1)), .rows 1 W]]) ≤ 8 := fun W h => by
      have h1 : isR (I.app RL [[.int .i64 (.sym 0), .int .i64 (.sym (-1)), .rows 1 W]]) (rows0 ini cn (i + 1)) := by
        rw [rows0_step, hI]
        unfold isL at h
        rw [h]
        exact hR.app rfl
      refine ⟨h1, ?_⟩
      have h2 := h1.len
      rw [rows0_len] at h2
      rw [hI] at h2 ⊢
      exact Nat.le_trans (Nat.le_of_eq h2) (by omega)
    clear g1 hws
    cbv
    refine .drawn [1, 2] ?_
    cbv
    repeat' first
      | (refine .both ?_ ?_ <;> cbv)
      | (refine .go [] [] [.bor 1] hcall rfl rfl rfl rfl rfl rfl ?_; rintro v m1 ⟨W, hWW, rfl, rfl⟩; obtain ⟨h3, h4⟩ := hR2 W hWW; clear hcall hR2; cbv)
    all_goals
      refine .most (show I.len (I.app RL [[.int .i64 (.sym 0), .int .i64 (.sym (-1)), .rows 1 W]]) * 40 ≤ 140737488355328 from by omega) (show I.len (I.app RL [[.int .i64 (.sym 0), .int .i64 (.sym (-1)), .rows 1 W]]) ≤ 140737488355328 from by omega) ?_
      cbv
      exact hnext _ _ (bn - (i + 1)) [0, 1, 4] [] [2, 5, 6] _ _ (by omega) (by decide) rfl rfl rfl ⟨i + 1, _, _, rfl, hz1, hi1, h3, rfl, rfl⟩
  · have hi1 : i = bn := by
      have : ¬ z < qb := by simpa [hI, ints, rCmp] using g1
      unfold isN at hz hbn
      omega
    subst hi1
    cbv
    exact hP _ _ [1, 2] [] _ _ (by decide) rfl rfl rfl rfl rfl ⟨RL, hR, rfl, rfl⟩
set_option maxHeartbeats 4000000 in
theorem here_ (q : CF) (hq : q.ok) (L : List (List G)) (node : Int) (RL : List (List G)) (zl : Z) : LValid P 18 [.c (.ptr 0 (.lit 0) 12 0), .c (.g (.int .i64 zl))] [homB q L node, .sym 3 RL] (fun v m1 => ∃ t, t = hereB q node zl.val ∧ v = boo t ∧ m1 = [homB q L node, .sym 3 RL]) := by
  refine LValid.sy ?_
  show LValid P 18 [.c (.ptr 0 (.lit 0) 12 0), .c (.g (.int .i64 (.sym zl.val)))] _ _
  generalize zl.val = z
  refine LValid.syv (R := fun v m1 => ∃ t : BB, t.val = hereB q node z ∧ v = .one (.c (.g (.bool t))) ∧ m1 = [homB q L node, .sym 3 RL]) ?_ (fun v m1 ⟨t, h1, h2, h3⟩ => ⟨t.val, h1, by rw [h2]; rfl, h3⟩)
  obtain ⟨I, hI⟩ := ref
  obtain ⟨ha, -, -, -, -, -⟩ := hq
  obtain ⟨qa, qb, qc, qd, qe, qf, qg, ini⟩ := q
  have ha : 1 ≤ qa ∧ qa ≤ 4 := ha
  have hne : qa ≠ 0 := by omega
  have hE : hereB ⟨qa, qb, qc, qd, qe, qf, qg, ini⟩ node z = (I.cmp .geq z 0 && (I.cmp .lss z qb && I.cmp .eql (I.bin .rem .i64 z qa) node)) := by rw [hI]; rfl
  rw [hE]
  clear hE ha
  refine fn_sim hI (mo hp) (cc hp c18) fun Post hP => ?_
  cbv
  refine .drawn [] ?_
  cbv
  refine .br (fun g1 => ?_) (fun g1 => ?_)
  rotate_left
  · cbv
    exact hP _ _ [0, 1] [] _ _ (by decide) rfl rfl rfl rfl rfl ⟨.lit false, show false = _ from by rw [g1]; rfl, rfl, rfl⟩
  cbv
  refine .br (fun g2 => ?_) (fun g2 => ?_)
  rotate_left
  · cbv
    exact hP _ _ [0, 1] [] _ _ (by decide) rfl rfl rfl rfl rfl ⟨.lit false, show false = _ from by rw [g1, g2]; rfl, rfl, rfl⟩
  cbv
  refine .nz hne ?_
  cbv
  exact hP _ _ [0, 1] [] _ _ (by decide) rfl rfl rfl rfl rfl ⟨.sym (I.cmp .eql (I.bin .rem .i64 z qa) node), show _ = _ from by rw [g1, g2]; rfl, rfl, rfl⟩
set_option maxHeartbeats 8000000 in
theorem rset (q : CF) (hq : q.ok) (L : List (List G)) (node : Int) (RL : List (List G)) (rs : List RW) (hR : isR RL rs) (hrl : rs.length = q.b.toNat) (zl zs zh : Z) (X : List (List G)) (x : List Int) (hX : isL .i64 X x) (hx : x.length ≤ 1000000) : LValid P 17 [.c (.ptr 0 (.lit 0) 12 0), .c (.g (.int .i64 zl)), .c (.g (.int .i64 zs)), .c (.g (.int .i64 zh)), .c (.bor 1 X)] [homB q L node, .sym 3 RL]
    (fun v m1 => ∃ (e : Int) (rs2 : List RW) (RL2 : List (List G)), v = i64 e ∧ m1 = [homB q L node, .sym 3 RL2] ∧ isR RL2 rs2 ∧ rs2.length = rs.length ∧ e = setErr q (dirOf q node rs) zl.val zs.val zh.val x ∧ dirOf q node rs2 = setDir q (dirOf q node rs) zl.val zs.val zh.val x) := by
  refine LValid.sy ?_
  show LValid P 17 [.c (.ptr 0 (.lit 0) 12 0), .c (.g (.int .i64 (.sym zl.val))), .c (.g (.int .i64 (.sym zs.val))), .c (.g (.int .i64 (.sym zh.val))), .c (.bor 1 X)] _ _
  generalize zl.val = z, zs.val = st, zh.val = hd
  refine LValid.syv (R := fun v m1 => ∃ (e : Z) (rs2 : List RW) (RL2 : List (List G)), v = .one (.c (.g (.int .i64 e))) ∧ m1 = [homB q L node, .sym 3 RL2] ∧ isR RL2 rs2 ∧ rs2.length = rs.length ∧ e.val = setErr q (dirOf q node rs) z st hd x ∧ dirOf q node rs2 = setDir q (dirOf q node rs) z st hd x) ?_ (fun v m1 ⟨e, rs2, RL2, h1, h2⟩ => ⟨e.val, rs2, RL2, by rw [h1]; rfl, h2⟩)
  obtain ⟨I, hI⟩ := ref
  have hh := here_ hp q hq L node RL (.sym z)
  rw [show (Z.sym z).val = z from rfl] at hh
  have hnone : hereB q node z = false → 3 = setErr q (dirOf q node rs) z st hd x ∧ dirOf q node rs = setDir q (dirOf q node rs) z st hd x := fun h => by
    have h1 : dirOf q node rs z = none := by unfold dirOf; rw [h]; rfl
    unfold setErr setDir
    rw [h1]
    exact ⟨rfl, rfl⟩
  have hsome : hereB q node z = true → ∃ (n : Nat) (r : RW), isN z n ∧ n < rs.length ∧ rs[n]? = some r ∧ dirOf q node rs z = some r := fun h => by
    have h' := h
    unfold hereB at h'
    simp only [Bool.and_eq_true, decide_eq_true_eq] at h'
    obtain ⟨h1, h2, -⟩ := h'
    have hlt : z.toNat < rs.length := by omega
    refine ⟨z.toNat, rs[z.toNat], by unfold isN; omega, hlt, List.getElem?_eq_getElem hlt, ?_⟩
    unfold dirOf
    rw [if_pos h, List.getElem?_eq_getElem hlt]
  have hbad : ∀ r, dirOf q node rs z = some r → (st < 0 ∨ 2 < st ∨ hd < -1 ∨ q.a ≤ hd) ∨ (¬ (hd = -1 ↔ st = 0) ∨ x ≠ [] ∧ (x.length : Int) ≠ q.c) → 1 = setErr q (dirOf q node rs) z st hd x ∧ dirOf q node rs = setDir q (dirOf q node rs) z st hd x := fun r h hb => by
    have h1 : setErr q (dirOf q node rs) z st hd x = 1 := by
      unfold setErr
      rw [h]
      show (if st < 0 ∨ 2 < st ∨ hd < -1 ∨ q.a ≤ hd then (1 : Int) else if ¬ (hd = -1 ↔ st = 0) ∨ x ≠ [] ∧ (x.length : Int) ≠ q.c then 1 else 0) = 1
      rcases hb with hb | hb
      · rw [if_pos hb]
      · rw [if_pos hb]
        split <;> rfl
    refine ⟨h1.symm, ?_⟩
    unfold setDir
    rw [h]
    show _ = if setErr q (dirOf q node rs) z st hd x = 0 then _ else _
    rw [if_neg (by rw [h1]; decide)]
  have hgood : ∀ (n : Nat) r, isN z n → n < rs.length → hereB q node z = true → dirOf q node rs z = some r → ¬ (st < 0 ∨ 2 < st ∨ hd < -1 ∨ q.a ≤ hd) → ¬ (¬ (hd = -1 ↔ st = 0) ∨ x ≠ [] ∧ (x.length : Int) ≠ q.c) → 0 = setErr q (dirOf q node rs) z st hd x ∧ dirOf q node (rs.set n ⟨st, hd, if x = [] then r.d else x⟩) = setDir q (dirOf q node rs) z st hd x := fun n r hz hn hhe h hb1 hb2 => by
    have h1 : setErr q (dirOf q node rs) z st hd x = 0 := by
      unfold setErr
      rw [h]
      show (if st < 0 ∨ 2 < st ∨ hd < -1 ∨ q.a ≤ hd then (1 : Int) else if ¬ (hd = -1 ↔ st = 0) ∨ x ≠ [] ∧ (x.length : Int) ≠ q.c then 1 else 0) = 0
      rw [if_neg hb1, if_neg hb2]
    refine ⟨h1.symm, ?_⟩
    rw [dirOf_set q node rs z n hz hhe hn]
    unfold setDir
    rw [h]
    show _ = if setErr q (dirOf q node rs) z st hd x = 0 then _ else _
    rw [if_pos h1]
  have hset : ∀ (n : Nat) (r : RW) (Y : List (List G)) (y : List Int), isL .i64 Y y → isR (I.set RL n [.int .i64 (.sym st), .int .i64 (.sym hd), .rows 1 Y]) (rs.set n ⟨st, hd, y⟩) := fun n r Y y hY => by
    rw [hI]
    unfold isR isL at *
    rw [hR, hY]
    show (rs.map RW.g).set n _ = _
    rw [List.map_set]
    rfl
  have hle : I.len RL = rs.length := by rw [hI]; exact hR.len
  have hlx : I.len X = x.length := by rw [hI]; exact hX.len
  generalize setErr q (dirOf q node rs) z st hd x = E at hnone hbad hgood ⊢
  generalize setDir q (dirOf q node rs) z st hd x = F at hnone hbad hgood ⊢
  generalize hhb : hereB q node z = hb at hh hnone hsome hgood
  obtain ⟨qa, qb, qc, qd, qe, qf, qg, ini⟩ := q
  refine fn_sim hI (mo hp) (cc hp c17) fun Post hP => ?_
  cbv
  refine .go [0, 1] [] [] hh rfl rfl rfl rfl rfl rfl ?_
  rintro v m1 ⟨t, ht, rfl, rfl⟩
  clear hh
  cases hb with
  | false =>
    have h1 := hnone rfl
    clear hnone hsome hbad hgood hset
    cbv
    refine br_t (show I.not t = true from by rw [ht, hI]; rfl) ?_
    cbv
    exact hP _ _ [0, 1] [] _ _ (by decide) rfl rfl rfl rfl rfl ⟨.lit 3, rs, RL, rfl, rfl, hR, rfl, h1⟩
  | true =>
  obtain ⟨n, r, hz, hn, hr, hdo⟩ := hsome rfl
  have hbad := hbad r hdo
  have hgood := hgood n r hz hn rfl hdo
  have h9 : ∃ RD, RD = nrow .i64 r.d := ⟨_, rfl⟩
  obtain ⟨RD, hRD⟩ := h9
  have hrow : RL[n]? = some [.int .i64 (.sym r.s), .int .i64 (.sym r.h), .rows 1 RD] := by rw [hRD]; exact hR.get hr
  have hnl : n < I.len RL := by rw [hle]; exact hn
  have hs1 := hset n r RD r.d hRD
  have hs2 := hset n r X x hX
  have hl1 : ∀ y, (rs.set n ⟨st, hd, y⟩).length = rs.length := fun y => by simp
  clear hnone hsome hset
  have hx0 : ∀ b, I.cmp .gtr (I.ofNat (I.len X)) 0 = b → (b = true ↔ x ≠ []) := fun b h => by
    rw [hlx, hI] at h
    have h : decide (((x.length : Nat) : Int) > 0) = b := h
    rw [← h, decide_eq_true_iff]
    cases x with
    | nil => simp
    | cons a l => simp
  have hxq : ∀ b, I.cmp .neq (I.ofNat (I.len X)) qc = b → (b = true ↔ ((x.length : Nat) : Int) ≠ qc) := fun b h => by
    rw [hlx, hI] at h
    have h : (((x.length : Nat) : Int) != qc) = b := h
    rw [← h]
    simp
  have hbe : ∀ b, I.not (I.beq (I.cmp .eql st 0) (I.cmp .eql hd (-1))) = b → (b = true ↔ ¬ (hd = -1 ↔ st = 0)) := fun b h => by
    rw [hI] at h
    have h : (!(decide (st = 0) == decide (hd = -1))) = b := h
    rw [← h]
    by_cases h1 : st = 0 <;> by_cases h2 : hd = -1 <;> simp [h1, h2]
  have hXl : I.len X ≤ 1000000 := by rw [hlx]; exact hx
  generalize hqq : (CF.mk qa qb qc qd qe qf qg ini).a = qA at hbad hgood
  have hqq : qa = qA := hqq
  subst hqq
  generalize hqq : (CF.mk qa qb qc qd qe qf qg ini).c = qC at hbad hgood
  have hqq : qc = qC := hqq
  subst hqq
  cbv
  refine br_f (show I.not t = false from by rw [ht, hI]; rfl) ?_
  cbv
  refine .br (fun g1 => ?_) (fun g1 => ?_)
  · have h1 := hbad (.inl (.inl (by simpa [hI, ints, rCmp] using g1)))
    clear hbad hgood hs1 hs2 hl1
    cbv
    exact hP _ _ [0, 1] [] _ _ (by decide) rfl rfl rfl rfl rfl ⟨.lit 1, rs, RL, rfl, rfl, hR, rfl, h1⟩
  cbv
  refine .br (fun g2 => ?_) (fun g2 => ?_)
  · have h1 := hbad (.inl (.inr (.inl (by simpa [hI, ints, rCmp] using g2))))
    clear hbad hgood hs1 hs2 hl1
    cbv
    exact hP _ _ [0, 1] [] _ _ (by decide) rfl rfl rfl rfl rfl ⟨.lit 1, rs, RL, rfl, rfl, hR, rfl, h1⟩
  cbv
  refine .br (fun g3 => ?_) (fun g3 => ?_)
  · have h1 := hbad (.inl (.inr (.inr (.inl (by simpa [hI, ints, rCmp] using g3)))))
    clear hbad hgood hs1 hs2 hl1
    cbv
    exact hP _ _ [0, 1] [] _ _ (by decide) rfl rfl rfl rfl rfl ⟨.lit 1, rs, RL, rfl, rfl, hR, rfl, h1⟩
  cbv
  refine .br (fun g4 => ?_) (fun g4 => ?_)
  · have h1 := hbad (.inl (.inr (.inr (.inr (by simpa [hI, ints, rCmp] using g4)))))
    clear hbad hgood hs1 hs2 hl1
    cbv
    exact hP _ _ [0, 1] [] _ _ (by decide) rfl rfl rfl rfl rfl ⟨.lit 1, rs, RL, rfl, rfl, hR, rfl, h1⟩
  cbv
  refine .br (fun g5 => ?_) (fun g5 => ?_)
  · have h1 := hbad (.inr (.inl ((hbe _ g5).1 rfl)))
    clear hbad hgood hs1 hs2 hl1
    cbv
    exact hP _ _ [0, 1] [] _ _ (by decide) rfl rfl rfl rfl rfl ⟨.lit 1, rs, RL, rfl, rfl, hR, rfl, h1⟩
  have hb1 : ¬ (st < 0 ∨ 2 < st ∨ hd < -1 ∨ qa ≤ hd) := by
    have h1 : ¬ st < 0 := by simpa [hI, ints, rCmp] using g1
    have h2 : ¬ 2 < st := by simpa [hI, ints, rCmp] using g2
    have h3 : ¬ hd < -1 := by simpa [hI, ints, rCmp] using g3
    have h4 : ¬ qa ≤ hd := by simpa [hI, ints, rCmp] using g4
    rintro (h | h | h | h)
    · exact h1 h
    · exact h2 h
    · exact h3 h
    · exact h4 h
  have hgood := hgood hb1
  have hb5 : ¬ ¬ (hd = -1 ↔ st = 0) := fun h => by have := (hbe _ g5).2 h; cases this
  clear hbe g1 g2 g3 g4 g5 hb1
  cbv
  refine .br (fun g6 => ?_) (fun g6 => ?_)
  · have hne := (hx0 _ g6).1 rfl
    cbv
    refine .br (fun g7 => ?_) (fun g7 => ?_)
    · have h1 := hbad (.inr (.inr ⟨hne, (hxq _ g7).1 rfl⟩))
      clear hbad hgood hs1 hs2 hl1
      cbv
      exact hP _ _ [0, 1] [] _ _ (by decide) rfl rfl rfl rfl rfl ⟨.lit 1, rs, RL, rfl, rfl, hR, rfl, h1⟩
    · have h1 := hgood (fun h => by
        rcases h with h | h
        · exact hb5 h
        · have := (hxq _ g7).2 h.2; cases this)
      rw [if_neg hne] at h1
      have hl1 := hl1 x
      generalize rs.set n ⟨st, hd, x⟩ = rs2 at hs2 hl1 h1
      clear hbad hgood hs1 hxq hx0 hb5
      cbv
      refine .idx n hz hnl (.nth _ hrow ?_)
      cbv
      refine br_t g6 ?_
      cbv
      refine .most (show I.len X * 8 ≤ 140737488355328 from by omega) (show I.len X ≤ 140737488355328 from by omega) ?_
      cbv
      refine .drawn [1] ?_
      cbv
      refine .idx n hz hnl ?_
      cbv
      refine .nth _ hrow ?_
      cbv
      exact hP _ _ [0, 1] [] _ _ (by decide) rfl rfl rfl rfl rfl ⟨.lit 0, rs2, _, rfl, rfl, hs2, hl1, h1⟩
  · have hne : x = [] := by
      by_cases h : x = []
      · exact h
      · have := (hx0 _ g6).2 h; cases this
    have h1 := hgood (fun h => by
      rcases h with h | h
      · exact hb5 h
      · exact h.1 hne)
    rw [if_pos hne] at h1
    have hl1 := hl1 r.d
    generalize rs.set n ⟨st, hd, r.d⟩ = rs2 at hs1 hl1 h1
    clear hbad hgood hs2 hxq hx0 hb5
    cbv
    refine .idx n hz hnl (.nth _ hrow ?_)
    cbv
    refine br_f g6 ?_
    cbv
    refine .drawn [1] ?_
    cbv
    refine .idx n hz hnl ?_
    cbv
    refine .nth _ hrow ?_
    cbv
    exact hP _ _ [0, 1] [] _ _ (by decide) rfl rfl rfl rfl rfl ⟨.lit 0, rs2, _, rfl, rfl, hs1, hl1, h1⟩
set_option maxHeartbeats 4000000 in
theorem sameRow_ (s1 h1 s2 h2 : Int) (A B : List (List G)) (xs ys : List Int) (hA : isL .i64 A xs) (hB : isL .i64 B ys) (hla : A.length * 8 ≤ 140737488355328) : LValid P 19 [.agg [.g (.int .i64 (.sym s1)), .g (.int .i64 (.sym h1)), .bor 1 A], .agg [.g (.int .i64 (.sym s2)), .g (.int .i64 (.sym h2)), .bor 1 B]] [] (fun v m1 => ∃ t, t = (s1 == s2 && (h1 == h2 && (xs == ys))) ∧ v = boo t ∧ m1 = []) := by
  refine bx (LValid.boo ?_)
  obtain ⟨I, hI⟩ := ref
  have hsm := same hp A B xs ys hA hB hla
  have hE : (s1 == s2 && (h1 == h2 && (xs == ys))) = (I.cmp .eql s1 s2 && (I.cmp .eql h1 h2 && (xs == ys))) := by rw [hI]; rfl
  rw [hE]
  clear hE
  generalize (xs == ys) = sm at hsm ⊢
  refine fn_sim hI (mo hp) (cc hp c19) fun Post hP => ?_
  cbv
  first
    | (refine .drawn [] ?_; cbv)
    | skip
  refine .br (fun g1 => ?_) (fun g1 => ?_)
  rotate_left
  · cbv
    exact hP _ _ [] [] _ _ .nil rfl rfl rfl rfl rfl ⟨.lit false, rfl, show false = _ from by rw [g1]; rfl, rfl⟩
  cbv
  refine .br (fun g2 => ?_) (fun g2 => ?_)
  rotate_left
  · cbv
    exact hP _ _ [] [] _ _ .nil rfl rfl rfl rfl rfl ⟨.lit false, rfl, show false = _ from by rw [g1, g2]; rfl, rfl⟩
  cbv
  refine .go [] [] [.bor 1, .bor 1] hsm rfl rfl rfl rfl rfl rfl ?_
  rintro v m1 ⟨t, ht, rfl, rfl⟩
  cbv
  exact hP _ _ [] [] _ _ .nil rfl rfl rfl rfl rfl ⟨.sym t, rfl, show t = _ from by rw [g1, g2, ht]; rfl, rfl⟩
end
end Go.Proofs.Ythkkodmidnpmeaa.E
