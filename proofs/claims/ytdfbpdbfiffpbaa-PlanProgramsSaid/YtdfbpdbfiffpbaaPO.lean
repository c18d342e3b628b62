/- Contracts: may operations be, may programs be: plan.Ops with its functions, the document's. -/
import Derived.Test.YtdfbpdbfiffpbaaMC
namespace Go.Proofs.Ytdfbpdbfiffpbaa.E
open Go
set_option linter.unusedVariables false
set_option maxRecDepth 100000

/-- An operation. -/
structure OP where
  k : Int
  a : Int
  v : Int
  deriving DecidableEq
def OP.row (o : OP) : List G := [.int .i64 (.sym o.k), .int .i64 (.sym o.a), .int .i64 (.sym o.v)]
def OP.arg (o : OP) : V1 := .agg [.g (.int .i64 (.sym o.k)), .g (.int .i64 (.sym o.a)), .g (.int .i64 (.sym o.v))]
def isO (L : List (List G)) (ops : List OP) : Prop := L = ops.map OP.row
theorem isO.len {L : List (List G)} {ops : List OP} (h : isO L ops) : L.length = ops.length := by rw [h]; simp
theorem isO.get {L : List (List G)} {ops : List OP} (h : isO L ops) {i : Nat} {o : OP} (ho : ops[i]? = some o) : L[i]? = some o.row := by rw [h]; simp [ho]
theorem isO.app {L R : List (List G)} {xs ys : List OP} (h : isO L xs) (g : isO R ys) : isO (L ++ R) (xs ++ ys) := by unfold isO at h g ⊢; rw [h, g]; simp
/-- May an operation be? -/
def okOp (q : CF) (o : OP) : Bool := decide (1 ≤ o.k) && decide (o.k ≤ 4) && decide (0 ≤ o.a ∧ o.a < q.b * q.c) && (o.v == 0 || o.k == 2 || o.k == 3)
theorem lnW_none (b c a : Int) (hc : 1 ≤ c) : (lnW b c a).1 ≠ -1 ↔ 0 ≤ a ∧ a < b * c := by
  unfold lnW
  by_cases h : a < 0 ∨ b * c ≤ a
  · rw [if_pos h]
    exact ⟨fun h' => absurd rfl h', fun h' => by omega⟩
  · rw [if_neg h]
    refine ⟨fun _ => ⟨by omega, by omega⟩, fun h' e => ?_⟩
    have h1 : 0 ≤ a.tdiv c := Int.tdiv_nonneg h'.1 (by omega)
    have e : a.tdiv c = -1 := e
    omega
/-- A program, as a cell. -/
def isPr (g : G) (ops : List OP) : Prop := (∃ L, g = .rows 3 L ∧ isO L ops) ∨ (g = .nil ∧ ops = [])
/-- Programs, as rows of one cell. -/
def isPs (L : List (List G)) (ps : List (List OP)) : Prop := L.length = ps.length ∧ ∀ (i : Nat) (ops : List OP), ps[i]? = some ops → ∃ g, L[i]? = some [g] ∧ isPr g ops
def badProg (q : CF) (ops : List OP) : Bool := decide (24 < ops.length) || ops.any fun o => !okOp q o
/-- May programs be? -/
def okProgs (q : CF) (ps : List (List OP)) : Bool := !(ps.any (badProg q)) && decide ((ps.length : Int) = q.a)
def cfgB (q : CF) (L : List (List G)) : Blk := .lit 8 [q.cells (.g (.rows 1 L))]
section
variable {P : Program} (hp : P = Try.prog)
include hp
set_option maxHeartbeats 4000000 in
theorem oright (q : CF) (hq : q.ok) (L : List (List G)) (o : OP) : LValid P 35 [q.arg L, o.arg] [] (fun v m1 => ∃ t, t = okOp q o ∧ v = boo t ∧ m1 = []) := by
  refine bx (LValid.boo ?_)
  obtain ⟨I, hI⟩ := ref
  obtain ⟨hb, hc⟩ : (1 ≤ q.b ∧ q.b ≤ 4) ∧ (1 ≤ q.c ∧ q.c ≤ 2) := ⟨hq.hb, hq.hc⟩
  obtain ⟨qa, qb, qc, qd, qe, qf, qg, ini⟩ := q
  obtain ⟨k, a, v⟩ := o
  have hb : 1 ≤ qb ∧ qb ≤ 4 := hb
  have hc : 1 ≤ qc ∧ qc ≤ 2 := hc
  obtain ⟨t, ht⟩ : ∃ t, t = (lnW qb qc a).1 := ⟨_, rfl⟩
  have hok : okOp ⟨qa, qb, qc, qd, qe, qf, qg, ini⟩ ⟨k, a, v⟩ = (I.cmp .geq k 1 && I.cmp .leq k 4 && I.cmp .neq t (-1) && (I.cmp .eql v 0 || I.cmp .eql k 2 || I.cmp .eql k 3)) := by
    have hl := lnW_none qb qc a hc.1
    rw [← ht] at hl
    unfold okOp
    rw [hI]
    show _ = (decide (k ≥ 1) && decide (k ≤ 4) && (t != -1) && ((v == 0) || (k == 2) || (k == 3)))
    congr 2
    have e : (t != -1) = decide (t ≠ -1) := by by_cases h : t = -1 <;> simp [h]
    rw [e]
    by_cases h : t ≠ -1
    · rw [decide_eq_true h]
      exact decide_eq_true (hl.1 h)
    · rw [decide_eq_false h]
      exact decide_eq_false (fun h' => h (hl.2 h'))
  rw [hok]
  clear hok
  refine fn_sim hI (mo hp) (cc hp c35) fun Post hP => ?_
  cbv
  refine .go [] [] [] (lineOf hp qa qb qc qd qe qf qg a L hb hc) rfl rfl rfl rfl rfl rfl ?_
  rintro r m1 ⟨t1, u1, ht1, hu1, rfl, rfl⟩
  have hte : t1 = t := ht1.trans ht.symm
  subst hte
  clear ht1 hu1 ht
  cbv
  refine .br (fun g1 => ?_) (fun g1 => ?_)
  · cbv
    refine .br (fun g2 => ?_) (fun g2 => ?_)
    · cbv
      refine .br (fun g3 => ?_) (fun g3 => ?_)
      · cbv
        refine .br (fun g4 => ?_) (fun g4 => ?_)
        · cbv
          exact hP _ _ [] [] _ _ .nil rfl rfl rfl rfl rfl ⟨_, rfl, show true = _ from by rw [g1, g2, g3, g4]; rfl, rfl⟩
        · cbv
          refine .br (fun g5 => ?_) (fun g5 => ?_)
          · cbv
            exact hP _ _ [] [] _ _ .nil rfl rfl rfl rfl rfl ⟨_, rfl, show true = _ from by rw [g1, g2, g3, g4, g5]; rfl, rfl⟩
          · cbv
            exact hP _ _ [] [] _ _ .nil rfl rfl rfl rfl rfl ⟨_, rfl, show I.cmp .eql k 3 = _ from by rw [g1, g2, g3, g4, g5]; rfl, rfl⟩
      · cbv
        exact hP _ _ [] [] _ _ .nil rfl rfl rfl rfl rfl ⟨_, rfl, show false = _ from by rw [g1, g2, g3]; rfl, rfl⟩
    · cbv
      exact hP _ _ [] [] _ _ .nil rfl rfl rfl rfl rfl ⟨_, rfl, show false = _ from by rw [g1, g2]; rfl, rfl⟩
  · cbv
    exact hP _ _ [] [] _ _ .nil rfl rfl rfl rfl rfl ⟨_, rfl, show false = _ from by rw [g1]; rfl, rfl⟩
theorem ops11 (q : CF) (hq : q.ok) (L : List (List G)) (o : OP) : LValid P 34 [o.arg, .c (.ptr 0 (.lit 0) 8 0)] [cfgB q L] (fun v m1 => ∃ t, t = !okOp q o ∧ v = boo t ∧ m1 = [cfgB q L]) := by
  obtain ⟨I, hI⟩ := ref
  have hnot : ∀ t : Bool, I.not t = !t := fun t => by rw [hI]; rfl
  have hr := oright hp q hq L o
  obtain ⟨x, hx⟩ : ∃ x, x = okOp q o := ⟨_, rfl⟩
  rw [← hx] at hr ⊢
  obtain ⟨qa, qb, qc, qd, qe, qf, qg, ini⟩ := q
  obtain ⟨k, a, v⟩ := o
  refine fn_sim hI (mo hp) (cc hp c34) fun Post hP => ?_
  cbv
  refine .go [] [] [.bor 1] hr rfl rfl rfl rfl rfl rfl ?_
  rintro v m1 ⟨t, ht, rfl, rfl⟩
  have h2 := hnot t
  clear hr hx
  cbv
  exact hP _ _ [0] [] _ _ (by decide) rfl rfl rfl rfl rfl ⟨_, by rw [← ht]; exact h2, rfl, rfl⟩
theorem fn11 : callable P 34 = true := by rw [hp]; rfl
theorem fn1 : callable P 32 = true := by rw [hp]; rfl
set_option maxHeartbeats 4000000 in
/-- The place of the first operation that may not be. -/
theorem index1 (q : CF) (hq : q.ok) (L LO : List (List G)) (ops : List OP) (hO : isO LO ops) (hn : ops.length ≤ 1000000) : LValid P 38 [.c (.bor 3 LO), .c (.fn 34 [(0, 8, 0)])] [cfgB q L]
    (fun v m1 => ∃ (b : Bool) (t : Int), b = (ops.any fun o => !okOp q o) ∧ decide (0 ≤ t) = b ∧ v = i64 t ∧ m1 = [cfgB q L]) := by
  refine LValid.syv (R := fun v m1 => ∃ (b : Bool) (t : Z), b = (ops.any fun o => !okOp q o) ∧ decide (0 ≤ t.val) = b ∧ v = .one (.c (.g (.int .i64 t))) ∧ m1 = [cfgB q L]) ?_ (fun v m1 ⟨b, t, h1, h2, h3, h4⟩ => ⟨b, t.val, h1, h2, by rw [h3]; rfl, h4⟩)
  obtain ⟨I, hI⟩ := ref
  have hle : I.len LO = ops.length := by rw [hI]; exact hO.len
  have hcn : isN (I.ofNat (I.len LO)) ops.length := by rw [hle, hI]; rfl
  have hcall := fun o => ops11 hp q hq L o
  obtain ⟨bad, hbad⟩ : ∃ bad : OP → Bool, bad = fun o => !okOp q o := ⟨_, rfl⟩
  rw [show (fun o => !okOp q o) = bad from hbad.symm]
  have hcall : ∀ o, LValid P 34 [o.arg, .c (.ptr 0 (.lit 0) 8 0)] [cfgB q L] (fun v m1 => ∃ t, t = bad o ∧ v = boo t ∧ m1 = [cfgB q L]) := fun o => by rw [hbad]; exact hcall o
  have hf := fn11 hp
  clear hbad hq
  obtain ⟨qa, qb, qc, qd, qe, qf, qg, ini⟩ := q
  refine fn_sim hI (mo hp) (cc hp c38) fun Post hP => ?_
  cbv
  refine .loop_next (fun n ts m => ∃ (i : Nat) (z c : Int), n = ops.length - i ∧ isN z i ∧ isN c ops.length ∧ i ≤ ops.length ∧ (ops.take i).any bad = false ∧
      ts = fr 19 [(0, .one (.c (.bor 3 LO))), (1, .one (.c (.fn 34 [(0, 8, 0)]))), (7, i64 c), (8, i64 z)] ∧ m = [cfgB ⟨qa, qb, qc, qd, qe, qf, qg, ini⟩ L])
    ops.length _ _ [0] [] [0, 1, 7, 8] (by decide) rfl rfl rfl ⟨0, 0, _, rfl, rfl, hcn, Nat.zero_le _, rfl, rfl, rfl⟩ ?_
  rintro next n hnext ts m ⟨i, z, c, hn2, hz, hc, hi, hpre, rfl, rfl⟩
  cbv
  refine .br (fun g1 => ?_) (fun g1 => ?_)
  · have hi1 : i < ops.length := by
      have : z < c := by simpa [hI, ints, rCmp] using g1
      unfold isN at hz hc
      omega
    have hz1 : isN (I.bin .add .i64 z 1) (i + 1) := by unfold isN at hz ⊢; rw [hI]; simp only [ints, rBin]; rw [wrap_in] <;> omega
    have h9 : ∃ o, ops[i]? = some o := ⟨_, List.getElem?_eq_getElem hi1⟩
    obtain ⟨o, ho⟩ := h9
    have hr := hO.get ho
    have hil : i < I.len LO := by rw [hle]; exact hi1
    have hco := hcall o
    have hyes : bad o = true → ops.any bad = true := fun h => List.any_eq_true.2 ⟨o, List.mem_of_getElem? ho, h⟩
    have hno : bad o = false → (ops.take (i + 1)).any bad = false := fun h => by rw [List.take_add_one, ho, List.any_append, hpre]; simp [h]
    have hzp : decide (0 ≤ z) = true := by unfold isN at hz; exact decide_eq_true (by omega)
    generalize bad o = bo at hco hyes hno
    obtain ⟨ok, oa, ov⟩ := o
    clear g1 ho
    cbv
    refine .idx i hz hil (.nth _ hr ?_)
    cbv
    refine .fnok hf ?_
    cbv
    refine .go [0] [] [] hco rfl rfl rfl rfl rfl rfl ?_
    rintro v m1 ⟨t, ht, rfl, rfl⟩
    clear hco
    cbv
    refine .br (fun g2 => ?_) (fun g2 => ?_)
    · have h2 := hyes (ht.symm.trans g2)
      cbv
      exact hP _ _ [0] [] _ _ (by decide) rfl rfl rfl rfl rfl ⟨true, .sym z, h2.symm, hzp, rfl, rfl⟩
    · have h2 := hno (ht.symm.trans g2)
      cbv
      exact hnext _ _ (ops.length - (i + 1)) [0] [] [0, 1, 7, 8] _ _ (by omega) (by decide) rfl rfl rfl ⟨i + 1, _, c, rfl, hz1, hc, hi1, h2, rfl, rfl⟩
  · have hi1 : i = ops.length := by
      have : ¬ z < c := by simpa [hI, ints, rCmp] using g1
      unfold isN at hz hc
      omega
    rw [hi1, List.take_length] at hpre
    cbv
    exact hP _ _ [0] [] _ _ (by decide) rfl rfl rfl rfl rfl ⟨false, .lit (-1), hpre.symm, rfl, rfl, rfl⟩
theorem contains1 (q : CF) (hq : q.ok) (L LO : List (List G)) (ops : List OP) (hO : isO LO ops) (hn : ops.length ≤ 1000000) : LValid P 33 [.c (.bor 3 LO), .c (.fn 34 [(0, 8, 0)])] [cfgB q L]
    (fun v m1 => ∃ t, t = (ops.any fun o => !okOp q o) ∧ v = boo t ∧ m1 = [cfgB q L]) := by
  obtain ⟨I, hI⟩ := ref
  have hc := index1 hp q hq L LO ops hO hn
  have hge : ∀ t : Int, I.cmp .geq t 0 = decide (0 ≤ t) := fun t => by rw [hI]; rfl
  generalize (ops.any fun o => !okOp q o) = b0 at hc ⊢
  obtain ⟨qa, qb, qc, qd, qe, qf, qg, ini⟩ := q
  refine fn_sim hI (mo hp) (cc hp c33) fun Post hP => ?_
  cbv
  refine .go [0] [] [] hc rfl rfl rfl rfl rfl rfl ?_
  rintro v m1 ⟨b, t, hb, ht, rfl, rfl⟩
  have h2 : I.cmp .geq t 0 = b0 := by rw [hge, ht, hb]
  clear hge ht hc
  cbv
  exact hP _ _ [0] [] _ _ (by decide) rfl rfl rfl rfl rfl ⟨_, h2, rfl, rfl⟩
theorem ops1 (q : CF) (hq : q.ok) (L LO : List (List G)) (ops : List OP) (hO : isO LO ops) (hn : ops.length ≤ 1000000) : LValid P 32 [.c (.bor 3 LO), .c (.ptr 0 (.lit 0) 8 0)] [cfgB q L] (fun v m1 => ∃ t, t = badProg q ops ∧ v = boo t ∧ m1 = [cfgB q L]) := by
  refine LValid.syv (R := fun v m1 => ∃ b : BB, b.val = badProg q ops ∧ v = .one (.c (.g (.bool b))) ∧ m1 = [cfgB q L]) ?_ (fun v m1 ⟨b, h1, h2, h3⟩ => ⟨b.val, h1, by rw [h2]; rfl, h3⟩)
  obtain ⟨I, hI⟩ := ref
  have hc := contains1 hp q hq L LO ops hO hn
  have hle : I.len LO = ops.length := by rw [hI]; exact hO.len
  have hgt : ∀ t, I.cmp .gtr (I.ofNat (I.len LO)) 24 = t → decide (24 < ops.length) = t := fun t h => by
    rw [hle, hI] at h
    have h : decide ((ops.length : Int) > 24) = t := h
    rw [← h]
    by_cases hh : 24 < ops.length
    · rw [decide_eq_true hh, decide_eq_true (by omega)]
    · rw [decide_eq_false hh, decide_eq_false (by omega)]
  unfold badProg
  generalize (ops.any fun o => !okOp q o) = b0 at hc ⊢
  generalize decide (24 < ops.length) = b1 at hgt ⊢
  obtain ⟨qa, qb, qc, qd, qe, qf, qg, ini⟩ := q
  refine fn_sim hI (mo hp) (cc hp c32) fun Post hP => ?_
  cbv
  refine .br (fun g1 => ?_) (fun g1 => ?_)
  · have h1 := hgt _ g1
    clear hgt hc
    cbv
    exact hP _ _ [0] [] _ _ (by decide) rfl rfl rfl rfl rfl ⟨.lit true, show true = (b1 || b0) from by rw [h1]; rfl, rfl, rfl⟩
  · have h1 := hgt _ g1
    clear hgt
    cbv
    refine .go [0] [] [] hc rfl rfl rfl rfl rfl rfl ?_
    rintro v m1 ⟨t, ht, rfl, rfl⟩
    clear hc
    cbv
    exact hP _ _ [0] [] _ _ (by decide) rfl rfl rfl rfl rfl ⟨.sym t, show t = (b1 || b0) from by rw [h1, ht]; rfl, rfl, rfl⟩
set_option maxHeartbeats 4000000 in
theorem index2 (q : CF) (hq : q.ok) (L LP : List (List G)) (ps : List (List OP)) (hO : isPs LP ps) (hn : ps.length ≤ 1000000) (hn2 : ∀ ops ∈ ps, ops.length ≤ 1000000) : LValid P 37 [.c (.bor 1 LP), .c (.fn 32 [(0, 8, 0)])] [cfgB q L]
    (fun v m1 => ∃ (b : Bool) (t : Int), b = ps.any (badProg q) ∧ decide (0 ≤ t) = b ∧ v = i64 t ∧ m1 = [cfgB q L]) := by
  refine LValid.syv (R := fun v m1 => ∃ (b : Bool) (t : Z), b = ps.any (badProg q) ∧ decide (0 ≤ t.val) = b ∧ v = .one (.c (.g (.int .i64 t))) ∧ m1 = [cfgB q L]) ?_ (fun v m1 ⟨b, t, h1, h2, h3, h4⟩ => ⟨b, t.val, h1, h2, by rw [h3]; rfl, h4⟩)
  obtain ⟨I, hI⟩ := ref
  have hle : I.len LP = ps.length := by rw [hI]; exact hO.1
  have hcn : isN (I.ofNat (I.len LP)) ps.length := by rw [hle, hI]; rfl
  have hcall := fun LO ops h1 h2 => ops1 hp q hq L LO ops h1 h2
  obtain ⟨bad, hbad⟩ : ∃ bad : List OP → Bool, bad = badProg q := ⟨_, rfl⟩
  rw [← hbad]
  have hcall : ∀ LO ops, isO LO ops → ops.length ≤ 1000000 → LValid P 32 [.c (.bor 3 LO), .c (.ptr 0 (.lit 0) 8 0)] [cfgB q L] (fun v m1 => ∃ t, t = bad ops ∧ v = boo t ∧ m1 = [cfgB q L]) := fun LO ops h1 h2 => by rw [hbad]; exact hcall LO ops h1 h2
  have hf := fn1 hp
  clear hbad hq
  obtain ⟨qa, qb, qc, qd, qe, qf, qg, ini⟩ := q
  refine fn_sim hI (mo hp) (cc hp c37) fun Post hP => ?_
  cbv
  refine .loop_next (fun n ts m => ∃ (i : Nat) (z c : Int), n = ps.length - i ∧ isN z i ∧ isN c ps.length ∧ i ≤ ps.length ∧ (ps.take i).any bad = false ∧
      ts = fr 19 [(0, .one (.c (.bor 1 LP))), (1, .one (.c (.fn 32 [(0, 8, 0)]))), (7, i64 c), (8, i64 z)] ∧ m = [cfgB ⟨qa, qb, qc, qd, qe, qf, qg, ini⟩ L])
    ps.length _ _ [0] [] [0, 1, 7, 8] (by decide) rfl rfl rfl ⟨0, 0, _, rfl, rfl, hcn, Nat.zero_le _, rfl, rfl, rfl⟩ ?_
  rintro next n hnext ts m ⟨i, z, c, hn3, hz, hc, hi, hpre, rfl, rfl⟩
  cbv
  refine .br (fun g1 => ?_) (fun g1 => ?_)
  · have hi1 : i < ps.length := by
      have : z < c := by simpa [hI, ints, rCmp] using g1
      unfold isN at hz hc
      omega
    have hz1 : isN (I.bin .add .i64 z 1) (i + 1) := by unfold isN at hz ⊢; rw [hI]; simp only [ints, rBin]; rw [wrap_in] <;> omega
    have h9 : ∃ o, ps[i]? = some o := ⟨_, List.getElem?_eq_getElem hi1⟩
    obtain ⟨o, ho⟩ := h9
    obtain ⟨g, hr, hg⟩ := hO.2 i o ho
    have hil : i < I.len LP := by rw [hle]; exact hi1
    have hyes : bad o = true → ps.any bad = true := fun h => List.any_eq_true.2 ⟨o, List.mem_of_getElem? ho, h⟩
    have hno : bad o = false → (ps.take (i + 1)).any bad = false := fun h => by rw [List.take_add_one, ho, List.any_append, hpre]; simp [h]
    have hzp : decide (0 ≤ z) = true := by unfold isN at hz; exact decide_eq_true (by omega)
    have hol := hn2 o (List.mem_of_getElem? ho)
    have h9 : ∃ LO, isO LO o ∧ ((g = .rows 3 LO) ∨ (g = .nil ∧ LO = [])) := by
      rcases hg with ⟨LO, h1, h2⟩ | ⟨h1, h2⟩
      · exact ⟨LO, h2, .inl h1⟩
      · exact ⟨[], by rw [h2]; rfl, .inr ⟨h1, rfl⟩⟩
    obtain ⟨LO, hLO, hgg⟩ := h9
    have hco := hcall LO o hLO hol
    generalize bad o = bo at hco hyes hno
    clear g1 ho hg
    rcases hgg with rfl | ⟨rfl, rfl⟩
    · cbv
      refine .idx i hz hil (.nth _ hr ?_)
      cbv
      refine .fnok hf ?_
      cbv
      refine .go [0] [] [.bor 3] hco rfl rfl rfl rfl rfl rfl ?_
      rintro v m1 ⟨t, ht, rfl, rfl⟩
      clear hco
      cbv
      refine .br (fun g2 => ?_) (fun g2 => ?_)
      · have h2 := hyes (ht.symm.trans g2)
        cbv
        exact hP _ _ [0] [] _ _ (by decide) rfl rfl rfl rfl rfl ⟨true, .sym z, h2.symm, hzp, rfl, rfl⟩
      · have h2 := hno (ht.symm.trans g2)
        cbv
        exact hnext _ _ (ps.length - (i + 1)) [0] [] [0, 1, 7, 8] _ _ (by omega) (by decide) rfl rfl rfl ⟨i + 1, _, c, rfl, hz1, hc, hi1, h2, rfl, rfl⟩
    · cbv
      refine .idx i hz hil (.nth _ hr ?_)
      cbv
      refine .fnok hf ?_
      cbv
      refine .go [0] [] [.bor 3] hco rfl rfl rfl rfl rfl rfl ?_
      rintro v m1 ⟨t, ht, rfl, rfl⟩
      clear hco
      cbv
      refine .br (fun g2 => ?_) (fun g2 => ?_)
      · have h2 := hyes (ht.symm.trans g2)
        cbv
        exact hP _ _ [0] [] _ _ (by decide) rfl rfl rfl rfl rfl ⟨true, .sym z, h2.symm, hzp, rfl, rfl⟩
      · have h2 := hno (ht.symm.trans g2)
        cbv
        exact hnext _ _ (ps.length - (i + 1)) [0] [] [0, 1, 7, 8] _ _ (by omega) (by decide) rfl rfl rfl ⟨i + 1, _, c, rfl, hz1, hc, hi1, h2, rfl, rfl⟩
  · have hi1 : i = ps.length := by
      have : ¬ z < c := by simpa [hI, ints, rCmp] using g1
      unfold isN at hz hc
      omega
    rw [hi1, List.take_length] at hpre
    cbv
    exact hP _ _ [0] [] _ _ (by decide) rfl rfl rfl rfl rfl ⟨false, .lit (-1), hpre.symm, rfl, rfl, rfl⟩
theorem contains2 (q : CF) (hq : q.ok) (L LP : List (List G)) (ps : List (List OP)) (hO : isPs LP ps) (hn : ps.length ≤ 1000000) (hn2 : ∀ ops ∈ ps, ops.length ≤ 1000000) : LValid P 31 [.c (.bor 1 LP), .c (.fn 32 [(0, 8, 0)])] [cfgB q L]
    (fun v m1 => ∃ t, t = ps.any (badProg q) ∧ v = boo t ∧ m1 = [cfgB q L]) := by
  obtain ⟨I, hI⟩ := ref
  have hc := index2 hp q hq L LP ps hO hn hn2
  have hge : ∀ t : Int, I.cmp .geq t 0 = decide (0 ≤ t) := fun t => by rw [hI]; rfl
  generalize ps.any (badProg q) = b0 at hc ⊢
  obtain ⟨qa, qb, qc, qd, qe, qf, qg, ini⟩ := q
  refine fn_sim hI (mo hp) (cc hp c31) fun Post hP => ?_
  cbv
  refine .go [0] [] [] hc rfl rfl rfl rfl rfl rfl ?_
  rintro v m1 ⟨b, t, hb, ht, rfl, rfl⟩
  have h2 : I.cmp .geq t 0 = b0 := by rw [hge, ht, hb]
  clear hge ht hc
  cbv
  exact hP _ _ [0] [] _ _ (by decide) rfl rfl rfl rfl rfl ⟨_, h2, rfl, rfl⟩
set_option maxHeartbeats 4000000 in
/-- May programs be? -/
theorem planOps (q : CF) (hq : q.ok) (L LP : List (List G)) (ps : List (List OP)) (hO : isPs LP ps) (hn : ps.length ≤ 1000000) (hn2 : ∀ ops ∈ ps, ops.length ≤ 1000000) : LValid P 21 [q.told L, .c (.bor 1 LP)] []
    (fun v m1 => ∃ t : Int, t = (if okProgs q ps = true then 0 else 1) ∧ v = i64 t ∧ m1 = []) := by
  refine nx (LValid.num ?_)
  obtain ⟨I, hI⟩ := ref
  have hc := contains2 hp q hq L LP ps hO hn hn2
  have hle : I.len LP = ps.length := by rw [hI]; exact hO.1
  have hne : ∀ t, I.cmp .neq (I.ofNat (I.len LP)) q.a = t → decide ((ps.length : Int) = q.a) = !t := fun t h => by
    rw [hle, hI] at h
    have h : ((ps.length : Int) != q.a) = t := h
    rw [← h]
    by_cases hh : (ps.length : Int) = q.a <;> simp [hh]
  unfold okProgs
  generalize ps.any (badProg q) = b0 at hc ⊢
  generalize decide ((ps.length : Int) = q.a) = b1 at hne ⊢
  obtain ⟨qa, qb, qc, qd, qe, qf, qg, ini⟩ := q
  refine fn_sim hI (mo hp) (cc hp c21) fun Post hP => ?_
  cbv
  refine .go [0] [] [] hc rfl rfl rfl rfl rfl rfl ?_
  rintro v m1 ⟨t, ht, rfl, rfl⟩
  clear hc
  cbv
  refine .br (fun g1 => ?_) (fun g1 => ?_)
  · have h1 : b0 = true := ht.symm.trans g1
    clear hne ht
    cbv
    exact hP _ _ [] [] _ _ .nil rfl rfl rfl rfl rfl ⟨_, rfl, show (1 : Int) = _ from by rw [h1]; rfl, rfl⟩
  · have h1 : b0 = false := ht.symm.trans g1
    clear ht
    cbv
    refine .br (fun g2 => ?_) (fun g2 => ?_)
    · have h2 := hne _ g2
      clear hne
      cbv
      exact hP _ _ [] [] _ _ .nil rfl rfl rfl rfl rfl ⟨_, rfl, show (1 : Int) = _ from by rw [h1, h2]; rfl, rfl⟩
    · have h2 := hne _ g2
      clear hne
      cbv
      exact hP _ _ [] [] _ _ .nil rfl rfl rfl rfl rfl ⟨_, rfl, show (0 : Int) = _ from by rw [h1, h2]; rfl, rfl⟩
end
end Go.Proofs.Ytdfbpdbfiffpbaa.E
