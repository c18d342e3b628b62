/- Contracts: whether events are what one memory does, and its words then. -/
import Derived.Test.YtfoookmblfcmhaaAT
namespace Go.Proofs.Ytfoookmblfcmhaa.E
open Go
set_option linter.unusedVariables false
set_option maxRecDepth 100000

/-- The words behind events that one memory may have brought. -/
def foldA (ps : List (List OP)) : List Int → List EV → Option (List Int)
  | ws, [] => some ws
  | ws, x :: r =>
    if ((((ps[x.n.toNat]?).getD []).length : Nat) : Int) ≤ x.i then none
    else if x.d = false then foldA ps ws r
    else if (stepA ws ((((ps[x.n.toNat]?).getD [])[x.i.toNat]?).getD ⟨0, 0, 0⟩)).1 = x.v then foldA ps (stepA ws ((((ps[x.n.toNat]?).getD [])[x.i.toNat]?).getD ⟨0, 0, 0⟩)).2 r
    else none
theorem foldA_cons (ps : List (List OP)) (ws : List Int) (x : EV) (r : List EV) : foldA ps ws (x :: r) = if ((((ps[x.n.toNat]?).getD []).length : Nat) : Int) ≤ x.i then none
    else if x.d = false then foldA ps ws r
    else if (stepA ws ((((ps[x.n.toNat]?).getD [])[x.i.toNat]?).getD ⟨0, 0, 0⟩)).1 = x.v then foldA ps (stepA ws ((((ps[x.n.toNat]?).getD [])[x.i.toNat]?).getD ⟨0, 0, 0⟩)).2 r
    else none := rfl
def legalF (q : CF) (ps : List (List OP)) (es : List EV) : Option (List Int) := if okProgs q ps = true ∧ rightL q.a [] es = true then foldA ps q.first es else none
theorem rightL_mem (N : Int) : ∀ (es pre : List EV), rightL N pre es = true → ∀ x ∈ es, 0 ≤ x.n ∧ x.n < N ∧ 0 ≤ x.i
  | [], pre, h, x, hx => by cases hx
  | e :: r, pre, h, x, hx => by
    simp only [rightL, Bool.and_eq_true] at h
    rcases List.mem_cons.1 hx with rfl | hx
    · have h1 := h.1
      unfold okAt at h1
      simp only [Bool.and_eq_true, decide_eq_true_eq, beq_iff_eq] at h1
      exact ⟨h1.1.1.1.1, h1.1.1.1.2, by rw [h1.1.1.2]; omega⟩
    · exact rightL_mem N r _ h.2 x hx
theorem okProgs_mem {q : CF} {ps : List (List OP)} (h : okProgs q ps = true) : ((ps.length : Int) = q.a) ∧ ∀ ops ∈ ps, ∀ o ∈ ops, okOp q o = true := by
  unfold okProgs at h
  simp only [Bool.and_eq_true, decide_eq_true_eq] at h
  refine ⟨h.2, fun ops ho o hoo => ?_⟩
  have h1 : ps.any (badProg q) = false := by simpa using h.1
  have h2 := (List.any_eq_false.1 h1) ops ho
  unfold badProg at h2
  simp only [Bool.or_eq_true, not_or] at h2
  have h3 : (ops.any fun o => !okOp q o) = false := by simpa using h2.2
  have h4 := (List.any_eq_false.1 h3) o hoo
  simpa using h4
section
variable {P : Program} (hp : P = Try.prog)
include hp
set_option maxHeartbeats 20000000 in
theorem fold_ (q : CF) (hq : q.ok) (L : List (List G)) (hL : isL .i64 L q.ini) (LP : List (List G)) (ps : List (List OP)) (hP0 : isPs LP ps) (hn : ps.length ≤ 1000000) (hn2 : ∀ ops ∈ ps, ops.length ≤ 1000000) (EL : List (List G)) (es : List EV) (hE : isE EL es) (hen : es.length ≤ 1000000) :
    LValid P 27 [q.told L, .c (.bor 1 LP), .c (.bor 4 EL)] []
    (fun v m1 => (∃ ws WL, legalF q ps es = some ws ∧ isL .i64 WL ws ∧ ws.length ≤ 8 ∧ v = .tup [.c (.ptr 0 (.lit 0) 9 0), gb true] ∧ m1 = [atB q L, .sym 1 WL]) ∨ (legalF q ps es = none ∧ v = .tup [.c (.g .nilp), gb false] ∧ m1 = [])) := by
  refine LValid.syv (R := fun v m1 => (∃ ws WL, legalF q ps es = some ws ∧ isL .i64 WL ws ∧ ws.length ≤ 8 ∧ v = .tup [.c (.ptr 0 (.lit 0) 9 0), .c (.g (.bool (.lit true)))] ∧ m1 = [atB q L, .sym 1 WL]) ∨ (legalF q ps es = none ∧ v = .tup [.c (.g .nilp), .c (.g (.bool (.lit false)))] ∧ m1 = [])) ?_
    (fun v m1 h => h.imp (fun ⟨ws, WL, h1, h2, h3, h4, h5⟩ => ⟨ws, WL, h1, h2, h3, by rw [h4]; rfl, h5⟩) (fun ⟨h1, h2, h3⟩ => ⟨h1, by rw [h2]; rfl, h3⟩))
  obtain ⟨I, hI⟩ := ref
  have hops := planOps hp q hq L LP ps hP0 hn hn2
  have hright := right_ hp (.sym q.a) EL es hE hen
  have hright : LValid P 33 [.c (.g (.int .i64 (.sym q.a))), .c (.bor 4 EL)] [] (fun v m1 => ∃ t, t = rightL q.a [] es ∧ v = boo t ∧ m1 = []) := hright
  have hnew := anew hp q hq L hL
  have hdo := fun WL ws h1 h2 (k a x : Int) => ado hp q hq L WL ws h1 h2 (.sym k) (.sym a) (.sym x)
  have hmem := fun h => okProgs_mem (q := q) (ps := ps) h
  have hrm := fun h => rightL_mem q.a es [] h
  have hfl0 := firstW_len q.ini q.c.toNat q.b.toNat
  have hbc := (bc_nat q hq).2
  have hlF : legalF q ps es = if okProgs q ps = true ∧ rightL q.a [] es = true then foldA ps q.first es else none := rfl
  generalize hlf : legalF q ps es = lf at hlF
  generalize okProgs q ps = okp at hops hmem hlF
  generalize rightL q.a [] es = rtp at hright hrm hlF
  have hfl : q.first.length = q.b.toNat * q.c.toNat := hfl0
  clear hfl0
  generalize q.first = fst0 at hnew hlF hfl
  have hle : I.len EL = es.length := by rw [hI]; exact hE.len
  have hen2 : isN (I.ofNat (I.len EL)) es.length := by rw [hle, hI]; rfl
  have hpl : I.len LP = ps.length := by rw [hI]; exact hP0.1
  obtain ⟨bc, hbce⟩ : ∃ bc, bc = q.b.toNat * q.c.toNat := ⟨_, rfl⟩
  rw [← hbce] at hfl hbc
  have hdo : ∀ WL ws, isL .i64 WL ws → ws.length = bc → ∀ (k a x : Int), (∃ ops ∈ ps, (⟨k, a, x⟩ : OP) ∈ ops) → okp = true → LValid P 10 [.c (.ptr 0 (.lit 0) 9 0), .agg [.g (.int .i64 (.sym k)), .g (.int .i64 (.sym a)), .g (.int .i64 (.sym x))]] [atB q L, .sym 1 WL]
      (fun v m1 => ∃ (e r : Int) (WL' : List (List G)), v = .tup [.c (.g (.int .i64 (.sym r))), .c (.g (.int .i64 (.sym e)))] ∧ m1 = [atB q L, .sym 1 WL'] ∧ e = 0 ∧ r = (stepA ws ⟨k, a, x⟩).1 ∧ isL .i64 WL' (stepA ws ⟨k, a, x⟩).2) := fun WL ws h1 h2 k a x ⟨ops, ho, hoo⟩ hok => by
    refine (hdo WL ws h1 (by rw [h2, hbce]) k a x).mono fun v m1 ⟨e, r, WL', g1, g2, g3⟩ => ⟨e, r, WL', g1, g2, ?_⟩
    rcases g3 with ⟨_, g4, g5, g6⟩ | ⟨g4, _⟩
    · exact ⟨g4, g5, g6⟩
    · have := (hmem hok).2 ops ho _ hoo
      rw [show (Z.sym k).val = k from rfl, show (Z.sym a).val = a from rfl, show (Z.sym x).val = x from rfl, this] at g4
      cases g4
  have hpsl : okp = true → (ps.length : Int) = q.a := fun h => (hmem h).1
  clear hmem hbce hq hL
  obtain ⟨qa, qb, qc, qd, qe, qf, qg, ini⟩ := q
  have hpsl : okp = true → isN qa ps.length := fun h => (hpsl h).symm
  have hrm : rtp = true → ∀ x ∈ es, 0 ≤ x.n ∧ x.n < qa ∧ 0 ≤ x.i := hrm
  refine fn_sim hI (mo hp) (cc hp c27) fun Post hP => ?_
  cbv
  refine .go [] [] [] hops rfl rfl rfl rfl rfl rfl ?_
  rintro v m1 ⟨t, ht, rfl, rfl⟩
  clear hops
  cases okp with
  | false =>
    have ht : t = 1 := ht
    have h0 : lf = none := hlF
    cbv
    refine br_t (show I.cmp .neq t 0 = true from by rw [ht, hI]; rfl) ?_
    cbv
    exact hP _ _ [] [] _ _ .nil rfl rfl rfl rfl rfl (.inr ⟨h0, rfl, rfl⟩)
  | true =>
  have ht : t = 0 := ht
  cbv
  refine br_f (show I.cmp .neq t 0 = false from by rw [ht, hI]; rfl) ?_
  cbv
  refine .go [] [] [] hright rfl rfl rfl rfl rfl rfl ?_
  rintro v m1 ⟨t2, ht2, rfl, rfl⟩
  clear hright
  cases rtp with
  | false =>
    have h0 : lf = none := hlF
    cbv
    refine br_t (show I.not t2 = true from by rw [ht2, hI]; rfl) ?_
    cbv
    exact hP _ _ [] [] _ _ .nil rfl rfl rfl rfl rfl (.inr ⟨h0, rfl, rfl⟩)
  | true =>
  have hlF : lf = foldA ps fst0 es := hlF
  have hrm := hrm rfl
  have hpsl := hpsl rfl
  cbv
  refine br_f (show I.not t2 = false from by rw [ht2, hI]; rfl) ?_
  cbv
  refine .go [] [] [] hnew rfl rfl rfl rfl rfl rfl ?_
  rintro v m1 ⟨WL0, hW0, rfl, rfl⟩
  clear hnew ht ht2
  cbv
  refine .loop_next (fun n ts m => ∃ (i : Nat) (z c : Int) (WL : List (List G)) (ws : List Int), n = es.length - i ∧ isN z i ∧ isN c es.length ∧ i ≤ es.length ∧ isL .i64 WL ws ∧ ws.length = bc ∧ lf = foldA ps ws (es.drop i) ∧
      ts = fr 68 [(1, .one (.c (.bor 1 LP))), (8, .one (.c (.ptr 0 (.lit 0) 9 0))), (26, .one (.c (.bor 4 EL))), (27, i64 c), (28, i64 z)] ∧ m = [atB ⟨qa, qb, qc, qd, qe, qf, qg, ini⟩ L, .sym 1 WL])
    es.length _ _ [1, 2] [] [1, 8, 26, 27, 28] (by decide) rfl rfl rfl ⟨0, 0, _, WL0, fst0, rfl, rfl, hen2, Nat.zero_le _, hW0, hfl, by rw [List.drop_zero]; exact hlF, rfl, rfl⟩ ?_
  clear hlF hW0 hfl
  rintro next n hnext ts m ⟨i, z, c, WL, ws, hn3, hz, hc, hi, hW, hwl, hlF, rfl, rfl⟩
  cbv
  refine .br (fun g1 => ?_) (fun g1 => ?_)
  · have hi1 : i < es.length := by
      have : z < c := by simpa [hI, ints, rCmp] using g1
      unfold isN at hz hc
      omega
    have hz1 : isN (I.bin .add .i64 z 1) (i + 1) := by unfold isN at hz ⊢; rw [hI]; simp only [ints, rBin]; rw [wrap_in] <;> omega
    have h9 : ∃ e, es[i]? = some e := ⟨_, List.getElem?_eq_getElem hi1⟩
    obtain ⟨e, he⟩ := h9
    have hr := hE.get he
    have hil : i < I.len EL := by rw [hle]; exact hi1
    obtain ⟨hx0, hx1, hx2⟩ := hrm e (List.mem_of_getElem? he)
    have hdrop : es.drop i = e :: es.drop (i + 1) := by
      rw [List.drop_eq_getElem_cons hi1]
      congr 1
      exact (List.getElem?_eq_some_iff.1 he).2
    rw [hdrop] at hlF
    obtain ⟨en, ei, ed, ev⟩ := e
    have hx0 : 0 ≤ en := hx0
    have hx1 : en < qa := hx1
    have hx2 : 0 ≤ ei := hx2
    have h9 : ∃ (nn ii : Nat), isN en nn ∧ isN ei ii ∧ en.toNat = nn ∧ ei.toNat = ii ∧ nn < ps.length := by
      refine ⟨en.toNat, ei.toNat, ?_, ?_, rfl, rfl, ?_⟩
      · unfold isN; omega
      · unfold isN; omega
      · unfold isN at hpsl; omega
    obtain ⟨nn, ii, hnn, hii, hnt, hit, hnl⟩ := h9
    have h9 : ∃ ops, ps[nn]? = some ops := ⟨_, List.getElem?_eq_getElem hnl⟩
    obtain ⟨ops, hops⟩ := h9
    obtain ⟨g, hrp, hg⟩ := hP0.2 nn ops hops
    have hnl2 : nn < I.len LP := by rw [hpl]; exact hnl
    have hlF : lf = if ((ops.length : Nat) : Int) ≤ ei then none else if ed = false then foldA ps ws (es.drop (i + 1)) else if (stepA ws ((ops[ii]?).getD ⟨0, 0, 0⟩)).1 = ev then foldA ps (stepA ws ((ops[ii]?).getD ⟨0, 0, 0⟩)).2 (es.drop (i + 1)) else none := by
      rw [hlF, foldA_cons]
      show (if ((((ps[en.toNat]?).getD []).length : Nat) : Int) ≤ ei then none else if ed = false then foldA ps ws (es.drop (i + 1)) else if (stepA ws ((((ps[en.toNat]?).getD [])[ei.toNat]?).getD ⟨0, 0, 0⟩)).1 = ev then foldA ps (stepA ws ((((ps[en.toNat]?).getD [])[ei.toNat]?).getD ⟨0, 0, 0⟩)).2 (es.drop (i + 1)) else none) = _
      rw [hnt, hit, hops]
      rfl
    clear g1 he hdrop hx0 hx1 hx2 hnt hit
    rcases hg with ⟨LO, rfl, hLO⟩ | ⟨rfl, hops0⟩
    · have hol : I.len LO = ops.length := by rw [hI]; exact hLO.len
      have hge : ∀ t, I.cmp .geq ei (I.ofNat (I.len LO)) = t → decide (ops.length ≤ ii) = t := fun t h => by
        unfold isN at hii
        rw [hol, hii, hI] at h
        have h : decide ((ii : Int) ≥ (ops.length : Int)) = t := h
        rw [← h]
        by_cases hh : ops.length ≤ ii
        · rw [decide_eq_true hh, decide_eq_true (by omega)]
        · rw [decide_eq_false hh, decide_eq_false (by omega)]
      have hle1 : ops.length ≤ ii → lf = none := fun h => by rw [hlF, if_pos (by unfold isN at hii; omega)]
      have hle2 : ¬ ops.length ≤ ii → lf = if ed = false then foldA ps ws (es.drop (i + 1)) else if (stepA ws ((ops[ii]?).getD ⟨0, 0, 0⟩)).1 = ev then foldA ps (stepA ws ((ops[ii]?).getD ⟨0, 0, 0⟩)).2 (es.drop (i + 1)) else none := fun h => by rw [hlF, if_neg (by unfold isN at hii; omega)]
      clear hlF
      cbv
      refine .idx i hz hil (.nth _ hr ?_)
      cbv
      refine .drawn [] ?_
      cbv
      refine .idx nn hnn hnl2 (.nth _ hrp ?_)
      cbv
      refine .br (fun g2 => ?_) (fun g2 => ?_)
      · have h0 := hle1 (of_decide_eq_true (hge _ g2))
        cbv
        exact hP _ _ [] [] _ _ .nil rfl rfl rfl rfl rfl (.inr ⟨h0, rfl, rfl⟩)
      have hlt : ii < ops.length := by have := of_decide_eq_false (hge _ g2); omega
      have hlF := hle2 (by omega)
      clear hle1 hle2 g2 hge
      have hnot : ∀ t, I.not ed = t → ed = !t := fun t h => by rw [hI] at h; have h : (!ed) = t := h; rw [← h]; simp
      cbv
      refine .br (fun g2 => ?_) (fun g2 => ?_)
      · have hd : ed = false := hnot _ g2
        rw [if_pos hd] at hlF
        clear hnot g2
        cbv
        exact hnext _ _ (es.length - (i + 1)) [0, 1] [] [1, 8, 26, 27, 28] _ _ (by omega) (by decide) rfl rfl rfl ⟨i + 1, _, c, WL, ws, rfl, hz1, hc, hi1, hW, hwl, hlF, rfl, rfl⟩
      have hd : ¬ ed = false := by rw [hnot _ g2]; decide
      rw [if_neg hd] at hlF
      have h9 : ∃ o, ops[ii]? = some o := ⟨_, List.getElem?_eq_getElem hlt⟩
      obtain ⟨o, ho⟩ := h9
      rw [ho] at hlF
      have hro := hLO.get ho
      have hil2 : ii < I.len LO := by rw [hol]; exact hlt
      obtain ⟨ok, oa, ov⟩ := o
      have hcall := hdo WL ws hW hwl ok oa ov ⟨ops, List.mem_of_getElem? hops, List.mem_of_getElem? ho⟩ rfl
      have hsl := (stepA_len ws ⟨ok, oa, ov⟩).trans hwl
      have hlF : lf = if (stepA ws ⟨ok, oa, ov⟩).1 = ev then foldA ps (stepA ws ⟨ok, oa, ov⟩).2 (es.drop (i + 1)) else none := hlF
      generalize stepA ws ⟨ok, oa, ov⟩ = sA at hcall hsl hlF
      obtain ⟨rr, ws2⟩ := sA
      have hsl : ws2.length = bc := hsl
      have hlF : lf = if rr = ev then foldA ps ws2 (es.drop (i + 1)) else none := hlF
      have hne : ∀ t, I.cmp .neq rr ev = t → decide (rr = ev) = !t := fun t h => by
        rw [hI] at h
        have h : (rr != ev) = t := h
        rw [← h]
        by_cases hh : rr = ev <;> simp [hh]
      clear hnot g2 hd ho hops hwl hW
      cbv
      refine .drawn [0, 1] ?_
      cbv
      refine .idx nn hnn hnl2 (.nth _ hrp ?_)
      cbv
      refine .idx ii hii hil2 (.nth _ hro ?_)
      cbv
      refine .go [0, 1] [] [] hcall rfl rfl rfl rfl rfl rfl ?_
      rintro v m1 ⟨e2, r2, WL2, rfl, rfl, he2, hr2, hW2⟩
      have hr2 : r2 = rr := hr2
      subst hr2
      have hW2 : isL .i64 WL2 ws2 := hW2
      clear hcall
      cbv
      refine br_f (show I.cmp .neq e2 0 = false from by rw [he2, hI]; rfl) ?_
      cbv
      refine .br (fun g2 => ?_) (fun g2 => ?_)
      · have h2 := of_decide_eq_false (hne _ g2)
        rw [if_neg h2] at hlF
        cbv
        exact hP _ _ [] [] _ _ .nil rfl rfl rfl rfl rfl (.inr ⟨hlF, rfl, rfl⟩)
      · have h2 := of_decide_eq_true (hne _ g2)
        rw [if_pos h2] at hlF
        clear hne g2
        cbv
        exact hnext _ _ (es.length - (i + 1)) [0, 1] [] [1, 8, 26, 27, 28] _ _ (by omega) (by decide) rfl rfl rfl ⟨i + 1, _, c, WL2, ws2, rfl, hz1, hc, hi1, hW2, hsl, hlF, rfl, rfl⟩
    · have h0 : lf = none := by rw [hlF, if_pos (by rw [hops0]; unfold isN at hii; simp; omega)]
      have hge : I.cmp .geq ei 0 = true := by unfold isN at hii; rw [hii, hI]; show decide ((ii : Int) ≥ 0) = true; exact decide_eq_true (by omega)
      clear hlF
      cbv
      refine .idx i hz hil (.nth _ hr ?_)
      cbv
      refine .drawn [] ?_
      cbv
      refine .idx nn hnn hnl2 (.nth _ hrp ?_)
      cbv
      refine br_t hge ?_
      cbv
      exact hP _ _ [] [] _ _ .nil rfl rfl rfl rfl rfl (.inr ⟨h0, rfl, rfl⟩)
  · have hi1 : i = es.length := by
      have : ¬ z < c := by simpa [hI, ints, rCmp] using g1
      unfold isN at hz hc
      omega
    have hlF : lf = some ws := by rw [hlF, hi1, List.drop_length]; rfl
    have hw8 : ws.length ≤ 8 := by omega
    clear hwl
    cbv
    exact hP _ _ [0, 1] [] _ _ (by decide) rfl rfl rfl rfl rfl (.inl ⟨ws, WL, hlF, hW, hw8, rfl, rfl⟩)
theorem legal (q : CF) (hq : q.ok) (L : List (List G)) (hL : isL .i64 L q.ini) (LP : List (List G)) (ps : List (List OP)) (hP0 : isPs LP ps) (hn : ps.length ≤ 1000000) (hn2 : ∀ ops ∈ ps, ops.length ≤ 1000000) (EL : List (List G)) (es : List EV) (hE : isE EL es) (hen : es.length ≤ 1000000) :
    LValid P 19 [q.told L, .c (.bor 1 LP), .c (.bor 4 EL)] [] (fun v m1 => ∃ t, t = (legalF q ps es).isSome ∧ v = boo t ∧ m1 = []) := by
  refine bx (LValid.boo ?_)
  obtain ⟨I, hI⟩ := ref
  have hf := fold_ hp q hq L hL LP ps hP0 hn hn2 EL es hE hen
  generalize legalF q ps es = lf at hf ⊢
  obtain ⟨qa, qb, qc, qd, qe, qf, qg, ini⟩ := q
  refine fn_sim hI (mo hp) (cc hp c19) fun Post hP => ?_
  cbv
  refine .go [] [] [] hf rfl rfl rfl rfl rfl rfl ?_
  rintro v m1 (⟨ws, WL, h1, h2, h3, rfl, rfl⟩ | ⟨h1, rfl, rfl⟩)
  · clear hf
    cbv
    exact hP _ _ [] [] _ _ .nil rfl rfl rfl rfl rfl ⟨.sym true, rfl, show true = _ from by rw [h1]; rfl, rfl⟩
  · clear hf
    cbv
    exact hP _ _ [] [] _ _ .nil rfl rfl rfl rfl rfl ⟨.sym false, rfl, show false = _ from by rw [h1]; rfl, rfl⟩
end
end Go.Proofs.Ytfoookmblfcmhaa.E
