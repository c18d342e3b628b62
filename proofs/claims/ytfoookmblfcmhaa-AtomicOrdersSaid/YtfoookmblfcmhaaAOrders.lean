/- AtomicOrders. -/
import Derived.Test.YtfoookmblfcmhaaAReads
namespace Go.Proofs.Ytfoookmblfcmhaa.E
open Go
set_option linter.unusedVariables false
set_option maxRecDepth 100000

theorem ok_load (a : Int) : okProgs ⟨2, 1, 1, 1, 1, 1, 1, [a]⟩ [[⟨1, 0, 0⟩], [⟨1, 0, 0⟩]] = true := rfl
theorem ok_both (a v : Int) : okProgs ⟨2, 1, 1, 1, 1, 1, 1, [a]⟩ [[⟨1, 0, 0⟩], [⟨2, 0, v⟩]] = true := by
  have e : okOp ⟨2, 1, 1, 1, 1, 1, 1, [a]⟩ ⟨2, 0, v⟩ = true := by
    show (true && (v == 0 || true || false)) = true
    simp
  unfold okProgs badProg
  simp only [List.any_cons, List.any_nil, e]
  rfl
theorem ord1 (a v : Int) : legalF ⟨2, 1, 1, 1, 1, 1, 1, [a]⟩ [[⟨1, 0, 0⟩], [⟨1, 0, 0⟩]] [⟨0, 0, false, 0⟩, ⟨1, 0, false, 0⟩, ⟨0, 0, true, a⟩, ⟨1, 0, true, a⟩] = some [a] := by
  have h1 : okProgs ⟨2, 1, 1, 1, 1, 1, 1, [a]⟩ [[⟨1, 0, 0⟩], [⟨1, 0, 0⟩]] = true := ok_load a
  have h2 : rightL 2 [] [⟨0, 0, false, 0⟩, ⟨1, 0, false, 0⟩, ⟨0, 0, true, a⟩, ⟨1, 0, true, a⟩] = true := by simp [rightL, okAt, cnt]
  unfold legalF
  rw [if_pos ⟨h1, h2⟩, show CF.first ⟨2, 1, 1, 1, 1, 1, 1, [a]⟩ = [a] from rfl]
  simp [foldA, stepA]
theorem ord2 (a v : Int) : legalF ⟨2, 1, 1, 1, 1, 1, 1, [a]⟩ [[⟨1, 0, 0⟩], [⟨1, 0, 0⟩]] [⟨0, 0, false, 0⟩, ⟨1, 0, false, 0⟩, ⟨1, 0, true, a⟩, ⟨0, 0, true, a⟩] = some [a] := by
  have h1 : okProgs ⟨2, 1, 1, 1, 1, 1, 1, [a]⟩ [[⟨1, 0, 0⟩], [⟨1, 0, 0⟩]] = true := ok_load a
  have h2 : rightL 2 [] [⟨0, 0, false, 0⟩, ⟨1, 0, false, 0⟩, ⟨1, 0, true, a⟩, ⟨0, 0, true, a⟩] = true := by simp [rightL, okAt, cnt]
  unfold legalF
  rw [if_pos ⟨h1, h2⟩, show CF.first ⟨2, 1, 1, 1, 1, 1, 1, [a]⟩ = [a] from rfl]
  simp [foldA, stepA]
theorem ord3 (a v : Int) : legalF ⟨2, 1, 1, 1, 1, 1, 1, [a]⟩ [[⟨1, 0, 0⟩], [⟨1, 0, 0⟩]] [⟨1, 0, false, 0⟩, ⟨0, 0, false, 0⟩, ⟨0, 0, true, a⟩] = some [a] := by
  have h1 : okProgs ⟨2, 1, 1, 1, 1, 1, 1, [a]⟩ [[⟨1, 0, 0⟩], [⟨1, 0, 0⟩]] = true := ok_load a
  have h2 : rightL 2 [] [⟨1, 0, false, 0⟩, ⟨0, 0, false, 0⟩, ⟨0, 0, true, a⟩] = true := by simp [rightL, okAt, cnt]
  unfold legalF
  rw [if_pos ⟨h1, h2⟩, show CF.first ⟨2, 1, 1, 1, 1, 1, 1, [a]⟩ = [a] from rfl]
  simp [foldA, stepA]
theorem ord4 (a v : Int) : legalF ⟨2, 1, 1, 1, 1, 1, 1, [a]⟩ [[⟨1, 0, 0⟩], [⟨2, 0, v⟩]] [⟨0, 0, false, 0⟩, ⟨1, 0, false, 0⟩, ⟨0, 0, true, a⟩, ⟨1, 0, true, 0⟩] = some [v] := by
  have h1 : okProgs ⟨2, 1, 1, 1, 1, 1, 1, [a]⟩ [[⟨1, 0, 0⟩], [⟨2, 0, v⟩]] = true := ok_both a v
  have h2 : rightL 2 [] [⟨0, 0, false, 0⟩, ⟨1, 0, false, 0⟩, ⟨0, 0, true, a⟩, ⟨1, 0, true, 0⟩] = true := by simp [rightL, okAt, cnt]
  unfold legalF
  rw [if_pos ⟨h1, h2⟩, show CF.first ⟨2, 1, 1, 1, 1, 1, 1, [a]⟩ = [a] from rfl]
  simp [foldA, stepA]
theorem ord5 (a v : Int) : legalF ⟨2, 1, 1, 1, 1, 1, 1, [a]⟩ [[⟨1, 0, 0⟩], [⟨2, 0, v⟩]] [⟨0, 0, false, 0⟩, ⟨1, 0, false, 0⟩, ⟨1, 0, true, 0⟩, ⟨0, 0, true, a⟩] = if v = a then some [v] else none := by
  have h1 : okProgs ⟨2, 1, 1, 1, 1, 1, 1, [a]⟩ [[⟨1, 0, 0⟩], [⟨2, 0, v⟩]] = true := ok_both a v
  have h2 : rightL 2 [] [⟨0, 0, false, 0⟩, ⟨1, 0, false, 0⟩, ⟨1, 0, true, 0⟩, ⟨0, 0, true, a⟩] = true := by simp [rightL, okAt, cnt]
  unfold legalF
  rw [if_pos ⟨h1, h2⟩, show CF.first ⟨2, 1, 1, 1, 1, 1, 1, [a]⟩ = [a] from rfl]
  simp [foldA, stepA]
theorem ord6 (a v : Int) : legalF ⟨2, 1, 1, 1, 1, 1, 1, [a]⟩ [[⟨1, 0, 0⟩], [⟨2, 0, v⟩]] [⟨1, 0, false, 0⟩, ⟨1, 0, true, 0⟩, ⟨0, 0, false, 0⟩, ⟨0, 0, true, v⟩] = some [v] := by
  have h1 : okProgs ⟨2, 1, 1, 1, 1, 1, 1, [a]⟩ [[⟨1, 0, 0⟩], [⟨2, 0, v⟩]] = true := ok_both a v
  have h2 : rightL 2 [] [⟨1, 0, false, 0⟩, ⟨1, 0, true, 0⟩, ⟨0, 0, false, 0⟩, ⟨0, 0, true, v⟩] = true := by simp [rightL, okAt, cnt]
  unfold legalF
  rw [if_pos ⟨h1, h2⟩, show CF.first ⟨2, 1, 1, 1, 1, 1, 1, [a]⟩ = [a] from rfl]
  simp [foldA, stepA]
section
variable {P : Program} (hp : P = Try.prog)
include hp
set_option maxHeartbeats 4000000 in
theorem after_ (q : CF) (hq : q.ok) (L : List (List G)) (hL : isL .i64 L q.ini) (LP : List (List G)) (ps : List (List OP)) (hP0 : isPs LP ps) (hn : ps.length ≤ 1000000) (hn2 : ∀ ops ∈ ps, ops.length ≤ 1000000) (EL : List (List G)) (es : List EV) (hE : isE EL es) (hen : es.length ≤ 1000000) :
    LValid P 20 [q.told L, .c (.bor 1 LP), .c (.bor 4 EL)] [] (fun v m1 => (∃ ws WL, legalF q ps es = some ws ∧ isL .i64 WL ws ∧ ws.length ≤ 8 ∧ v = .one (.c (.row 0 1 none)) ∧ m1 = [.sym 1 WL]) ∨ (legalF q ps es = none ∧ v = .one (.c (.g .nil)) ∧ m1 = [])) := by
  obtain ⟨I, hI⟩ := ref
  have hf := fold_ hp q hq L hL LP ps hP0 hn hn2 EL es hE hen
  have hw := fun WL h => awords hp q L WL h
  generalize legalF q ps es = lf at hf ⊢
  obtain ⟨qa, qb, qc, qd, qe, qf, qg, ini⟩ := q
  refine fn_sim hI (mo hp) (cc hp c20) fun Post hP => ?_
  cbv
  refine .go [] [] [] hf rfl rfl rfl rfl rfl rfl ?_
  rintro v m1 (⟨ws, WL, h1, h2, h3, rfl, rfl⟩ | ⟨h1, rfl, rfl⟩)
  · have hw := hw WL (by rw [h2.len]; omega)
    clear hf
    cbv
    refine br_f (show I.not true = false from by rw [hI]; rfl) ?_
    cbv
    refine .go [1, 2] [] [] hw rfl rfl rfl rfl rfl rfl ?_
    rintro v m1 ⟨rfl, rfl⟩
    cbv
    exact hP _ _ [3] [] _ _ (by decide) rfl rfl rfl rfl rfl (.inl ⟨ws, WL, h1, h2, h3, rfl, rfl⟩)
  · clear hf
    cbv
    refine br_t (show I.not false = true from by rw [hI]; rfl) ?_
    cbv
    exact hP _ _ [] [] _ _ .nil rfl rfl rfl rfl rfl (.inr ⟨h1, rfl, rfl⟩)
set_option maxHeartbeats 20000000 in
theorem orders (a v : Int) (b : Bool) : LValid P 6 [gi .i64 a, gi .i64 v, .c (.g (.bool (.sym b)))] [] (fun v _ => ∃ b : BB, b.val = true ∧ v = .one (.c (.g (.bool b)))) := by
  obtain ⟨I, hI⟩ := ref
  have hq : CF.ok ⟨2, 1, 1, 1, 1, 1, 1, [a]⟩ := ⟨by show (1 : Int) ≤ 2 ∧ (2 : Int) ≤ 4; decide, by show (1 : Int) ≤ 1 ∧ (1 : Int) ≤ 4; decide, by show (1 : Int) ≤ 1 ∧ (1 : Int) ≤ 2; decide, by show (1 : Int) ≤ 1 ∧ (1 : Int) ≤ 2; decide, ⟨by show 1 ≤ 8; decide, by show (1 : Int) ≤ 1 * 1; decide⟩⟩
  have hpl : isPs [[.rows 3 [OP.row ⟨1, 0, 0⟩]], [.rows 3 [OP.row ⟨1, 0, 0⟩]]] [[⟨1, 0, 0⟩], [⟨1, 0, 0⟩]] := ⟨rfl, fun i ops h => by
    match i, h with
    | 0, h => cases h; exact ⟨_, rfl, .inl ⟨_, rfl, rfl⟩⟩
    | 1, h => cases h; exact ⟨_, rfl, .inl ⟨_, rfl, rfl⟩⟩
    | i + 2, h => simp at h⟩
  have hpb : isPs [[.rows 3 [OP.row ⟨1, 0, 0⟩]], [.rows 3 [OP.row ⟨2, 0, v⟩]]] [[⟨1, 0, 0⟩], [⟨2, 0, v⟩]] := ⟨rfl, fun i ops h => by
    match i, h with
    | 0, h => cases h; exact ⟨_, rfl, .inl ⟨_, rfl, rfl⟩⟩
    | 1, h => cases h; exact ⟨_, rfl, .inl ⟨_, rfl, rfl⟩⟩
    | i + 2, h => simp at h⟩
  have hll : ∀ ops ∈ ([[⟨1, 0, 0⟩], [⟨1, 0, 0⟩]] : List (List OP)), ops.length ≤ 1000000 := fun ops h => by
    simp at h
    rw [h]
    decide
  have hlb : ∀ ops ∈ ([[⟨1, 0, 0⟩], [⟨2, 0, v⟩]] : List (List OP)), ops.length ≤ 1000000 := fun ops h => by
    simp at h
    rcases h with h | h <;> rw [h] <;> simp
  have hnot : ∀ t : Bool, t = true → I.not t = false := fun t h => by rw [h, hI]; rfl
  have heql : I.cmp .eql a v = decide (v = a) := by
    rw [hI]
    show (a == v) = _
    by_cases h : v = a
    · subst h; simp
    · rw [decide_eq_false h]; exact beq_eq_false_iff_ne.2 (fun e => h e.symm)
  have hbeq : ∀ x y : Bool, x = y → I.beq x y = true := fun x y h => by rw [h, hI]; show (y == y) = true; simp
  refine fn_sim hI (mo hp) (cc hp c6) fun Post hP => ?_
  cbv
  refine .go [] [] [.keep, .bor 1, .bor 4] (show LValid P 19 [.agg (cfg (.lit 2) (.lit 1) (.lit 1) (.lit 1) (.lit 1) (.lit 1) (.lit 1) (.g (.rows 1 [[.int .i64 (.sym a)]]))), .c (.bor 1 [[.rows 3 [OP.row ⟨1, 0, 0⟩]], [.rows 3 [OP.row ⟨1, 0, 0⟩]]]), .c (.bor 4 [EV.row ⟨0, 0, false, 0⟩, EV.row ⟨1, 0, false, 0⟩, EV.row ⟨0, 0, true, a⟩, EV.row ⟨1, 0, true, a⟩])] [] _ from LValid.sy (legal hp ⟨2, 1, 1, 1, 1, 1, 1, [a]⟩ hq _ rfl [[.rows 3 [OP.row ⟨1, 0, 0⟩]], [.rows 3 [OP.row ⟨1, 0, 0⟩]]] [[⟨1, 0, 0⟩], [⟨1, 0, 0⟩]] hpl (by simp) hll [EV.row ⟨0, 0, false, 0⟩, EV.row ⟨1, 0, false, 0⟩, EV.row ⟨0, 0, true, a⟩, EV.row ⟨1, 0, true, a⟩] [⟨0, 0, false, 0⟩, ⟨1, 0, false, 0⟩, ⟨0, 0, true, a⟩, ⟨1, 0, true, a⟩] rfl (by simp))) rfl rfl rfl rfl rfl rfl ?_
  rintro v1 m1 ⟨t1, ht1, rfl, rfl⟩
  have ht1 : t1 = (some [a]).isSome := ht1.trans (congrArg Option.isSome (ord1 a v))
  cbv
  refine br_f (hnot _ ht1) ?_
  cbv
  refine .go [] [] [.keep, .bor 1, .bor 4] (show LValid P 19 [.agg (cfg (.lit 2) (.lit 1) (.lit 1) (.lit 1) (.lit 1) (.lit 1) (.lit 1) (.g (.rows 1 [[.int .i64 (.sym a)]]))), .c (.bor 1 [[.rows 3 [OP.row ⟨1, 0, 0⟩]], [.rows 3 [OP.row ⟨1, 0, 0⟩]]]), .c (.bor 4 [EV.row ⟨0, 0, false, 0⟩, EV.row ⟨1, 0, false, 0⟩, EV.row ⟨1, 0, true, a⟩, EV.row ⟨0, 0, true, a⟩])] [] _ from LValid.sy (legal hp ⟨2, 1, 1, 1, 1, 1, 1, [a]⟩ hq _ rfl [[.rows 3 [OP.row ⟨1, 0, 0⟩]], [.rows 3 [OP.row ⟨1, 0, 0⟩]]] [[⟨1, 0, 0⟩], [⟨1, 0, 0⟩]] hpl (by simp) hll [EV.row ⟨0, 0, false, 0⟩, EV.row ⟨1, 0, false, 0⟩, EV.row ⟨1, 0, true, a⟩, EV.row ⟨0, 0, true, a⟩] [⟨0, 0, false, 0⟩, ⟨1, 0, false, 0⟩, ⟨1, 0, true, a⟩, ⟨0, 0, true, a⟩] rfl (by simp))) rfl rfl rfl rfl rfl rfl ?_
  rintro v2 m1 ⟨t2, ht2, rfl, rfl⟩
  have ht2 : t2 = (some [a]).isSome := ht2.trans (congrArg Option.isSome (ord2 a v))
  cbv
  refine br_f (hnot _ ht2) ?_
  cbv
  refine .go [] [] [.keep, .bor 1, .bor 4] (show LValid P 19 [.agg (cfg (.lit 2) (.lit 1) (.lit 1) (.lit 1) (.lit 1) (.lit 1) (.lit 1) (.g (.rows 1 [[.int .i64 (.sym a)]]))), .c (.bor 1 [[.rows 3 [OP.row ⟨1, 0, 0⟩]], [.rows 3 [OP.row ⟨1, 0, 0⟩]]]), .c (.bor 4 [EV.row ⟨1, 0, false, 0⟩, EV.row ⟨0, 0, false, 0⟩, EV.row ⟨0, 0, true, a⟩])] [] _ from LValid.sy (legal hp ⟨2, 1, 1, 1, 1, 1, 1, [a]⟩ hq _ rfl [[.rows 3 [OP.row ⟨1, 0, 0⟩]], [.rows 3 [OP.row ⟨1, 0, 0⟩]]] [[⟨1, 0, 0⟩], [⟨1, 0, 0⟩]] hpl (by simp) hll [EV.row ⟨1, 0, false, 0⟩, EV.row ⟨0, 0, false, 0⟩, EV.row ⟨0, 0, true, a⟩] [⟨1, 0, false, 0⟩, ⟨0, 0, false, 0⟩, ⟨0, 0, true, a⟩] rfl (by simp))) rfl rfl rfl rfl rfl rfl ?_
  rintro v3 m1 ⟨t3, ht3, rfl, rfl⟩
  have ht3 : t3 = (some [a]).isSome := ht3.trans (congrArg Option.isSome (ord3 a v))
  cbv
  refine br_f (hnot _ ht3) ?_
  cbv
  refine .br (fun g1 => ?_) (fun g1 => ?_)
  · cbv
    refine .go [] [] [.keep, .bor 1, .bor 4] (show LValid P 19 [.agg (cfg (.lit 2) (.lit 1) (.lit 1) (.lit 1) (.lit 1) (.lit 1) (.lit 1) (.g (.rows 1 [[.int .i64 (.sym a)]]))), .c (.bor 1 [[.rows 3 [OP.row ⟨1, 0, 0⟩]], [.rows 3 [OP.row ⟨2, 0, v⟩]]]), .c (.bor 4 [EV.row ⟨0, 0, false, 0⟩, EV.row ⟨1, 0, false, 0⟩, EV.row ⟨0, 0, true, a⟩, EV.row ⟨1, 0, true, 0⟩])] [] _ from LValid.sy (legal hp ⟨2, 1, 1, 1, 1, 1, 1, [a]⟩ hq _ rfl [[.rows 3 [OP.row ⟨1, 0, 0⟩]], [.rows 3 [OP.row ⟨2, 0, v⟩]]] [[⟨1, 0, 0⟩], [⟨2, 0, v⟩]] hpb (by simp) hlb [EV.row ⟨0, 0, false, 0⟩, EV.row ⟨1, 0, false, 0⟩, EV.row ⟨0, 0, true, a⟩, EV.row ⟨1, 0, true, 0⟩] [⟨0, 0, false, 0⟩, ⟨1, 0, false, 0⟩, ⟨0, 0, true, a⟩, ⟨1, 0, true, 0⟩] rfl (by simp))) rfl rfl rfl rfl rfl rfl ?_
    rintro v4 m1 ⟨t4, ht4, rfl, rfl⟩
    have ht4 : t4 = (some [v]).isSome := ht4.trans (congrArg Option.isSome (ord4 a v))
    cbv
    refine br_t ht4 ?_
    cbv
    refine .go [] [] [.keep, .bor 1, .bor 4] (show LValid P 20 [.agg (cfg (.lit 2) (.lit 1) (.lit 1) (.lit 1) (.lit 1) (.lit 1) (.lit 1) (.g (.rows 1 [[.int .i64 (.sym a)]]))), .c (.bor 1 [[.rows 3 [OP.row ⟨1, 0, 0⟩]], [.rows 3 [OP.row ⟨2, 0, v⟩]]]), .c (.bor 4 [EV.row ⟨0, 0, false, 0⟩, EV.row ⟨1, 0, false, 0⟩, EV.row ⟨0, 0, true, a⟩, EV.row ⟨1, 0, true, 0⟩])] [] _ from LValid.sy (after_ hp ⟨2, 1, 1, 1, 1, 1, 1, [a]⟩ hq _ rfl [[.rows 3 [OP.row ⟨1, 0, 0⟩]], [.rows 3 [OP.row ⟨2, 0, v⟩]]] [[⟨1, 0, 0⟩], [⟨2, 0, v⟩]] hpb (by simp) hlb [EV.row ⟨0, 0, false, 0⟩, EV.row ⟨1, 0, false, 0⟩, EV.row ⟨0, 0, true, a⟩, EV.row ⟨1, 0, true, 0⟩] [⟨0, 0, false, 0⟩, ⟨1, 0, false, 0⟩, ⟨0, 0, true, a⟩, ⟨1, 0, true, 0⟩] rfl (by simp))) rfl rfl rfl rfl rfl rfl ?_
    rintro v5 m1 (⟨ws, WL, h1, h2, h3, rfl, rfl⟩ | ⟨h1, _⟩)
    · have hws : ws = [v] := Option.some.inj (h1.symm.trans (ord4 a v))
      rw [hws] at h2
      have hsm := same hp WL [[.int .i64 (.sym v)]] [v] [v] h2 rfl (by rw [h2.len]; show 1 * 8 ≤ 140737488355328; decide)
      clear h1 h3 hws
      cbv
      refine .go [] [] [.bor 1, .bor 1] hsm rfl rfl rfl rfl rfl rfl ?_
      rintro v6 m1 ⟨t6, ht6, rfl, rfl⟩
      have ht6 : t6 = true := by rw [ht6]; simp
      clear hsm
      cbv
      refine br_t ht6 ?_
      cbv
      refine .go [] [] [] (wakes23 hp) rfl rfl rfl rfl rfl rfl ?_
      rintro v m1 ⟨rfl, rfl⟩
      cbv
      exact hP _ _ [] [] _ _ .nil rfl rfl rfl rfl rfl ⟨_, rfl, rfl⟩
    · rw [ord4] at h1
      cases h1
  · cbv
    refine .go [] [] [.keep, .bor 1, .bor 4] (show LValid P 19 [.agg (cfg (.lit 2) (.lit 1) (.lit 1) (.lit 1) (.lit 1) (.lit 1) (.lit 1) (.g (.rows 1 [[.int .i64 (.sym a)]]))), .c (.bor 1 [[.rows 3 [OP.row ⟨1, 0, 0⟩]], [.rows 3 [OP.row ⟨2, 0, v⟩]]]), .c (.bor 4 [EV.row ⟨0, 0, false, 0⟩, EV.row ⟨1, 0, false, 0⟩, EV.row ⟨1, 0, true, 0⟩, EV.row ⟨0, 0, true, a⟩])] [] _ from LValid.sy (legal hp ⟨2, 1, 1, 1, 1, 1, 1, [a]⟩ hq _ rfl [[.rows 3 [OP.row ⟨1, 0, 0⟩]], [.rows 3 [OP.row ⟨2, 0, v⟩]]] [[⟨1, 0, 0⟩], [⟨2, 0, v⟩]] hpb (by simp) hlb [EV.row ⟨0, 0, false, 0⟩, EV.row ⟨1, 0, false, 0⟩, EV.row ⟨1, 0, true, 0⟩, EV.row ⟨0, 0, true, a⟩] [⟨0, 0, false, 0⟩, ⟨1, 0, false, 0⟩, ⟨1, 0, true, 0⟩, ⟨0, 0, true, a⟩] rfl (by simp))) rfl rfl rfl rfl rfl rfl ?_
    rintro v5 m1 ⟨t5, ht5, rfl, rfl⟩
    have ht5 : t5 = (if v = a then some [v] else none).isSome := ht5.trans (congrArg Option.isSome (ord5 a v))
    cbv
    have h5 : t5 = I.cmp .eql a v := by
      rw [ht5, heql]
      by_cases h : v = a
      · rw [if_pos h, decide_eq_true h]; rfl
      · rw [if_neg h, decide_eq_false h]; rfl
    clear ht5 heql
    refine br_t (hbeq _ _ h5) ?_
    cbv
    refine .go [] [] [.keep, .bor 1, .bor 4] (show LValid P 19 [.agg (cfg (.lit 2) (.lit 1) (.lit 1) (.lit 1) (.lit 1) (.lit 1) (.lit 1) (.g (.rows 1 [[.int .i64 (.sym a)]]))), .c (.bor 1 [[.rows 3 [OP.row ⟨1, 0, 0⟩]], [.rows 3 [OP.row ⟨2, 0, v⟩]]]), .c (.bor 4 [EV.row ⟨1, 0, false, 0⟩, EV.row ⟨1, 0, true, 0⟩, EV.row ⟨0, 0, false, 0⟩, EV.row ⟨0, 0, true, v⟩])] [] _ from LValid.sy (legal hp ⟨2, 1, 1, 1, 1, 1, 1, [a]⟩ hq _ rfl [[.rows 3 [OP.row ⟨1, 0, 0⟩]], [.rows 3 [OP.row ⟨2, 0, v⟩]]] [[⟨1, 0, 0⟩], [⟨2, 0, v⟩]] hpb (by simp) hlb [EV.row ⟨1, 0, false, 0⟩, EV.row ⟨1, 0, true, 0⟩, EV.row ⟨0, 0, false, 0⟩, EV.row ⟨0, 0, true, v⟩] [⟨1, 0, false, 0⟩, ⟨1, 0, true, 0⟩, ⟨0, 0, false, 0⟩, ⟨0, 0, true, v⟩] rfl (by simp))) rfl rfl rfl rfl rfl rfl ?_
    rintro v6 m1 ⟨t6, ht6, rfl, rfl⟩
    have ht6 : t6 = (some [v]).isSome := ht6.trans (congrArg Option.isSome (ord6 a v))
    cbv
    refine br_t ht6 ?_
    cbv
    refine .go [] [] [] (wakes23 hp) rfl rfl rfl rfl rfl rfl ?_
    rintro v m1 ⟨rfl, rfl⟩
    cbv
    exact hP _ _ [] [] _ _ .nil rfl rfl rfl rfl rfl ⟨_, rfl, rfl⟩
end
end Go.Proofs.Ytfoookmblfcmhaa.E
