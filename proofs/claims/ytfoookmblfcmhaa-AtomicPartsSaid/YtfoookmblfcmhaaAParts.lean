/- AtomicParts. -/
import Derived.Test.YtfoookmblfcmhaaAP
namespace Go.Proofs.Ytfoookmblfcmhaa.E
open Go
set_option linter.unusedVariables false
set_option maxRecDepth 100000

def in64 (x : Int) : Prop := -9223372036854775808 ≤ x ∧ x ≤ 9223372036854775807
theorem in64_wrap (x : Int) : in64 (IntKind.i64.wrap x) := by
  unfold in64
  rw [IntKind.wrap_i64]
  omega
theorem in64_back (x : Int) (h : in64 x) : IntKind.i64.wrap (IntKind.i64.wrap (x + 1) - 1) = x := by
  unfold in64 at h
  simp only [IntKind.wrap_i64]
  omega
theorem in64_words (ini : List Int) (w n : Nat) (h : ∀ x ∈ ini, in64 x) : ∀ x ∈ firstW ini w n, in64 x := fun x hx => by
  unfold firstW at hx
  obtain ⟨i, -, hi⟩ := List.mem_flatMap.1 hx
  unfold wordsL at hi
  rcases List.mem_append.1 hi with h1 | h1
  · exact h x (List.mem_of_mem_drop (List.mem_of_mem_take h1))
  · rw [List.eq_of_mem_replicate h1]
    exact ⟨by decide, by decide⟩
theorem in64_step (ws : List Int) (o : OP) (h : ∀ x ∈ ws, in64 x) (ho : in64 o.v) : ∀ x ∈ (stepA ws o).2, in64 x := fun x hx => by
  unfold stepA at hx
  simp only at hx
  split at hx
  · exact h x hx
  · split at hx
    · rcases List.mem_or_eq_of_mem_set hx with h1 | h1
      · exact h x h1
      · rw [h1]; exact ho
    · split at hx
      · rcases List.mem_or_eq_of_mem_set hx with h1 | h1
        · exact h x h1
        · rw [h1]; exact in64_wrap _
      · exact h x hx
theorem ext_all (l : List (List G)) (h : 1 ≤ l.length) : ints.ext l 1 (ints.add 1 (ints.sub (ints.len l) 1)) = l.drop 1 := by
  show (l.take (1 + (l.length - 1))).drop 1 = _
  rw [show 1 + (l.length - 1) = l.length from by omega, List.take_length]
/-- All operations, one behind the other. -/
def foldO (ws : List Int) : List OP → List Int
  | [] => ws
  | o :: r => foldO (stepA ws o).2 r
theorem foldO_app (o : OP) : ∀ (l : List OP) (ws : List Int), foldO ws (l ++ [o]) = (stepA (foldO ws l) o).2
  | [], _ => rfl
  | x :: r, ws => foldO_app o r (stepA ws x).2
/-- Those of one address alone. -/
def foldX (y : Int) (ws : List Int) : List OP → List Int
  | [] => ws
  | o :: r => foldX y (if o.a = y then (stepA ws o).2 else ws) r
theorem stepA_off (ws : List Int) (o : OP) (x : Nat) (h : o.a.toNat ≠ x) : (stepA ws o).2[x]? = ws[x]? := by
  unfold stepA
  simp only
  split
  · rfl
  · split
    · rw [List.getElem?_set, if_neg h]
    · split
      · rw [List.getElem?_set, if_neg h]
      · rfl
theorem stepA_on (ws vs : List Int) (o : OP) (x : Nat) (h : o.a.toNat = x) (hl : ws.length = vs.length) (he : ws[x]? = vs[x]?) : (stepA ws o).2[x]? = (stepA vs o).2[x]? := by
  unfold stepA
  simp only [h, he]
  split
  · exact he
  · split
    · rw [List.getElem?_set, List.getElem?_set, hl, if_pos rfl, if_pos rfl]
    · split
      · rw [List.getElem?_set, List.getElem?_set, hl, if_pos rfl, if_pos rfl]
      · exact he
theorem fold_at (x : Nat) : ∀ (l : List OP) (ws vs : List Int), (∀ o ∈ l, 0 ≤ o.a) → ws.length = vs.length → ws[x]? = vs[x]? → (foldO ws l)[x]? = (foldX x vs l)[x]?
  | [], _, _, _, _, he => he
  | o :: r, ws, vs, h, hl, he => by
    have h1 := h o (List.mem_cons_self ..)
    have h2 : ∀ o ∈ r, 0 ≤ o.a := fun p hp => h p (List.mem_cons_of_mem _ hp)
    show (foldO (stepA ws o).2 r)[x]? = (foldX x (if o.a = x then (stepA vs o).2 else vs) r)[x]?
    by_cases ha : o.a = x
    · rw [if_pos ha]
      exact fold_at x r _ _ h2 (by rw [stepA_len, stepA_len]; exact hl) (stepA_on ws vs o x (by omega) hl he)
    · rw [if_neg ha]
      exact fold_at x r _ _ h2 (by rw [stepA_len]; exact hl) (by rw [stepA_off ws o x (by omega)]; exact he)
theorem foldX_step (y : Int) (vs : List Int) (l : List OP) (j : Nat) (o : OP) (h : l[j]? = some o) : foldX y vs (l.drop j) = foldX y (if o.a = y then (stepA vs o).2 else vs) (l.drop (j + 1)) := by
  have hlt := (List.getElem?_eq_some_iff.1 h).1
  rw [List.drop_eq_getElem_cons hlt, (List.getElem?_eq_some_iff.1 h).2]
  rfl
section
variable {P : Program} (hp : P = Try.prog)
include hp
set_option maxHeartbeats 4000000 in
/-- The configuration of a setup, and whence its first words. -/
theorem configR (a b c d e f g : Int) (l l1 l2 l3 l4 : List (List G)) (xs : List Int) (hx : isL .i64 l xs) : LValid P 7 [.agg [.g (.int .i64 (.sym a)), .g (.int .i64 (.sym b)), .g (.int .i64 (.sym c)), .g (.int .i64 (.sym d)), .g (.int .i64 (.sym e)), .g (.int .i64 (.sym f)), .g (.int .i64 (.sym g)), .bor 1 l, .bor 1 l1, .bor 1 l2, .bor 1 l3, .bor 1 l4]] []
    (fun v m1 => ∃ (q : CF) (L : List (List G)), q.ok ∧ isL .i64 L q.ini ∧ (∀ x ∈ q.ini, x ∈ xs) ∧ v = .one (q.told L) ∧ m1 = []) := by
  obtain ⟨I, hI⟩ := ref
  refine fn_sim hI (mo hp) (cc hp c7) fun Post hP => ?_
  cbv
  refine .drawn [] ?_
  repeat' first
    | (refine .both ?_ ?_)
    | (refine .go [] [] [] (within hp _ _) rfl rfl rfl rfl rfl rfl ?_; rintro r m1 ⟨y, hy, rfl, rfl⟩; cbv)
  all_goals
    rename_i y1 h1 y2 h2 y3 h3 y4 h4 y5 h5 y6 h6
    as_aux_lemma =>
      have q1 := inc_in a 4 (by omega) (by omega)
      have q2 := inc_in b 4 (by omega) (by omega)
      have q3 := inc_in c 2 (by omega) (by omega)
      have q4 := inc_in d 2 (by omega) (by omega)
      rw [← show y1 = win a 4 from h1, ← hI] at q1
      rw [← show y2 = win b 4 from h2, ← hI] at q2
      rw [← show y3 = win c 2 from h3, ← hI] at q3
      rw [← show y4 = win d 2 from h4, ← hI] at q4
      have h9 : ∃ n : Nat, isN (I.bin .mul .i64 (I.bin .add .i64 1 y2) (I.bin .add .i64 1 y3)) n ∧ n ≤ 8 := by
        have := mul_in _ _ q2 q3
        rw [← hI] at this
        exact this
      obtain ⟨n, hn, hn8⟩ := h9
      have hpr : ((n : Int)) = (I.bin .add .i64 1 y2) * (I.bin .add .i64 1 y3) := by
        have h : IntKind.i64.wrap ((I.bin .add .i64 1 y2) * (I.bin .add .i64 1 y3)) = (I.bin .add .i64 1 y2) * (I.bin .add .i64 1 y3) := by first | exact inB_prod hp 0 _ _ q2 q3 | exact inB_prod 0 _ _ q2 q3
        have hn : I.bin .mul .i64 (I.bin .add .i64 1 y2) (I.bin .add .i64 1 y3) = (n : Int) := hn
        rw [← hn, ← h, hI]
        rfl
      have hlen : (xs.take n).length ≤ 8 ∧ (((xs.take n).length : Nat) : Int) ≤ (I.bin .add .i64 1 y2) * (I.bin .add .i64 1 y3) := by
        rw [← hpr, List.length_take]
        omega
      have hok : CF.ok ⟨I.bin .add .i64 1 y1, I.bin .add .i64 1 y2, I.bin .add .i64 1 y3, I.bin .add .i64 1 y4, I.bin .add .i64 1 y5, I.bin .add .i64 1 y6, I.bin .add .i64 1 y, xs.take n⟩ := ⟨q1, q2, q3, q4, hlen⟩
      have hrow : ∀ l' : List (List G), l' = l.take n → l' = nrow .i64 (xs.take n) := fun l' h => by rw [h, hx]; simp [nrow, List.map_take]
      clear hpr hlen q1 q2 q3 q4
      refine .go [] [] [.bor 1, .keep] (cut8 hp l (.sym _) n hn hn8) rfl rfl rfl rfl rfl rfl ?_
      rintro r m1 ⟨l', hl', rfl, rfl⟩
      have hr2 := hrow l' hl'
      have hv : ∃ (q : CF) (L : List (List G)), q.ok ∧ isL .i64 L q.ini ∧ (∀ x ∈ q.ini, x ∈ xs) ∧ A.one (.agg (cfg (.sym (I.bin .add .i64 1 y1)) (.sym (I.bin .add .i64 1 y2)) (.sym (I.bin .add .i64 1 y3)) (.sym (I.bin .add .i64 1 y4)) (.sym (I.bin .add .i64 1 y5)) (.sym (I.bin .add .i64 1 y6)) (.sym (I.bin .add .i64 1 y)) (.g (.rows 1 l')))) = .one (q.told L) ∧ ([] : Mem) = [] := ⟨_, l', hok, hr2, fun x h => List.mem_of_mem_take h, rfl, rfl⟩
      clear hr2 hl' hok hrow
      cbv
      exact hP _ _ [] [3] _ _ (by decide) rfl rfl rfl rfl rfl hv
set_option maxHeartbeats 20000000 in
theorem parts (s1 s2 s3 s4 s5 s6 s7 : Int) (l0 l1 l2 l3 l4 : List (List G)) (xs : List Int) (h0 : isL .i64 l0 xs) (hxs : ∀ x ∈ xs, in64 x) (A0 B0 V0 : List (List G)) (as0 bs0 vs0 : List Int) (hA0 : isL .i64 A0 as0) (hB0 : isL .i64 B0 bs0) (hV0 : isL .i64 V0 vs0) (hvs : ∀ x ∈ vs0, in64 x) : LValid P 3 [.agg [.g (.int .i64 (.sym s1)), .g (.int .i64 (.sym s2)), .g (.int .i64 (.sym s3)), .g (.int .i64 (.sym s4)), .g (.int .i64 (.sym s5)), .g (.int .i64 (.sym s6)), .g (.int .i64 (.sym s7)), .g (.rows 1 l0), .g (.rows 1 l1), .g (.rows 1 l2), .g (.rows 1 l3), .g (.rows 1 l4)], .c (.g (.rows 1 A0)), .c (.g (.rows 1 B0)), .c (.g (.rows 1 V0))] [] (fun v _ => ∃ b : BB, b.val = true ∧ v = .one (.c (.g (.bool b)))) := by
  obtain ⟨I, hI⟩ := ref
  refine fn_sim hI (mo hp) (cc hp c3) fun Post hP => ?_
  cbv
  refine .go [] [] [.bor 1] (configR hp s1 s2 s3 s4 s5 s6 s7 l0 l1 l2 l3 l4 xs h0) rfl rfl rfl rfl rfl rfl ?_
  rintro v m1 ⟨q, L, hq, hL, hqx, rfl, rfl⟩
  have hq0 := hq
  have hbc := bc_nat q hq
  have hbcp : 1 ≤ q.b.toNat * q.c.toNat := Nat.mul_pos (by have := hq.hb; omega) (by have := hq.hc; omega)
  have hfl : q.first.length = q.b.toNat * q.c.toNat := firstW_len q.ini q.c.toNat q.b.toNat
  have hf64 : ∀ x ∈ q.first, in64 x := in64_words q.ini q.c.toNat q.b.toNat (fun x h => hxs x (hqx x h))
  have hwr : IntKind.i64.wrap (q.b * q.c) = q.b * q.c := by rw [hbc.1]; rw [wrap_in] <;> omega
  obtain ⟨bc, hbce⟩ : ∃ bc, bc = q.b.toNat * q.c.toNat := ⟨_, rfl⟩
  have hmulN : isN (I.bin .mul .i64 q.b q.c) bc := by unfold isN; rw [hbce, ← hbc.1, hI]; exact hwr
  rw [← hbce] at hfl hbcp
  have hbc8 : bc ≤ 8 := by rw [hbce]; exact hbc.2
  have hnew := anew hp q hq L hL
  have hfst : ∃ f0, f0 = q.first := ⟨_, rfl⟩
  obtain ⟨f0, hf0⟩ := hfst
  rw [← hf0] at hnew hfl hf64
  have hdo := fun WL ws h1 (h2 : ws.length = bc) (k a x : Int) => ado hp q hq L WL ws h1 (h2.trans hbce) (.sym k) (.sym a) (.sym x)
  have hin : ∀ o, okOp q o = true → 0 ≤ o.a := fun o h => (okOp_in h).2.1
  have hok9 : ∃ okf : OP → Bool, okf = okOp q := ⟨_, rfl⟩
  obtain ⟨okf, hokf⟩ := hok9
  rw [← hokf] at hdo hin
  have hwo := fun WL h => awords hp q L WL h
  clear hf0 hokf hwr hbc hqx
  obtain ⟨qa, qb, qc, qd, qe, qf, qg, ini⟩ := q
  have hmulN : isN (I.bin .mul .i64 qb qc) bc := hmulN
  cbv
  refine .go [] [] [] hnew rfl rfl rfl rfl rfl rfl ?_
  rintro v m1 ⟨WL0, hW0, rfl, rfl⟩
  cbv
  refine .go [] [] [.bor 1, .bor 1, .bor 1] (playOps hp A0 B0 V0 as0 bs0 vs0 hA0 hB0 hV0 in64 ⟨by decide, by decide⟩ hvs) rfl rfl rfl rfl rfl rfl ?_
  rintro v m1 ⟨OL, ops, hO, hol, hov, rfl, rfl⟩
  have hOl : I.len OL = ops.length := by rw [hI]; exact hO.len
  have hOn : isN (I.ofNat (I.len OL)) ops.length := by rw [hOl, hI]; rfl
  cbv
  refine .own 12 3 rfl ?_
  refine .loop_next (fun n ts m => ∃ (i : Nat) (z c : Int) (WL AL : List (List G)) (ws : List Int) (al : List OP), n = ops.length - i ∧ isN z i ∧ isN c ops.length ∧ i ≤ ops.length ∧ isL .i64 WL ws ∧ isO AL al ∧ ws.length = bc ∧ al.length ≤ i ∧ (∀ o ∈ al, okf o = true) ∧ ws = foldO f0 al ∧ (∀ x ∈ ws, in64 x) ∧
      ts = fr 134 [(9, .one (.c (.ptr 0 (.lit 0) 8 0))), (10, .one (.c (.ptr 1 (.lit 0) 9 0))), (11, i64 (I.bin .mul .i64 qb qc)), (12, .one (.c (.row 3 3 none))), (38, .one (.c (.row 4 3 none))), (39, i64 c), (40, i64 z)] ∧
      m = [.lit 8 [cfg (.sym qa) (.sym qb) (.sym qc) (.sym qd) (.sym qe) (.sym qf) (.sym qg) (.g (.rows 1 L))], .lit 9 [cfg (.sym qa) (.sym qb) (.sym qc) (.sym qd) (.sym qe) (.sym qf) (.sym qg) (.g (.rows 1 L)) ++ [.row 2 1 none]], .sym 1 WL, .sym 3 AL, .sym 3 OL])
    ops.length _ _ [1, 2, 3, 5, 4] [] [9, 10, 11, 12, 38, 39, 40] (by decide) rfl rfl rfl ⟨0, 0, _, WL0, [], f0, [], rfl, rfl, hOn, Nat.zero_le _, hW0, rfl, hfl, Nat.zero_le _, (fun o h => by cases h), rfl, hf64, rfl, rfl⟩ ?_
  rintro next n hnext ts m ⟨i, z, c, WL, AL, ws, al, hn, hz, hc, hi, hW, hA, hwl, hal, hok, hfo, h64, rfl, rfl⟩
  cbv
  refine .br (fun g1 => ?_) (fun g1 => ?_)
  · have hi1 : i < ops.length := by
      have : z < c := by simpa [hI, ints, rCmp] using g1
      unfold isN at hz hc
      omega
    have hz1 : isN (I.bin .add .i64 z 1) (i + 1) := by unfold isN at hz ⊢; rw [hI]; simp only [ints, rBin]; rw [wrap_in] <;> omega
    have h9 : ∃ o, ops[i]? = some o := ⟨_, List.getElem?_eq_getElem hi1⟩
    obtain ⟨o, ho⟩ := h9
    have hr := hO.get ho
    have hil : i < I.len OL := by rw [hOl]; exact hi1
    have ho64 := hov o (List.mem_of_getElem? ho)
    have hs64 := in64_step ws o h64 ho64
    have hsl := (stepA_len ws o).trans hwl
    have hfs : foldO f0 (al ++ [o]) = (stepA ws o).2 := by rw [foldO_app, ← hfo]
    have hA2 : isO (I.app AL [o.row]) (al ++ [o]) := by rw [hI]; exact hA.app rfl
    have hal2 : (al ++ [o]).length ≤ i + 1 := by rw [List.length_append]; simp; omega
    have hAn : I.len (I.app AL [o.row]) ≤ 31 := by
      have h1 := hA2.len
      rw [hI] at h1 ⊢
      exact Nat.le_trans (Nat.le_of_eq h1) (by omega)
    have hok2 : okf o = true → ∀ p ∈ al ++ [o], okf p = true := fun h p hp => by
      rcases List.mem_append.1 hp with h1 | h1
      · exact hok p h1
      · rw [List.mem_singleton.1 h1]; exact h
    obtain ⟨k, a, x⟩ := o
    have hd := hdo WL ws hW hwl k a x
    have hd : LValid P 10 [.c (.ptr 0 (.lit 0) 9 0), .agg [.g (.int .i64 (.sym k)), .g (.int .i64 (.sym a)), .g (.int .i64 (.sym x))]] [atB ⟨qa, qb, qc, qd, qe, qf, qg, ini⟩ L, .sym 1 WL]
      (fun v m1 => ∃ (e r : Int) (WL' : List (List G)), v = .tup [.c (.g (.int .i64 (.sym r))), .c (.g (.int .i64 (.sym e)))] ∧ m1 = [atB ⟨qa, qb, qc, qd, qe, qf, qg, ini⟩ L, .sym 1 WL'] ∧
        ((okf ⟨k, a, x⟩ = true ∧ e = 0 ∧ r = (stepA ws ⟨k, a, x⟩).1 ∧ isL .i64 WL' (stepA ws ⟨k, a, x⟩).2) ∨ (okf ⟨k, a, x⟩ = false ∧ e = 1 ∧ r = 0 ∧ WL' = WL))) := hd
    have hAn : I.len (I.app AL [[.int .i64 (.sym k), .int .i64 (.sym a), .int .i64 (.sym x)]]) ≤ 31 := hAn
    have hA2 : isO (I.app AL [[.int .i64 (.sym k), .int .i64 (.sym a), .int .i64 (.sym x)]]) (al ++ [⟨k, a, x⟩]) := hA2
    generalize okf ⟨k, a, x⟩ = ok at hd hok2
    generalize stepA ws ⟨k, a, x⟩ = sA at hd hs64 hsl hfs
    generalize al ++ [(⟨k, a, x⟩ : OP)] = al2 at hfs hA2 hal2 hok2
    obtain ⟨rr, ws2⟩ := sA
    have hsl : ws2.length = bc := hsl
    have hfs : ws2 = foldO f0 al2 := hfs.symm
    have hs64 : ∀ x ∈ ws2, in64 x := hs64
    clear g1 ho ho64 hdo hnew hwo
    cbv
    refine .idx i hz hil (.nth _ hr ?_)
    cbv
    refine .go [1, 2] [] [] hd rfl rfl rfl rfl rfl rfl ?_
    rintro v m1 ⟨e, r, WL2, rfl, rfl, hres⟩
    clear hd
    rcases hres with ⟨hk, he, hrr, hW2⟩ | ⟨hk, he, hrr, hW2⟩
    · have hok2 := hok2 hk
      have hW2 : isL .i64 WL2 ws2 := hW2
      cbv
      refine br_t (show I.cmp .eql e 0 = true from by rw [he, hI]; rfl) ?_
      cbv
      refine .most (show I.len (I.app AL [[.int .i64 (.sym k), .int .i64 (.sym a), .int .i64 (.sym x)]]) * 24 ≤ 140737488355328 from by omega) (show I.len (I.app AL [[.int .i64 (.sym k), .int .i64 (.sym a), .int .i64 (.sym x)]]) ≤ 140737488355328 from by omega) ?_
      cbv
      exact hnext _ _ (ops.length - (i + 1)) [0, 1, 2, 7, 4] [] [9, 10, 11, 12, 38, 39, 40] _ _ (by omega) (by decide) rfl rfl rfl ⟨i + 1, _, c, WL2, _, ws2, al2, rfl, hz1, hc, hi1, hW2, hA2, hsl, hal2, hok2, hfs, hs64, rfl, rfl⟩
    · subst hW2
      cbv
      refine br_f (show I.cmp .eql e 0 = false from by rw [he, hI]; rfl) ?_
      cbv
      refine br_f (show I.cmp .neq r 0 = false from by rw [hrr, hI]; rfl) ?_
      cbv
      exact hnext _ _ (ops.length - (i + 1)) [0, 1, 2, 3, 4] [] [9, 10, 11, 12, 38, 39, 40] _ _ (by omega) (by decide) rfl rfl rfl ⟨i + 1, _, c, WL2, AL, ws, al, rfl, hz1, hc, hi1, hW, hA, hwl, by omega, hok, hfo, h64, rfl, rfl⟩
  -- address by address
  have hfold : ∀ x : Nat, (foldX x f0 al)[x]? = ws[x]? := fun x => by
    rw [hfo]
    exact (fold_at x al f0 f0 (fun o h => hin o (hok o h)) rfl rfl).symm
  have hAl : I.len AL = al.length := by rw [hI]; exact hA.len
  have hAn : isN (I.ofNat (I.len AL)) al.length := by rw [hAl, hI]; rfl
  have hd2 : ∀ WL vs, isL .i64 WL vs → vs.length = bc → ∀ o ∈ al, LValid P 10 [.c (.ptr 0 (.lit 0) 9 0), .agg [.g (.int .i64 (.sym o.k)), .g (.int .i64 (.sym o.a)), .g (.int .i64 (.sym o.v))]] [atB ⟨qa, qb, qc, qd, qe, qf, qg, ini⟩ L, .sym 1 WL]
      (fun v m1 => ∃ (e r : Int) (WL' : List (List G)), v = .tup [.c (.g (.int .i64 (.sym r))), .c (.g (.int .i64 (.sym e)))] ∧ m1 = [atB ⟨qa, qb, qc, qd, qe, qf, qg, ini⟩ L, .sym 1 WL'] ∧ isL .i64 WL' (stepA vs o).2) := fun WL vs h1 h2 o ho =>
    (hdo WL vs h1 h2 o.k o.a o.v).mono fun v m1 ⟨e, r, WL', h1, h2, h3⟩ => ⟨e, r, WL', h1, h2, by
      rcases h3 with ⟨_, _, _, h4⟩ | ⟨h4, _⟩
      · exact h4
      · have h5 : okf o = false := h4
        rw [hok o ho] at h5
        cases h5⟩
  have hal30 : al.length ≤ 30 := by omega
  clear hnext g1 hz hc hi hn hdo hO hOl hOn hov hfo hok hal hin
  cbv
  refine .loop_next (fun n ts m => ∃ (i : Nat) (z : Int), n = bc - i ∧ isN z i ∧ i ≤ bc ∧
      ts = fr 134 [(9, .one (.c (.ptr 0 (.lit 0) 8 0))), (10, .one (.c (.ptr 1 (.lit 0) 9 0))), (11, i64 (I.bin .mul .i64 qb qc)), (12, .one (.c (.row 3 3 none))), (17, i64 z)] ∧
      m = [.lit 8 [cfg (.sym qa) (.sym qb) (.sym qc) (.sym qd) (.sym qe) (.sym qf) (.sym qg) (.g (.rows 1 L))], .lit 9 [cfg (.sym qa) (.sym qb) (.sym qc) (.sym qd) (.sym qe) (.sym qf) (.sym qg) (.g (.rows 1 L)) ++ [.row 2 1 none]], .sym 1 WL, .sym 3 AL])
    bc _ _ [0, 1, 2, 3] [] [9, 10, 11, 12, 17] (by decide) rfl rfl rfl ⟨0, 0, rfl, rfl, Nat.zero_le _, rfl, rfl⟩ ?_
  rintro next n hnext ts m ⟨i, z, hn, hz, hi, rfl, rfl⟩
  have hwA := hwo WL (by rw [hW.len, hwl]; omega)
  have hWl : I.len WL = bc := by rw [hI]; exact hW.len.trans hwl
  cbv
  refine .br (fun g1 => ?_) (fun g1 => ?_)
  · have hi1 : i < bc := by
      have : z < I.bin .mul .i64 qb qc := by simpa [hI, ints, rCmp] using g1
      unfold isN at hz hmulN
      omega
    have hz1 : isN (I.bin .add .i64 z 1) (i + 1) := by unfold isN at hz ⊢; rw [hI]; simp only [ints, rBin]; rw [wrap_in] <;> omega
    have hfold := hfold i
    clear g1
    cbv
    refine .go [] [] [] hnew rfl rfl rfl rfl rfl rfl ?_
    rintro v m1 ⟨WB0, hB, rfl, rfl⟩
    clear hnew
    cbv
    refine .loop_next (fun n ts m => ∃ (j : Nat) (z3 c3 : Int) (WB : List (List G)) (vs : List Int), n = al.length - j ∧ isN z3 j ∧ isN c3 al.length ∧ j ≤ al.length ∧ isL .i64 WB vs ∧ vs.length = bc ∧ (foldX i vs (al.drop j))[i]? = ws[i]? ∧
        ts = fr 134 [(9, .one (.c (.ptr 0 (.lit 0) 8 0))), (10, .one (.c (.ptr 1 (.lit 0) 9 0))), (11, i64 (I.bin .mul .i64 qb qc)), (12, .one (.c (.row 3 3 none))), (17, i64 z), (18, .one (.c (.ptr 4 (.lit 0) 9 0))), (68, .one (.c (.row 3 3 none))), (69, i64 c3), (70, i64 z3)] ∧
        m = [.lit 8 [cfg (.sym qa) (.sym qb) (.sym qc) (.sym qd) (.sym qe) (.sym qf) (.sym qg) (.g (.rows 1 L))], .lit 9 [cfg (.sym qa) (.sym qb) (.sym qc) (.sym qd) (.sym qe) (.sym qf) (.sym qg) (.g (.rows 1 L)) ++ [.row 2 1 none]], .sym 1 WL, .sym 3 AL, .lit 9 [cfg (.sym qa) (.sym qb) (.sym qc) (.sym qd) (.sym qe) (.sym qf) (.sym qg) (.g (.rows 1 L)) ++ [.row 5 1 none]], .sym 1 WB])
      al.length _ _ [0, 1, 2, 3, 4, 5] [] [9, 10, 11, 12, 17, 18, 68, 69, 70] (by decide) rfl rfl rfl ⟨0, 0, _, WB0, f0, rfl, rfl, hAn, Nat.zero_le _, hB, hfl, hfold, rfl, rfl⟩ ?_
    rintro next3 n3 hnext3 ts m ⟨j, z3, c3, WB, vs, hn3, hz3, hc3, hj, hB, hvl, hrel, rfl, rfl⟩
    cbv
    refine .br (fun g1 => ?_) (fun g1 => ?_)
    · have hj1 : j < al.length := by
        have : z3 < c3 := by simpa [hI, ints, rCmp] using g1
        unfold isN at hz3 hc3
        omega
      have hz31 : isN (I.bin .add .i64 z3 1) (j + 1) := by unfold isN at hz3 ⊢; rw [hI]; simp only [ints, rBin]; rw [wrap_in] <;> omega
      have h9 : ∃ o, al[j]? = some o := ⟨_, List.getElem?_eq_getElem hj1⟩
      obtain ⟨o, ho⟩ := h9
      have hr := hA.get ho
      have hjl : j < I.len AL := by rw [hAl]; exact hj1
      have hd := hd2 WB vs hB hvl o (List.mem_of_getElem? ho)
      have hsl := (stepA_len vs o).trans hvl
      rw [foldX_step _ _ _ _ _ ho] at hrel
      obtain ⟨k, a, x⟩ := o
      have hrel : (foldX i (if a = (i : Int) then (stepA vs ⟨k, a, x⟩).2 else vs) (al.drop (j + 1)))[i]? = ws[i]? := hrel
      have hrelT : I.cmp .eql a z = true → (foldX i (stepA vs ⟨k, a, x⟩).2 (al.drop (j + 1)))[i]? = ws[i]? := fun g => by
        have : a = z := by simpa [hI, ints, rCmp] using g
        unfold isN at hz
        rwa [if_pos (this.trans hz)] at hrel
      have hrelF : I.cmp .eql a z = false → (foldX i vs (al.drop (j + 1)))[i]? = ws[i]? := fun g => by
        have : ¬ a = z := by simpa [hI, ints, rCmp] using g
        unfold isN at hz
        rwa [if_neg (fun h => this (h.trans hz.symm))] at hrel
      generalize stepA vs ⟨k, a, x⟩ = sA at hd hsl hrelT
      clear g1 ho hrel hd2 hwo hwA hfold
      cbv
      refine .idx j hz3 hjl (.nth _ hr ?_)
      cbv
      refine .br (fun g2 => ?_) (fun g2 => ?_)
      · have hrel := hrelT g2
        clear hrelT hrelF
        cbv
        refine .go [4, 5] [] [] hd rfl rfl rfl rfl rfl rfl ?_
        rintro v m1 ⟨e, r, WB2, rfl, rfl, hB2⟩
        clear hd
        cbv
        exact hnext3 _ _ (al.length - (j + 1)) [0, 1, 2, 3, 4, 5] [] [9, 10, 11, 12, 17, 18, 68, 69, 70] _ _ (by omega) (by decide) rfl rfl rfl ⟨j + 1, _, c3, WB2, _, rfl, hz31, hc3, hj1, hB2, hsl, hrel, rfl, rfl⟩
      · have hrel := hrelF g2
        clear hrelT hrelF hd
        cbv
        exact hnext3 _ _ (al.length - (j + 1)) [0, 1, 2, 3, 4, 5] [] [9, 10, 11, 12, 17, 18, 68, 69, 70] _ _ (by omega) (by decide) rfl rfl rfl ⟨j + 1, _, c3, WB, vs, rfl, hz31, hc3, hj1, hB, hvl, hrel, rfl, rfl⟩
    · have hj1 : j = al.length := by
        have : ¬ z3 < c3 := by simpa [hI, ints, rCmp] using g1
        unfold isN at hz3 hc3
        omega
      rw [hj1, List.drop_length] at hrel
      have hrel : vs[i]? = ws[i]? := hrel
      have hwB := hwo WB (by rw [hB.len, hvl]; omega)
      have hBl : I.len WB = bc := by rw [hI]; exact hB.len.trans hvl
      have h9 : ∃ x, ws[i]? = some x := ⟨_, List.getElem?_eq_getElem (by rw [hwl]; exact hi1)⟩
      obtain ⟨x, hx⟩ := h9
      have hr1 : WB[i]? = some [.int .i64 (.sym x)] := by rw [hB.get, hrel, hx]; rfl
      have hr2 : WL[i]? = some [.int .i64 (.sym x)] := by rw [hW.get, hx]; rfl
      have hi1l : i < I.len WB := by rw [hBl]; exact hi1
      have hi2l : i < I.len WL := by rw [hWl]; exact hi1
      have hnB : I.cmp .neq (I.ofNat (I.len WB)) (I.bin .mul .i64 qb qc) = false := by unfold isN at hmulN; rw [hmulN, hBl, hI]; show (((bc : Nat) : Int) != (bc : Int)) = false; simp
      have hnA : I.cmp .neq (I.ofNat (I.len WL)) (I.bin .mul .i64 qb qc) = false := by unfold isN at hmulN; rw [hmulN, hWl, hI]; show (((bc : Nat) : Int) != (bc : Int)) = false; simp
      have hxx : I.cmp .neq x x = false := by rw [hI]; show (x != x) = false; simp
      clear hnext3 hrel hx g1 hd2 hwo hfold hmulN
      cbv
      refine .go [4, 5] [] [] hwB rfl rfl rfl rfl rfl rfl ?_
      rintro v m1 ⟨rfl, rfl⟩
      cbv
      refine .go [1, 2] [] [] hwA rfl rfl rfl rfl rfl rfl ?_
      rintro v m1 ⟨rfl, rfl⟩
      clear hwA hwB
      cbv
      refine .drawn [] ?_
      cbv
      refine br_f hnB ?_
      cbv
      refine br_f hnA ?_
      cbv
      refine .idx i hz hi1l (.nth _ hr1 ?_)
      cbv
      refine .idx i hz hi2l (.nth _ hr2 ?_)
      cbv
      refine br_f hxx ?_
      cbv
      exact hnext _ _ (bc - (i + 1)) [0, 1, 2, 3] [] [9, 10, 11, 12, 17] _ _ (by omega) (by decide) rfl rfl rfl ⟨i + 1, _, rfl, hz1, hi1, rfl, rfl⟩
  · have h9 : ∃ x, ws[0]? = some x := ⟨_, List.getElem?_eq_getElem (by rw [hwl]; exact hbcp)⟩
    obtain ⟨x, hx⟩ := h9
    have hx64 := in64_back x (h64 x (List.mem_of_getElem? hx))
    have hr0 : WL[0]? = some [.int .i64 (.sym x)] := by rw [hW.get, hx]; rfl
    have h0l : 0 < I.len WL := by rw [hWl]; exact hbcp
    have hset : isL .i64 (I.set WL 0 [.int .i64 (.sym (I.bin .add .i64 x 1))]) (ws.set 0 (I.bin .add .i64 x 1)) := by
      generalize I.bin .add .i64 x 1 = y
      rw [hI]
      unfold isL at hW ⊢
      rw [hW]
      simp [nrow, ints, List.map_set]
    have hsub : I.cmp .eql x (I.bin .sub .i64 (I.bin .add .i64 x 1) 1) = true := by
      rw [hI]
      show (x == IntKind.i64.wrap (IntKind.i64.wrap (x + 1) - 1)) = true
      rw [hx64]
      simp
    have h9 : ∃ y, y = I.bin .add .i64 x 1 := ⟨_, rfl⟩
    obtain ⟨y, hy⟩ := h9
    rw [← hy] at hset hsub
    have hWs : ∃ W2, W2 = I.set WL 0 [.int .i64 (.sym y)] := ⟨_, rfl⟩
    obtain ⟨W2, hWs⟩ := hWs
    rw [← hWs] at hset
    have hrow : W2[0]? = some [.int .i64 (.sym y)] := by
      rw [hset.get, List.getElem?_set]
      simp [hwl]
      omega
    have hW2l : I.len W2 = bc := by rw [hI]; exact hset.len.trans (by simpa using hwl)
    have hs1 : isL .i64 (I.ext WL 1 (I.add 1 (I.sub (I.len WL) 1))) (ws.drop 1) := by
      rw [hI, ext_all WL (by rw [hW.len, hwl]; exact hbcp)]
      unfold isL at hW ⊢
      rw [hW]
      simp [nrow]
    have hs2 : isL .i64 (I.ext W2 1 (I.add 1 (I.sub (I.len W2) 1))) (ws.drop 1) := by
      have h1 : ws.drop 1 = (ws.set 0 y).drop 1 := by cases ws <;> simp
      rw [hI, ext_all W2 (by rw [hset.len]; simp [hwl]; exact hbcp), h1]
      unfold isL at hset ⊢
      rw [hset]
      simp [nrow]
    have hsm := same hp _ _ _ _ hs1 hs2 (by rw [hs1.len, List.length_drop]; omega)
    have h02 : 0 < I.len W2 := by rw [hW2l]; exact hbcp
    clear hx hx64 hset hs1 hs2 h64 hmulN
    subst hWs
    subst hy
    clear hnext g1 hd2 hfold hn hz hi hnew hA hAl hAn
    cbv
    refine .go [1, 2] [] [] hwA rfl rfl rfl rfl rfl rfl ?_
    rintro v m1 ⟨rfl, rfl⟩
    cbv
    refine .idx 0 rfl h0l (.nth _ hr0 ?_)
    cbv
    refine .idx 0 rfl h0l (.nth _ hr0 ?_)
    cbv
    refine .drawn [1, 2] ?_
    cbv
    refine .rng 1 _ rfl rfl (Nat.succ_le_of_lt h02) (Nat.le_refl _) ?_
    cbv
    refine .go [1, 2] [] [] hwA rfl rfl rfl rfl rfl rfl ?_
    rintro v m1 ⟨rfl, rfl⟩
    cbv
    refine .rng 1 _ rfl rfl (Nat.succ_le_of_lt h0l) (Nat.le_refl _) ?_
    cbv
    refine .go [] [] [.bor 1, .bor 1] hsm rfl rfl rfl rfl rfl rfl ?_
    rintro v m1 ⟨t, ht, rfl, rfl⟩
    have ht : t = true := by rw [ht]; simp
    clear hsm
    cbv
    refine br_t ht ?_
    cbv
    refine .idx 0 rfl h02 (.nth _ hrow ?_)
    cbv
    refine .go [1, 2] [] [] hwA rfl rfl rfl rfl rfl rfl ?_
    rintro v m1 ⟨rfl, rfl⟩
    cbv
    refine .idx 0 rfl h0l ?_
    cbv
    refine .nth _ hr0 ?_
    cbv
    refine br_t hsub ?_
    cbv
    refine .go [] [] [] (wakes23 hp) rfl rfl rfl rfl rfl rfl ?_
    rintro v m1 ⟨rfl, rfl⟩
    cbv
    exact hP _ _ [] [] _ _ .nil rfl rfl rfl rfl rfl ⟨_, rfl, rfl⟩
end
end Go.Proofs.Ytfoookmblfcmhaa.E
