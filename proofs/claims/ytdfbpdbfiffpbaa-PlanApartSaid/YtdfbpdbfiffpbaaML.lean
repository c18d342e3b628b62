/- Contracts: a home's rows. -/
import Derived.Test.YtdfbpdbfiffpbaaQPlan
namespace Go.Proofs.Ytdfbpdbfiffpbaa.E
open Go
set_option linter.unusedVariables false
set_option maxRecDepth 100000

/-- A line's words at first. -/
def wordsL (ini : List Int) (w line : Nat) : List Int := let x := (ini.drop (line * w)).take w; x ++ List.replicate (w - x.length) 0
theorem wordsL_len (ini : List Int) (w line : Nat) : (wordsL ini w line).length = w := by
  unfold wordsL
  simp only [List.length_append, List.length_replicate, List.length_take]
  omega
theorem wordsL_get (ini : List Int) (w line i : Nat) (hi : i < w) : (wordsL ini w line)[i]? = some ((ini[line * w + i]?).getD 0) := by
  unfold wordsL
  simp only
  by_cases h : line * w + i < ini.length
  · have e : i < ((ini.drop (line * w)).take w).length := by simp only [List.length_take, List.length_drop]; omega
    rw [List.getElem?_append_left e, List.getElem?_take, if_pos hi, List.getElem?_drop, List.getElem?_eq_getElem h]
    rfl
  · have e : ((ini.drop (line * w)).take w).length ≤ i := by simp only [List.length_take, List.length_drop]; omega
    rw [List.getElem?_append_right e, List.getElem?_replicate, if_pos (by omega), List.getElem?_eq_none (by omega)]
    rfl
/-- A row. -/
structure RW where
  s : Int
  h : Int
  d : List Int
def rowD (z : Int) (r : RW) : List G := [.int .i64 (.sym z), .int .i64 (.sym r.s), .int .i64 (.sym r.h), .rows 1 (nrow .i64 r.d)]
def isD (M : List (List G)) (f : Int → Option RW) : Prop := ∀ z, mfind M z = (f z).map (rowD z)
theorem mfind_mset3 (z : Int) (row : List G) (hr : rowKey row = some z) (z' : Int) : ∀ (M : List (List G)), mfind (mset M z row) z' = if z' = z then some row else mfind M z'
  | [] => by
    by_cases h : z' = z
    · subst h; simp [mset, mfind, hr]
    · have : ¬ z = z' := fun e => h e.symm
      simp [mset, mfind, hr, h, this]
  | r :: M => by
    unfold mset
    split
    · rename_i hk
      have hk : rowKey r = some z := by simpa using hk
      by_cases h : z' = z
      · subst h; simp [mfind, hr]
      · have : ¬ z = z' := fun e => h e.symm
        simp [mfind, hr, hk, h, this]
    · rename_i hk
      have hk : ¬ rowKey r = some z := by simpa using hk
      have ih := mfind_mset3 z row hr z' M
      unfold mfind at ih ⊢
      rw [List.find?_cons, List.find?_cons]
      by_cases h : rowKey r = some z'
      · have : ¬ z' = z := fun e => hk (by rw [h, e])
        simp [h, this]
      · have : (rowKey r == some z') = false := by simpa using h
        rw [this]
        exact ih
theorem isD.nil : isD [] (fun _ => none) := fun z => rfl
theorem isD.put {M : List (List G)} {f : Int → Option RW} (h : isD M f) (z : Int) (r : RW) : isD (mset M z (rowD z r)) (fun y => if y = z then some r else f y) := fun y => by
  rw [mfind_mset3 z _ rfl y M, h y]
  show _ = (if y = z then some r else f y).map (rowD y)
  by_cases e : y = z
  · subst e
    rw [if_pos rfl, if_pos rfl]
    rfl
  · rw [if_neg e, if_neg e]
/-- The rows of a node at first, of the lines below a bound. -/
def dir0 (ini : List Int) (a w node : Int) (n : Nat) : Int → Option RW := fun z => if 0 ≤ z ∧ z < n ∧ z.tmod a = node then some ⟨0, -1, wordsL ini w.toNat z.toNat⟩ else none
theorem dir0_step (ini : List Int) (a w node : Int) (n : Nat) : (fun z : Int => if (n : Int).tmod a = node ∧ z = n then some ⟨0, -1, wordsL ini w.toNat n⟩ else dir0 ini a w node n z) = dir0 ini a w node (n + 1) := by
  funext z
  unfold dir0
  by_cases h : z = n
  · subst h
    by_cases h2 : (n : Int).tmod a = node
    · rw [if_pos ⟨h2, rfl⟩, if_pos ⟨by omega, by omega, h2⟩, Int.toNat_natCast]
    · rw [if_neg (fun e => h2 e.1), if_neg (fun e => h2 e.2.2), if_neg (fun e => h2 e.2.2)]
  · rw [if_neg (fun e => h e.2)]
    by_cases h2 : 0 ≤ z ∧ z < n ∧ z.tmod a = node
    · rw [if_pos h2, if_pos ⟨h2.1, by omega, h2.2.2⟩]
    · rw [if_neg h2, if_neg (fun e => h2 ⟨e.1, by omega, e.2.2⟩)]
/-- A configuration, as numbers. -/
structure CF where
  a : Int
  b : Int
  c : Int
  d : Int
  e : Int
  f : Int
  g : Int
  ini : List Int
structure CF.ok (q : CF) : Prop where
  ha : 1 ≤ q.a ∧ q.a ≤ 4
  hb : 1 ≤ q.b ∧ q.b ≤ 4
  hc : 1 ≤ q.c ∧ q.c ≤ 2
  hd : 1 ≤ q.d ∧ q.d ≤ 2
  hi : q.ini.length ≤ 8 ∧ (q.ini.length : Int) ≤ q.b * q.c
def CF.cells (q : CF) (x : C) : List C := cfg (.sym q.a) (.sym q.b) (.sym q.c) (.sym q.d) (.sym q.e) (.sym q.f) (.sym q.g) x
/-- A configuration as it is told: its first words frozen. -/
def CF.told (q : CF) (L : List (List G)) : V1 := .agg (q.cells (.g (.rows 1 L)))
/-- A home's block. -/
def dirB (q : CF) (L : List (List G)) : Blk := .lit 9 [q.cells (.g (.rows 1 L)) ++ [.map 1]]
/-- What setting a row answers. -/
def setErr (q : CF) (f : Int → Option RW) (z st hd : Int) (x : List Int) : Int := match f z with
  | none => 3
  | some _ => if st < 0 ∨ 2 < st ∨ hd < -1 ∨ q.a ≤ hd then 1 else if ¬ (hd = -1 ↔ st = 0) ∨ x ≠ [] ∧ (x.length : Int) ≠ q.c then 1 else 0
def setDir (q : CF) (f : Int → Option RW) (z st hd : Int) (x : List Int) : Int → Option RW := match f z with
  | none => f
  | some r => if setErr q f z st hd x = 0 then fun y => if y = z then some ⟨st, hd, if x = [] then r.d else x⟩ else f y else f
/-- The lines that are there, rising. -/
def linesL (f : Int → Option RW) (n : Nat) : List Int := ((List.range n).map fun (i : Nat) => (i : Int)).filter fun z => (f z).isSome
theorem linesL_step (f : Int → Option RW) (n : Nat) : linesL f (n + 1) = linesL f n ++ if (f n).isSome = true then [(n : Int)] else [] := by
  unfold linesL
  rw [List.range_succ, List.map_append, List.filter_append]
  congr 1
  simp only [List.map_cons, List.map_nil, List.filter_cons, List.filter_nil]
section
variable {P : Program} (hp : P = Try.prog)
include hp
set_option maxHeartbeats 4000000 in
/-- The configuration of a setup, frozen. -/
theorem configF (a b c d e f g : Int) (l l1 l2 l3 l4 : List (List G)) (xs : List Int) (hx : isL .i64 l xs) : LValid P 12 [.agg [.g (.int .i64 (.sym a)), .g (.int .i64 (.sym b)), .g (.int .i64 (.sym c)), .g (.int .i64 (.sym d)), .g (.int .i64 (.sym e)), .g (.int .i64 (.sym f)), .g (.int .i64 (.sym g)), .bor 1 l, .bor 1 l1, .bor 1 l2, .bor 1 l3, .bor 1 l4]] []
    (fun v m1 => ∃ (q : CF) (L : List (List G)), q.ok ∧ isL .i64 L q.ini ∧ v = .one (q.told L) ∧ m1 = []) := by
  obtain ⟨I, hI⟩ := ref
  refine fn_sim hI (mo hp) (cc hp c12) fun Post hP => ?_
  cbv
  refine .drawn [] ?_
  repeat' first
    | (refine .both ?_ ?_)
    | (refine .go [] [] [] (within hp _ _) rfl rfl rfl rfl rfl rfl ?_; rintro r m1 ⟨y, hy, rfl, rfl⟩; cbv)
  all_goals
    rename_i y1 h1 y2 h2 y3 h3 y4 h4 y5 h5 y6 h6
    as_aux_lemma =>
      have q1 := inc_in a 4 (by omega) (by omega)
      have q2 := inc_in b 4 (by omega) (by omega)
      have q3 := inc_in c 2 (by omega) (by omega)
      have q4 := inc_in d 2 (by omega) (by omega)
      rw [← show y1 = win a 4 from h1, ← hI] at q1
      rw [← show y2 = win b 4 from h2, ← hI] at q2
      rw [← show y3 = win c 2 from h3, ← hI] at q3
      rw [← show y4 = win d 2 from h4, ← hI] at q4
      have h9 : ∃ n : Nat, isN (I.bin .mul .i64 (I.bin .add .i64 1 y2) (I.bin .add .i64 1 y3)) n ∧ n ≤ 8 := by
        have := mul_in _ _ q2 q3
        rw [← hI] at this
        exact this
      obtain ⟨n, hn, hn8⟩ := h9
      have hpr : ((n : Int)) = (I.bin .add .i64 1 y2) * (I.bin .add .i64 1 y3) := by
        have h : IntKind.i64.wrap ((I.bin .add .i64 1 y2) * (I.bin .add .i64 1 y3)) = (I.bin .add .i64 1 y2) * (I.bin .add .i64 1 y3) := by first | exact inB_prod hp 0 _ _ q2 q3 | exact inB_prod 0 _ _ q2 q3
        have hn : I.bin .mul .i64 (I.bin .add .i64 1 y2) (I.bin .add .i64 1 y3) = (n : Int) := hn
        rw [← hn, ← h, hI]
        rfl
      have hlen : (xs.take n).length ≤ 8 ∧ (((xs.take n).length : Nat) : Int) ≤ (I.bin .add .i64 1 y2) * (I.bin .add .i64 1 y3) := by
        rw [← hpr, List.length_take]
        omega
      have hok : CF.ok ⟨I.bin .add .i64 1 y1, I.bin .add .i64 1 y2, I.bin .add .i64 1 y3, I.bin .add .i64 1 y4, I.bin .add .i64 1 y5, I.bin .add .i64 1 y6, I.bin .add .i64 1 y, xs.take n⟩ := ⟨q1, q2, q3, q4, hlen⟩
      have hrow : ∀ l' : List (List G), l' = l.take n → l' = nrow .i64 (xs.take n) := fun l' h => by rw [h, hx]; simp [nrow, List.map_take]
      clear hpr hlen q1 q2 q3 q4
      refine .go [] [] [.bor 1, .keep] (cut8 hp l (.sym _) n hn hn8) rfl rfl rfl rfl rfl rfl ?_
      rintro r m1 ⟨l', hl', rfl, rfl⟩
      have hr2 := hrow l' hl'
      have hv : ∃ (q : CF) (L : List (List G)), q.ok ∧ isL .i64 L q.ini ∧ A.one (.agg (cfg (.sym (I.bin .add .i64 1 y1)) (.sym (I.bin .add .i64 1 y2)) (.sym (I.bin .add .i64 1 y3)) (.sym (I.bin .add .i64 1 y4)) (.sym (I.bin .add .i64 1 y5)) (.sym (I.bin .add .i64 1 y6)) (.sym (I.bin .add .i64 1 y)) (.g (.rows 1 l')))) = .one (q.told L) ∧ ([] : Mem) = [] := ⟨_, l', hok, hr2, rfl, rfl⟩
      clear hr2 hl' hok hrow
      cbv
      exact hP _ _ [] [3] _ _ (by decide) rfl rfl rfl rfl rfl hv
end
end Go.Proofs.Ytdfbpdbfiffpbaa.E
