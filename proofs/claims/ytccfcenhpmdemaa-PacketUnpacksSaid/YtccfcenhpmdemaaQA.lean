/- Contracts: Within, Copy, Cut, Same of numbers. -/
import Derived.Test.YtccfcenhpmdemaaE17
import Derived.Test.YtccfcenhpmdemaaX
namespace Go.Proofs.Ytccfcenhpmdemaa.E
open Go
set_option linter.unusedVariables false
set_option maxRecDepth 100000

theorem mo0 : Try.prog.follows .mixedOrders = true := by kernel_rfl
theorem ref : ∃ I, I = ints := ⟨_, rfl⟩
/-- Any number as one from 0 to n - 1. -/
def win (v n : Int) : Int := if n < 1 then 0 else if v.tmod n < 0 then IntKind.i64.wrap (v.tmod n + n) else v.tmod n
/-- A number that counts. -/
def isN (z : Int) (n : Nat) : Prop := z = (n : Int)
/-- Rows of one number each. -/
def isL (k : IntKind) (l : List (List G)) (xs : List Int) : Prop := l = nrow k xs
theorem isL.len {k : IntKind} {l : List (List G)} {xs : List Int} (h : isL k l xs) : l.length = xs.length := by rw [h]; simp [nrow]
theorem isL.get {k : IntKind} {l : List (List G)} {xs : List Int} (h : isL k l xs) (i : Nat) : l[i]? = (xs[i]?).map fun x => [.int k (.sym x)] := by rw [h]; simp [nrow]
theorem wrap_in (x : Int) (h1 : -9223372036854775808 ≤ x) (h2 : x ≤ 9223372036854775807) : IntKind.i64.wrap x = x := by
  rw [IntKind.wrap_i64]
  omega
theorem wf64 {n : Int} (h : (Lit.int .i64 n).wf = true) : -9223372036854775808 ≤ n ∧ n ≤ 9223372036854775807 := by
  have h1 : (decide (IntKind.i64.min ≤ n) && decide (n ≤ IntKind.i64.max)) = true := h
  rw [show IntKind.i64.min = -9223372036854775808 from rfl, show IntKind.i64.max = 9223372036854775807 from rfl] at h1
  simpa using h1
theorem win_in (v n : Int) (h : 0 < n) (hn : n ≤ 4611686018427387904) : 0 ≤ win v n ∧ win v n < n := by
  have h1 := Int.tmod_lt_of_pos v h
  have h2 : -n < v.tmod n := by
    have := Int.lt_tmod_of_pos v h
    omega
  unfold win
  rw [if_neg (by omega)]
  split
  · rw [wrap_in] <;> omega
  · omega
theorem bools_rep {w : World} {Ad : Option Addr} {xs : List Bool} {c : Nat} (h : (Go.Proofs.YtccfcenhpmdemaaW.PrintWords.Kd.bool).C w Ad xs.length xs) (hc : xs.length ≤ c) : GRep (fun k => k < w.heap.size) w (.rows 1 (xs.map fun x => [.bool (.sym x)])) (.slice Ad xs.length c) :=
  rows_rep (d := Go.Proofs.YtccfcenhpmdemaaW.PrintWords.Kd.bool) (g := fun x => [.bool (.sym x)]) (Nat.zero_lt_one) (fun x cs hk => by
    have hk : cs = [.bool x] := hk
    subst hk
    refine ⟨rfl, fun i y hi => ?_⟩
    cases i with
    | zero => simp at hi; subst hi; exact ⟨_, rfl, .bool (.sym x)⟩
    | succ i => simp at hi) h hc
section
variable {P : Program}
theorem bx {f : FuncId} {args : List V1} {m : Mem} {x : Bool} (h : LValid P f args m (fun v m1 => v = boo x ∧ m1 = [])) : LValid P f args m (fun v m1 => ∃ t, t = x ∧ v = boo t ∧ m1 = []) := h.mono fun v m1 h => ⟨_, rfl, h.1, h.2⟩
theorem nx {f : FuncId} {args : List V1} {m : Mem} {k : IntKind} {x : Int} (h : LValid P f args m (fun v m1 => v = .one (.c (.g (.int k (.sym x)))) ∧ m1 = [])) : LValid P f args m (fun v m1 => ∃ t, t = x ∧ v = .one (.c (.g (.int k (.sym t)))) ∧ m1 = []) := h.mono fun v m1 h => ⟨_, rfl, h.1, h.2⟩
variable (hp : P = Try.prog)
include hp
theorem mo : P.follows .mixedOrders = true := hp ▸ mo0
theorem cc {n : Nat} {x : XF} (h : compF Try.prog n = some x) : compF P n = some x := hp ▸ h

theorem ccj {j : List Nat} {n : Nat} {x : XF} (h : compFj Try.prog j n = some x) : compFj P j n = some x := hp ▸ h

theorem within (v n : Z) : LValid P 10 [.c (.g (.int .i64 v)), .c (.g (.int .i64 n))] [] (fun r m1 => ∃ t, t = win v.val n.val ∧ r = i64 t ∧ m1 = []) := by
  refine nx (LValid.sy (LValid.num ?_))
  show LValid P 10 [.c (.g (.int .i64 (.sym v.val))), .c (.g (.int .i64 (.sym n.val)))] [] _
  generalize v.val = v, n.val = n
  obtain ⟨I, hI⟩ := ref
  refine fn_sim hI (mo hp) (cc hp c10) fun Post hP => ?_
  cbv
  refine .br (fun h => ?_) (fun h => ?_)
  · cbv
    have h : n < 1 := by simpa [hI, ints, rCmp] using h
    exact hP _ _ [] [] _ _ .nil rfl rfl rfl rfl rfl ⟨_, rfl, by simp [win, h, Z.val], rfl⟩
  · have h : ¬ n < 1 := by simpa [hI, ints, rCmp] using h
    cbv
    refine .nz (by omega) ?_
    cbv
    refine .br (fun h2 => ?_) (fun h2 => ?_)
    · have h2 : v.tmod n < 0 := by simpa [hI, ints, rCmp, rBin] using h2
      cbv
      exact hP _ _ [] [] _ _ .nil rfl rfl rfl rfl rfl ⟨_, rfl, by simp [win, h, h2, Z.val, hI, ints, rBin], rfl⟩
    · have h2 : ¬ v.tmod n < 0 := by simpa [hI, ints, rCmp, rBin] using h2
      cbv
      exact hP _ _ [] [] _ _ .nil rfl rfl rfl rfl rfl ⟨_, rfl, by simp [win, h, h2, Z.val, hI, ints, rBin], rfl⟩
theorem copy (l : List (List G)) (hl : l.length * 8 ≤ 140737488355328) : LValid P 19 [.c (.bor 1 l)] [] (fun v m1 => v = .one (.c (.row 0 1 none)) ∧ m1 = [.sym 1 l]) := by
  obtain ⟨I, hI⟩ := ref
  refine fn_sim hI (mo hp) (cc hp c19) fun Post hP => ?_
  cbv
  refine .most (by simpa [hI, ints] using hl) (by simp [hI, ints]; omega) ?_
  cbv
  exact hP _ _ [0] [] _ _ (by decide) rfl rfl rfl rfl rfl ⟨rfl, rfl⟩
theorem cut (l : List (List G)) (z : Z) (n : Nat) (hz : isN z.val n) (hl : l.length * 8 ≤ 140737488355328) : LValid P 11 [.c (.bor 1 l), .c (.g (.int .i64 z))] [] (fun v m1 => ∃ l', l' = l.take n ∧ v = .one (.c (.row 0 1 none)) ∧ m1 = [.sym 1 l']) := by
  refine LValid.sy ?_
  show LValid P 11 [.c (.bor 1 l), .c (.g (.int .i64 (.sym z.val)))] [] _
  generalize z.val = z at hz
  obtain ⟨I, hI⟩ := ref
  refine fn_sim hI (mo hp) (cc hp c11) fun Post hP => ?_
  cbv
  obtain ⟨q, hq⟩ : ∃ q, q = min n l.length := ⟨_, rfl⟩
  refine .rng 0 q rfl ?_ (Nat.zero_le _) (by rw [hI, hq]; exact Nat.min_le_right _ _) ?_
  · unfold isN at hz
    simp [hI, ints, hz, hq]
    split <;> omega
  cbv
  have hl' : (I.ext l 0 q).length * 8 ≤ 140737488355328 := by
    rw [hI, hq]
    simp [ints]
    omega
  generalize hx : I.ext l 0 q = l' at hl'
  refine .go [] [] [] (copy hp l' hl') rfl rfl rfl rfl ?_ rfl ?_
  · rw [← hx]
    rfl
  rintro v m1 ⟨rfl, rfl⟩
  cbv
  exact hP _ _ [0] [] _ _ (by decide) rfl rfl rfl rfl rfl ⟨l', by rw [← hx, hI, hq]; simp [ints, List.take_eq_take_iff], rfl, rfl⟩
end
end Go.Proofs.Ytccfcenhpmdemaa.E
