/- Traces: events; which may be; the map of a trace's nodes. -/
import Derived.Test.YtbfolphodlkmkaaQA
namespace Go.Proofs.Ytbfolphodlkmkaa.E
open Go
set_option linter.unusedVariables false
set_option maxRecDepth 100000

/-- An event. -/
structure EV where
  n : Int
  i : Int
  d : Bool
  v : Int
  deriving DecidableEq
def EV.row (e : EV) : List G := [.int .i64 (.sym e.n), .int .i64 (.sym e.i), .bool (.sym e.d), .int .i64 (.sym e.v)]
def isE (L : List (List G)) (es : List EV) : Prop := L = es.map EV.row
theorem isE.len {L : List (List G)} {es : List EV} (h : isE L es) : L.length = es.length := by rw [h]; simp
theorem isE.get {L : List (List G)} {es : List EV} (h : isE L es) {i : Nat} {e : EV} (he : es[i]? = some e) : L[i]? = some e.row := by rw [h]; simp [he]
theorem isE.app {L : List (List G)} {es : List EV} (h : isE L es) (e : EV) : isE (L ++ [e.row]) (es ++ [e]) := by unfold isE at h ⊢; rw [h]; simp
theorem isE.take {L : List (List G)} {es : List EV} (h : isE L es) (n : Nat) : isE (L.take n) (es.take n) := by unfold isE at h ⊢; rw [h]; simp [List.map_take]
theorem isE.drop {L : List (List G)} {es : List EV} (h : isE L es) (n : Nat) : isE (L.drop n) (es.drop n) := by unfold isE at h ⊢; rw [h]; simp [List.map_drop]
/-- How many events of a node there are. -/
def cnt (l : List EV) (z : Int) : Nat := l.countP fun e => e.n == z
theorem cnt_nil (z : Int) : cnt [] z = 0 := rfl
theorem cnt_app (l : List EV) (e : EV) (z : Int) : cnt (l ++ [e]) z = if e.n = z then cnt l z + 1 else cnt l z := by
  unfold cnt
  rw [List.countP_append]
  by_cases h : e.n = z
  · simp [h]
  · simp [h]
theorem cnt_le (l : List EV) (z : Int) : cnt l z ≤ l.length := List.countP_le_length
/-- May the event stand behind these ones? -/
def okAt (N : Int) (pre : List EV) (x : EV) : Bool := decide (0 ≤ x.n) && decide (x.n < N) && (x.i == ((cnt pre x.n / 2 : Nat) : Int)) && (x.d == (cnt pre x.n % 2 == 1)) && (x.d || x.v == 0)
def rightL (N : Int) : List EV → List EV → Bool
  | _, [] => true
  | pre, x :: r => okAt N pre x && rightL N (pre ++ [x]) r
theorem rightL_step (N : Int) (es : List EV) : ∀ (i : Nat) (x : EV), es[i]? = some x → rightL N (es.take i) (es.drop i) = (okAt N (es.take i) x && rightL N (es.take (i + 1)) (es.drop (i + 1))) := fun i x h => by
  have hlt := (List.getElem?_eq_some_iff.1 h).1
  rw [List.drop_eq_getElem_cons hlt]
  have : es[i] = x := (List.getElem?_eq_some_iff.1 h).2
  rw [this, List.take_add_one, h]
  rfl
/-- What a map has of each node. -/
def isM (M : List (List G)) (c : Int → Nat) : Prop := ∀ z, mfind M z = if c z = 0 then none else some [.int .i64 (.sym z), .int .i64 (.sym (c z : Int))]
theorem mfind_mset (z : Int) (row : List G) (hr : rowKey row = some z) (z' : Int) : ∀ (M : List (List G)), mfind (mset M z row) z' = if z' = z then some row else mfind M z'
  | [] => by
    by_cases h : z' = z
    · subst h
      simp [mset, mfind, hr]
    · have : ¬ z = z' := fun e => h e.symm
      simp [mset, mfind, hr, h, this]
  | r :: M => by
    have ih := mfind_mset z row hr z' M
    unfold mfind at ih ⊢
    by_cases hk : (rowKey r == some z) = true
    · have hk2 : rowKey r = some z := by simpa using hk
      simp only [mset, hk, if_true, List.find?_cons]
      by_cases h : z' = z
      · subst h
        simp [hr]
      · have : ¬ z = z' := fun e => h e.symm
        simp only [hr, hk2, h, if_false, Option.some_beq_some, beq_eq_false_iff_ne.2 this]
    · have hk' : (rowKey r == some z) = false := by simpa using hk
      simp only [mset, hk', List.find?_cons, Bool.false_eq_true, if_false]
      by_cases h2 : (rowKey r == some z') = true
      · have h2' : rowKey r = some z' := by simpa using h2
        have h3 : ¬ z' = z := fun e => by rw [h2', e] at hk'; simp at hk'
        simp [h2, h3]
      · have h2' : (rowKey r == some z') = false := by simpa using h2
        simp only [h2']
        exact ih
theorem isM.nil : isM [] (cnt []) := fun z => by simp [mfind, cnt_nil]
theorem isM.put {M : List (List G)} {l : List EV} (h : isM M (cnt l)) (e : EV) (c : Int) (hc : c = (cnt l e.n : Int) + 1) : isM (mset M e.n [.int .i64 (.sym e.n), .int .i64 (.sym c)]) (cnt (l ++ [e])) := fun z => by
  rw [mfind_mset e.n _ rfl z M, cnt_app]
  by_cases hz : z = e.n
  · subst hz
    rw [if_pos rfl, if_pos rfl, if_neg (by omega), hc]
    congr 5
  · have hq : ¬ e.n = z := fun q => hz q.symm
    simp only [hz, hq, if_false]
    exact h z
theorem set_self2 {α : Type} {T : List α} {k : Nat} {x : α} (h : T[k]? = some x) : T = T.set k x := by
  apply List.ext_getElem?
  intro i
  rw [List.getElem?_set]
  by_cases hi : k = i
  · subst hi
    rw [if_pos rfl, if_pos (List.getElem?_eq_some_iff.1 h).1, h]
  · rw [if_neg hi]
/-- The numbers of an event that is looked at. -/
theorem ev_nums {I : Ints} (hI : I = ints) (c : Nat) (hc : c ≤ 1000000000) : I.bin .quo .i64 (c : Int) 2 = ((c / 2 : Nat) : Int) ∧ I.cmp .eql (I.bin .rem .i64 (c : Int) 2) 1 = (c % 2 == 1) ∧ I.bin .add .i64 (c : Int) 1 = (c : Int) + 1 := by
  subst hI
  have h1 : ((c : Int)).tdiv 2 = ((c / 2 : Nat) : Int) := by
    rw [Int.tdiv_eq_ediv_of_nonneg (by omega)]
    omega
  have h2 : ((c : Int)).tmod 2 = ((c % 2 : Nat) : Int) := by
    rw [Int.tmod_eq_emod_of_nonneg (by omega)]
    omega
  refine ⟨?_, ?_, ?_⟩
  · show IntKind.i64.wrap (((c : Int)).tdiv 2) = _
    rw [h1, wrap_in] <;> omega
  · show (((c : Int)).tmod 2 == 1) = _
    rw [h2]
    by_cases h : c % 2 = 1
    · rw [h]; rfl
    · rw [beq_eq_false_iff_ne.2 h, beq_eq_false_iff_ne.2 (by omega)]
  · show IntKind.i64.wrap ((c : Int) + 1) = _
    rw [wrap_in] <;> omega
section
variable {P : Program} (hp : P = Try.prog)
include hp
set_option maxHeartbeats 4000000 in
theorem right_ (zN : Z) (L : List (List G)) (es : List EV) (hL : isE L es) (hn : es.length ≤ 1000000) : LValid P 8 [.c (.g (.int .i64 zN)), .c (.bor 4 L)] [] (fun v m1 => ∃ t, t = rightL zN.val [] es ∧ v = boo t ∧ m1 = []) := by
  refine bx (LValid.boo (LValid.sy ?_))
  show LValid P 8 [.c (.g (.int .i64 (.sym zN.val))), .c (.bor 4 L)] [] _
  generalize zN.val = N
  obtain ⟨I, hI⟩ := ref
  have hle : I.len L = es.length := by rw [hI]; exact hL.len
  refine fn_sim hI (mo hp) (cc hp c8) fun Post hP => ?_
  cbv
  refine .loop_next (fun n ts m => ∃ (i : Nat) (z c : Int) (M : List (List G)), n = es.length - i ∧ isN z i ∧ isN c es.length ∧ i ≤ es.length ∧ isM M (cnt (es.take i)) ∧ rightL N [] es = rightL N (es.take i) (es.drop i) ∧
      ts = fr 60 [(0, i64 N), (5, .one (.c (.map 0))), (10, .one (.c (.bor 4 L))), (11, i64 c), (12, i64 z)] ∧ m = [.mp none M])
    es.length _ _ [0] [] [0, 5, 10, 11, 12] (by decide) rfl rfl rfl ⟨0, 0, I.ofNat (I.len L), [], rfl, rfl, by rw [hle, hI]; rfl, Nat.zero_le _, isM.nil, rfl, rfl, rfl⟩ ?_
  rintro next n hnext ts m ⟨i, z, c, M, hn2, hz, hc, hi, hM, hR, rfl, rfl⟩
  cbv
  refine .br (fun g1 => ?_) (fun g1 => ?_)
  · have hi1 : i < es.length := by
      have : z < c := by simpa [hI, ints, rCmp] using g1
      unfold isN at hz hc
      omega
    have hz1 : isN (I.bin .add .i64 z 1) (i + 1) := by unfold isN at hz ⊢; rw [hI]; simp only [ints, rBin]; rw [wrap_in] <;> omega
    obtain ⟨x, hx⟩ : ∃ x, es[i]? = some x := ⟨_, List.getElem?_eq_getElem hi1⟩
    have hr := hL.get hx
    rw [rightL_step N es i x hx] at hR
    have htk : es.take (i + 1) = es.take i ++ [x] := by rw [List.take_add_one, hx]; rfl
    have hcl : cnt (es.take i) x.n ≤ 1000000000 := by have := cnt_le (es.take i) x.n; rw [List.length_take] at this; omega
    obtain ⟨q1, q2, q3⟩ := ev_nums hI _ hcl
    have hput := hM.put x _ q3
    have hfind := hM x.n
    rw [← htk] at hput
    have hok : okAt N (es.take i) x = (!(I.cmp .lss x.n 0 || I.cmp .geq x.n N || I.cmp .neq x.i (I.bin .quo .i64 (cnt (es.take i) x.n : Int) 2) || I.not (I.beq x.d (I.cmp .eql (I.bin .rem .i64 (cnt (es.take i) x.n : Int) 2) 1)) || (I.not x.d && I.cmp .neq x.v 0))) := by
      rw [q1, q2, hI]
      unfold okAt
      show _ = !(decide (x.n < 0) || decide (x.n ≥ N) || (x.i != _) || !(x.d == _) || (!x.d && (x.v != 0)))
      have a1 : decide (0 ≤ x.n) = !decide (x.n < 0) := by by_cases h : x.n < 0 <;> simp [h] <;> omega
      have a2 : decide (x.n < N) = !decide (x.n ≥ N) := by by_cases h : x.n < N <;> simp [h] <;> omega
      rw [a1, a2]
      simp only [bne, Bool.not_or, Bool.not_not, Bool.not_and]
    have hbad : okAt N (es.take i) x = false → rightL N [] es = false := fun h => by rw [hR, h]; rfl
    have hgood : okAt N (es.take i) x = true → rightL N [] es = rightL N (es.take (i + 1)) (es.drop (i + 1)) := fun h => by rw [hR, h]; rfl
    obtain ⟨xn, xi, xd, xv⟩ := x
    have hput : isM (I.mset M xn [.int .i64 (.sym xn), .int .i64 (.sym (I.bin .add .i64 (cnt (es.take i) xn : Int) 1))]) (cnt (es.take (i + 1))) := by rw [hI]; rw [hI] at hput; exact hput
    have hfind : mfind M xn = if cnt (es.take i) xn = 0 then none else some [.int .i64 (.sym xn), .int .i64 (.sym (cnt (es.take i) xn : Int))] := hfind
    have hok : okAt N (es.take i) ⟨xn, xi, xd, xv⟩ = (!(I.cmp .lss xn 0 || I.cmp .geq xn N || I.cmp .neq xi (I.bin .quo .i64 (cnt (es.take i) xn : Int) 2) || I.not (I.beq xd (I.cmp .eql (I.bin .rem .i64 (cnt (es.take i) xn : Int) 2) 1)) || (I.not xd && I.cmp .neq xv 0))) := hok
    have hil : i < I.len L := by rw [hle]; exact hi1
    by_cases h0 : cnt (es.take i) xn = 0
    · rw [if_pos h0] at hfind
      rw [h0] at hok hput q1 q2 q3
      rw [q1, q2] at hok
      rw [q3] at hput
      have hok : okAt N (es.take i) ⟨xn, xi, xd, xv⟩ = (!(I.cmp .lss xn 0 || I.cmp .geq xn N || I.cmp .neq xi 0 || I.not (I.beq xd false) || (I.not xd && I.cmp .neq xv 0))) := hok
      have hput : isM (I.mset M xn [.int .i64 (.sym xn), .int .i64 (.sym 1)]) (cnt (es.take (i + 1))) := hput
      generalize okAt N (es.take i) ⟨xn, xi, xd, xv⟩ = ok at hok hbad hgood
      cbv
      refine .idx i hz hil (.nth _ hr ?_)
      cbv
      refine .find _ hfind ?_
      cbv
      refine .br (fun a1 => ?_) (fun a1 => ?_)
      · have := hbad (by rw [hok, show I.cmp .lss xn 0 = true from a1]; simp)
        cbv
        exact hP _ _ [] [] _ _ .nil rfl rfl rfl rfl rfl ⟨_, rfl, this.symm, rfl⟩
      cbv
      refine .br (fun a2 => ?_) (fun a2 => ?_)
      · have := hbad (by rw [hok, show I.cmp .lss xn 0 = false from a1, show I.cmp .geq xn N = true from a2]; simp)
        cbv
        exact hP _ _ [] [] _ _ .nil rfl rfl rfl rfl rfl ⟨_, rfl, this.symm, rfl⟩
      cbv
      refine .br (fun a3 => ?_) (fun a3 => ?_)
      · have := hbad (by rw [hok, show I.cmp .lss xn 0 = false from a1, show I.cmp .geq xn N = false from a2, show I.cmp .neq xi 0 = true from a3]; simp)
        cbv
        exact hP _ _ [] [] _ _ .nil rfl rfl rfl rfl rfl ⟨_, rfl, this.symm, rfl⟩
      cbv
      refine .br (fun a4 => ?_) (fun a4 => ?_)
      · have := hbad (by rw [hok, show I.cmp .lss xn 0 = false from a1, show I.cmp .geq xn N = false from a2, show I.cmp .neq xi 0 = false from a3, show I.not (I.beq xd false) = true from a4]; simp)
        cbv
        exact hP _ _ [] [] _ _ .nil rfl rfl rfl rfl rfl ⟨_, rfl, this.symm, rfl⟩
      cbv
      refine .br (fun a5 => ?_) (fun a5 => ?_)
      · cbv
        refine .br (fun a6 => ?_) (fun a6 => ?_)
        · have := hbad (by rw [hok, show I.cmp .lss xn 0 = false from a1, show I.cmp .geq xn N = false from a2, show I.cmp .neq xi 0 = false from a3, show I.not (I.beq xd false) = false from a4, show I.not xd = true from a5, show I.cmp .neq xv 0 = true from a6]; simp)
          cbv
          exact hP _ _ [] [] _ _ .nil rfl rfl rfl rfl rfl ⟨_, rfl, this.symm, rfl⟩
        have := hgood (by rw [hok, show I.cmp .lss xn 0 = false from a1, show I.cmp .geq xn N = false from a2, show I.cmp .neq xi 0 = false from a3, show I.not (I.beq xd false) = false from a4, show I.cmp .neq xv 0 = false from a6]; simp)
        cbv
        refine .find _ hfind ?_
        cbv
        exact hnext _ _ (es.length - (i + 1)) [0] [] [0, 5, 10, 11, 12] _ _ (by omega) (by decide) rfl rfl rfl ⟨i + 1, _, c, _, rfl, hz1, hc, hi1, hput, this, rfl, rfl⟩
      have := hgood (by rw [hok, show I.cmp .lss xn 0 = false from a1, show I.cmp .geq xn N = false from a2, show I.cmp .neq xi 0 = false from a3, show I.not (I.beq xd false) = false from a4, show I.not xd = false from a5]; simp)
      cbv
      refine .find _ hfind ?_
      cbv
      exact hnext _ _ (es.length - (i + 1)) [0] [] [0, 5, 10, 11, 12] _ _ (by omega) (by decide) rfl rfl rfl ⟨i + 1, _, c, _, rfl, hz1, hc, hi1, hput, this, rfl, rfl⟩
    · rw [if_neg h0] at hfind
      generalize ((cnt (es.take i) xn : Nat) : Int) = cz at hok hput hfind
      generalize okAt N (es.take i) ⟨xn, xi, xd, xv⟩ = ok at hok hbad hgood
      cbv
      refine .idx i hz hil (.nth _ hr ?_)
      cbv
      refine .find _ hfind ?_
      cbv
      refine .br (fun a1 => ?_) (fun a1 => ?_)
      · have := hbad (by rw [hok, show I.cmp .lss xn 0 = true from a1]; simp)
        cbv
        exact hP _ _ [] [] _ _ .nil rfl rfl rfl rfl rfl ⟨_, rfl, this.symm, rfl⟩
      cbv
      refine .br (fun a2 => ?_) (fun a2 => ?_)
      · have := hbad (by rw [hok, show I.cmp .lss xn 0 = false from a1, show I.cmp .geq xn N = true from a2]; simp)
        cbv
        exact hP _ _ [] [] _ _ .nil rfl rfl rfl rfl rfl ⟨_, rfl, this.symm, rfl⟩
      cbv
      refine .br (fun a3 => ?_) (fun a3 => ?_)
      · have := hbad (by rw [hok, show I.cmp .lss xn 0 = false from a1, show I.cmp .geq xn N = false from a2, show I.cmp .neq xi (I.bin .quo .i64 cz 2) = true from a3]; simp)
        cbv
        exact hP _ _ [] [] _ _ .nil rfl rfl rfl rfl rfl ⟨_, rfl, this.symm, rfl⟩
      cbv
      refine .br (fun a4 => ?_) (fun a4 => ?_)
      · have := hbad (by rw [hok, show I.cmp .lss xn 0 = false from a1, show I.cmp .geq xn N = false from a2, show I.cmp .neq xi (I.bin .quo .i64 cz 2) = false from a3, show I.not (I.beq xd (I.cmp .eql (I.bin .rem .i64 cz 2) 1)) = true from a4]; simp)
        cbv
        exact hP _ _ [] [] _ _ .nil rfl rfl rfl rfl rfl ⟨_, rfl, this.symm, rfl⟩
      cbv
      refine .br (fun a5 => ?_) (fun a5 => ?_)
      · cbv
        refine .br (fun a6 => ?_) (fun a6 => ?_)
        · have := hbad (by rw [hok, show I.cmp .lss xn 0 = false from a1, show I.cmp .geq xn N = false from a2, show I.cmp .neq xi (I.bin .quo .i64 cz 2) = false from a3, show I.not (I.beq xd (I.cmp .eql (I.bin .rem .i64 cz 2) 1)) = false from a4, show I.not xd = true from a5, show I.cmp .neq xv 0 = true from a6]; simp)
          cbv
          exact hP _ _ [] [] _ _ .nil rfl rfl rfl rfl rfl ⟨_, rfl, this.symm, rfl⟩
        have := hgood (by rw [hok, show I.cmp .lss xn 0 = false from a1, show I.cmp .geq xn N = false from a2, show I.cmp .neq xi (I.bin .quo .i64 cz 2) = false from a3, show I.not (I.beq xd (I.cmp .eql (I.bin .rem .i64 cz 2) 1)) = false from a4, show I.cmp .neq xv 0 = false from a6]; simp)
        cbv
        refine .find _ hfind ?_
        cbv
        exact hnext _ _ (es.length - (i + 1)) [0] [] [0, 5, 10, 11, 12] _ _ (by omega) (by decide) rfl rfl rfl ⟨i + 1, _, c, _, rfl, hz1, hc, hi1, hput, this, rfl, rfl⟩
      have := hgood (by rw [hok, show I.cmp .lss xn 0 = false from a1, show I.cmp .geq xn N = false from a2, show I.cmp .neq xi (I.bin .quo .i64 cz 2) = false from a3, show I.not (I.beq xd (I.cmp .eql (I.bin .rem .i64 cz 2) 1)) = false from a4, show I.not xd = false from a5]; simp)
      cbv
      refine .find _ hfind ?_
      cbv
      exact hnext _ _ (es.length - (i + 1)) [0] [] [0, 5, 10, 11, 12] _ _ (by omega) (by decide) rfl rfl rfl ⟨i + 1, _, c, _, rfl, hz1, hc, hi1, hput, this, rfl, rfl⟩
  · have hi1 : i = es.length := by
      have : ¬ z < c := by simpa [hI, ints, rCmp] using g1
      unfold isN at hz hc
      omega
    have hend : rightL N [] es = true := by rw [hR, hi1, List.drop_length]; rfl
    cbv
    exact hP _ _ [] [] _ _ .nil rfl rfl rfl rfl rfl ⟨_, rfl, hend.symm, rfl⟩
end
end Go.Proofs.Ytbfolphodlkmkaa.E
