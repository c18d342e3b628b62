/- Contracts: a trace. -/
import Derived.Test.YtbfolphodlkmkaaTM
namespace Go.Proofs.Ytbfolphodlkmkaa.E
open Go
set_option linter.unusedVariables false
set_option maxRecDepth 100000

def tr (c : C) : Blk := .lit 1 [[c]]
theorem ev_eq {I : Ints} (hI : I = ints) (a b : EV) : I.and (I.cmp .eql a.n b.n) (I.and (I.cmp .eql a.i b.i) (I.and (I.beq a.d b.d) (I.cmp .eql a.v b.v))) = (a == b) := by
  rw [hI]
  show ((a.n == b.n) && ((a.i == b.i) && ((a.d == b.d) && (a.v == b.v)))) = _
  obtain ⟨n, i, d, v⟩ := a
  obtain ⟨n', i', d', v'⟩ := b
  by_cases h : (⟨n, i, d, v⟩ : EV) = ⟨n', i', d', v'⟩
  · injection h with h1 h2 h3 h4
    subst h1 h2 h3 h4
    simp
  · rw [beq_eq_false_iff_ne.2 h]
    simp only [EV.mk.injEq] at h
    simp only [Bool.and_eq_false_iff, beq_eq_false_iff_ne]
    by_cases h1 : n = n'
    · by_cases h2 : i = i'
      · by_cases h3 : d = d'
        · exact .inr (.inr (.inr (fun h4 => h ⟨h1, h2, h3, h4⟩)))
        · exact .inr (.inr (.inl h3))
      · exact .inr (.inl h2)
    · exact .inl h1
section
variable {P : Program} (hp : P = Try.prog)
include hp
theorem new : LValid P 11 [] [] (fun v m1 => v = .one (.c (.ptr 0 (.lit 0) 1 0)) ∧ m1 = [tr (.row 1 4 none), .sym 4 []]) := by
  refine LValid.ownField (R := fun v m1 => v = .one (.c (.ptr 0 (.lit 0) 1 0)) ∧ m1 = [tr (.g .nil)]) 4 0 0 0 ?_ (fun v m1 h => by obtain ⟨rfl, rfl⟩ := h; exact ⟨1, _, _, rfl, rfl, rfl, rfl, rfl⟩)
  obtain ⟨I, hI⟩ := ref
  refine fn_sim hI (mo hp) (cc hp c11) fun Post hP => ?_
  cbv
  exact hP _ _ [0] [] _ _ (by decide) rfl rfl rfl rfl rfl ⟨rfl, rfl⟩
theorem begin_ (zn zi : Z) (L : List (List G)) (hl : L.length ≤ 1000000) : LValid P 13 [.c (.ptr 0 (.lit 0) 1 0), .c (.g (.int .i64 zn)), .c (.g (.int .i64 zi))] [tr (.row 1 4 none), .sym 4 L]
    (fun v m1 => ∃ L', L' = L ++ [EV.row ⟨zn.val, zi.val, false, 0⟩] ∧ v = .tup [] ∧ m1 = [tr (.row 2 4 none), .dead, .sym 4 L']) := by
  refine LValid.sy ?_
  show LValid P 13 [.c (.ptr 0 (.lit 0) 1 0), .c (.g (.int .i64 (.sym zn.val))), .c (.g (.int .i64 (.sym zi.val)))] _ _
  generalize zn.val = n, zi.val = i
  obtain ⟨I, hI⟩ := ref
  have hap : I.app L [EV.row ⟨n, i, false, 0⟩] = L ++ [EV.row ⟨n, i, false, 0⟩] := by rw [hI]; rfl
  have hm1 : I.len (I.app L [EV.row ⟨n, i, false, 0⟩]) * 32 ≤ 140737488355328 := by rw [hap, hI]; simp [ints]; omega
  have hm2 : I.len (I.app L [EV.row ⟨n, i, false, 0⟩]) ≤ 140737488355328 := by rw [hap, hI]; simp [ints]; omega
  refine fn_sim hI (mo hp) (cc hp c13) fun Post hP => ?_
  cbv
  refine .most hm1 hm2 ?_
  cbv
  exact hP _ _ [0, 1, 3] [] _ _ (by decide) rfl rfl rfl rfl rfl ⟨_, hap, rfl, rfl⟩
theorem end_ (zn zi zv : Z) (L : List (List G)) (hl : L.length ≤ 1000000) : LValid P 12 [.c (.ptr 0 (.lit 0) 1 0), .c (.g (.int .i64 zn)), .c (.g (.int .i64 zi)), .c (.g (.int .i64 zv))] [tr (.row 1 4 none), .sym 4 L]
    (fun v m1 => ∃ L', L' = L ++ [EV.row ⟨zn.val, zi.val, true, zv.val⟩] ∧ v = .tup [] ∧ m1 = [tr (.row 2 4 none), .dead, .sym 4 L']) := by
  refine LValid.sy ?_
  show LValid P 12 [.c (.ptr 0 (.lit 0) 1 0), .c (.g (.int .i64 (.sym zn.val))), .c (.g (.int .i64 (.sym zi.val))), .c (.g (.int .i64 (.sym zv.val)))] _ _
  generalize zn.val = n, zi.val = i, zv.val = w
  obtain ⟨I, hI⟩ := ref
  have hap : I.app L [EV.row ⟨n, i, true, w⟩] = L ++ [EV.row ⟨n, i, true, w⟩] := by rw [hI]; rfl
  have hm1 : I.len (I.app L [EV.row ⟨n, i, true, w⟩]) * 32 ≤ 140737488355328 := by rw [hap, hI]; simp [ints]; omega
  have hm2 : I.len (I.app L [EV.row ⟨n, i, true, w⟩]) ≤ 140737488355328 := by rw [hap, hI]; simp [ints]; omega
  refine fn_sim hI (mo hp) (cc hp c12) fun Post hP => ?_
  cbv
  refine .most hm1 hm2 ?_
  cbv
  exact hP _ _ [0, 1, 3] [] _ _ (by decide) rfl rfl rfl rfl rfl ⟨_, hap, rfl, rfl⟩
theorem cloneE (l : List (List G)) (hl : l.length ≤ 1000000) : LValid P 18 [.c (.bor 4 l)] [] (fun v m1 => v = .one (.c (.row 0 4 none)) ∧ m1 = [.sym 4 l]) := by
  refine LValid.own (R := fun v m1 => (v = .one (.c (.row 0 4 none)) ∧ m1 = [.sym 4 l]) ∨ (v = .one (.c (.g .nil)) ∧ m1 = [] ∧ l = [])) 4 ?_ (fun v m1 h => h.imp id (fun ⟨h1, h2, h3⟩ => ⟨h1, by rw [h2, h3]; exact ⟨rfl, rfl⟩⟩))
  obtain ⟨I, hI⟩ := ref
  refine fn_sim hI (mo hp) (cc hp c18) fun Post hP => ?_
  cbv
  refine .isnil (fun h => ?_) ?_
  · cbv
    exact hP _ _ [] [] _ _ .nil rfl rfl rfl rfl rfl (.inr ⟨rfl, rfl, h⟩)
  · cbv
    refine .most (by simp [hI, ints]; omega) (by simp [hI, ints]; omega) ?_
    cbv
    exact hP _ _ [1] [] _ _ (by decide) rfl rfl rfl rfl rfl (.inl ⟨rfl, by rw [hI]; rfl⟩)
theorem copyE (l : List (List G)) (hl : l.length ≤ 1000000) : LValid P 10 [.c (.bor 4 l)] [] (fun v m1 => v = .one (.c (.row 0 4 none)) ∧ m1 = [.sym 4 l]) := by
  obtain ⟨I, hI⟩ := ref
  refine fn_sim hI (mo hp) (cc hp c10) fun Post hP => ?_
  cbv
  refine .most (by simp [hI, ints]; omega) (by simp [hI, ints]; omega) ?_
  cbv
  exact hP _ _ [0] [] _ _ (by decide) rfl rfl rfl rfl rfl ⟨rfl, rfl⟩
theorem events (L : List (List G)) (hl : L.length ≤ 1000000) : LValid P 15 [.c (.ptr 0 (.lit 0) 1 0)] [tr (.row 1 4 none), .sym 4 L]
    (fun v m1 => v = .one (.c (.row 2 4 none)) ∧ m1 = [tr (.row 1 4 none), .sym 4 L, .sym 4 L]) := by
  obtain ⟨I, hI⟩ := ref
  refine fn_sim hI (mo hp) (cc hp c15) fun Post hP => ?_
  cbv
  refine .go [] [] [.bor 4] (cloneE hp L hl) rfl rfl rfl rfl rfl rfl ?_
  rintro v m1 ⟨rfl, rfl⟩
  cbv
  exact hP _ _ [0, 1, 2] [] _ _ (by decide) rfl rfl rfl rfl rfl ⟨rfl, rfl⟩
theorem len_ (L : List (List G)) : LValid P 16 [.c (.ptr 0 (.lit 0) 1 0)] [tr (.row 1 4 none), .sym 4 L]
    (fun v m1 => ∃ t, isN t L.length ∧ v = i64 t ∧ m1 = [tr (.row 1 4 none), .sym 4 L]) := by
  obtain ⟨I, hI⟩ := ref
  refine fn_sim hI (mo hp) (cc hp c16) fun Post hP => ?_
  cbv
  have hX : isN (I.ofNat (I.len L)) L.length := by rw [hI]; rfl
  exact hP _ _ [0, 1] [] _ _ (by decide) rfl rfl rfl rfl rfl ⟨_, hX, rfl, rfl⟩
theorem wakes : LValid P 9 [] [] (fun v m1 => v = boo true ∧ m1 = []) := by
  refine LValid.boo ?_
  obtain ⟨I, hI⟩ := ref
  refine fn_sim hI (mo hp) (cc hp c9) fun Post hP => ?_
  cbv
  refine .go [] [] [] (new hp) rfl rfl rfl rfl rfl rfl ?_
  rintro v m1 ⟨rfl, rfl⟩
  cbv
  refine .go [] [] [.keep, .bor 4] (right_ hp (.lit 0) [] [] rfl (by simp)) rfl rfl rfl rfl rfl rfl ?_
  rintro v m1 ⟨t, ht, rfl, rfl⟩
  have ht : t = true := ht
  cbv
  refine br_t ht ?_
  cbv
  refine .go [0, 1] [] [] (len_ hp []) rfl rfl rfl rfl rfl rfl ?_
  rintro v m1 ⟨t1, ht1, rfl, rfl⟩
  have ht1 : t1 = 0 := ht1
  cbv
  refine br_t (by rw [ht1, hI]; rfl) ?_
  cbv
  refine .go [] [] [.keep, .bor 4] (right_ hp (.lit 1) [EV.row ⟨0, 0, false, 0⟩] [⟨0, 0, false, 0⟩] rfl (by simp)) rfl rfl rfl rfl rfl rfl ?_
  rintro v m1 ⟨t2, ht2, rfl, rfl⟩
  have ht2 : t2 = true := ht2
  cbv
  refine br_t ht2 ?_
  cbv
  refine .go [] [] [.keep, .bor 4] (right_ hp (.lit 1) [EV.row ⟨0, 0, true, 0⟩] [⟨0, 0, true, 0⟩] rfl (by simp)) rfl rfl rfl rfl rfl rfl ?_
  rintro v m1 ⟨t3, ht3, rfl, rfl⟩
  have ht3 : t3 = false := ht3
  cbv
  exact hP _ _ [] [] _ _ .nil rfl rfl rfl rfl rfl ⟨_, rfl, by rw [ht3, hI]; rfl, rfl⟩
theorem sameE (a b : List (List G)) (xs ys : List EV) (ha : isE a xs) (hb : isE b ys) (hla : xs.length ≤ 1000000) : LValid P 14 [.c (.bor 4 a), .c (.bor 4 b)] [] (fun v m1 => ∃ t, t = (xs == ys) ∧ v = boo t ∧ m1 = []) := by
  refine bx (LValid.boo ?_)
  obtain ⟨I, hI⟩ := ref
  refine fn_sim hI (mo hp) (cc hp c14) fun Post hP => ?_
  have hea : I.len a = xs.length := by rw [hI]; exact ha.len
  have heb : I.len b = ys.length := by rw [hI]; exact hb.len
  have evq := fun x y : EV => ev_eq hI x y
  cbv
  refine .br (fun h => ?_) (fun h => ?_)
  · cbv
    have h : xs.length ≠ ys.length := by
      have : ((xs.length : Nat) : Int) ≠ (ys.length : Nat) := by
        have h' : rCmp .neq ((I.len a : Nat) : Int) ((I.len b : Nat) : Int) = true := by rw [hI] at h ⊢; exact h
        rw [hea, heb] at h'
        simpa [rCmp] using h'
      omega
    exact hP _ _ [] [] _ _ .nil rfl rfl rfl rfl rfl ⟨_, rfl, by
      have : xs ≠ ys := fun e => h (by rw [e])
      simp [BB.val, this], rfl⟩
  · cbv
    have h : xs.length = ys.length := by
      have : ((xs.length : Nat) : Int) = (ys.length : Nat) := by
        have h' : rCmp .neq ((I.len a : Nat) : Int) ((I.len b : Nat) : Int) = false := by rw [hI] at h ⊢; exact h
        rw [hea, heb] at h'
        simpa [rCmp] using h'
      omega
    refine .loop_next (fun n ts m => ∃ (i : Nat) (z : Int), n = xs.length - i ∧ isN z i ∧ i ≤ xs.length ∧ xs.take i = ys.take i ∧ ts = fr 26 [(0, .one (.c (.bor 4 a))), (1, .one (.c (.bor 4 b))), (5, i64 z)] ∧ m = [])
      xs.length _ _ [] [] [0, 1, 5] (by decide) rfl rfl rfl ⟨0, 0, rfl, rfl, Nat.zero_le _, rfl, rfl, rfl⟩ ?_
    rintro next n hnext ts m ⟨i, z, hn, hz, hi, ht, rfl, rfl⟩
    cbv
    refine .br (fun h1 => ?_) (fun h1 => ?_)
    · have h1 : i < xs.length := by
        have h' : rCmp .lss z ((I.len a : Nat) : Int) = true := by rw [hI] at h1 ⊢; exact h1
        rw [hea] at h'
        have : z < (xs.length : Nat) := by simpa [rCmp] using h'
        unfold isN at hz
        omega
      cbv
      refine .drawn [] ?_
      cbv
      obtain ⟨x, hx⟩ : ∃ x, xs[i]? = some x := ⟨_, List.getElem?_eq_getElem h1⟩
      obtain ⟨y, hy⟩ : ∃ y, ys[i]? = some y := ⟨_, List.getElem?_eq_getElem (h ▸ h1)⟩
      have hxa := ha.get hx
      have hyb := hb.get hy
      have hev := evq x y
      refine .idx i hz (by have : i < I.len a := by rw [hea]; exact h1
                           exact this) (.nth _ hxa ?_)
      cbv
      refine .idx i hz (by have : i < I.len b := by rw [heb]; omega
                           exact this) (.nth _ hyb ?_)
      cbv
      refine .br (fun h2 => ?_) (fun h2 => ?_)
      · have h2 : I.not (I.and (I.cmp .eql x.n y.n) (I.and (I.cmp .eql x.i y.i) (I.and (I.beq x.d y.d) (I.cmp .eql x.v y.v)))) = true := h2
        have h2 : x ≠ y := by
          have hev : I.and (I.cmp .eql x.n y.n) (I.and (I.cmp .eql x.i y.i) (I.and (I.beq x.d y.d) (I.cmp .eql x.v y.v))) = (x == y) := hev
          rw [hev, hI] at h2
          simpa [ints] using h2
        cbv
        exact hP _ _ [] [] _ _ .nil rfl rfl rfl rfl rfl ⟨_, rfl, by
          have : xs ≠ ys := fun e => h2 (by rw [e, hy] at hx; exact (Option.some.inj hx).symm)
          simp [BB.val, this], rfl⟩
      · have h2 : I.not (I.and (I.cmp .eql x.n y.n) (I.and (I.cmp .eql x.i y.i) (I.and (I.beq x.d y.d) (I.cmp .eql x.v y.v)))) = false := h2
        have h2 : x = y := by
          have hev : I.and (I.cmp .eql x.n y.n) (I.and (I.cmp .eql x.i y.i) (I.and (I.beq x.d y.d) (I.cmp .eql x.v y.v))) = (x == y) := hev
          rw [hev, hI] at h2
          simpa [ints] using h2
        cbv
        have hz1 : isN (I.bin .add .i64 z 1) (i + 1) := by unfold isN at hz ⊢; rw [hI]; simp only [ints, rBin]; rw [wrap_in] <;> omega
        refine hnext _ _ (xs.length - (i + 1)) [] [] [0, 1, 5] _ _ (by omega) (by decide) rfl rfl rfl ⟨i + 1, _, rfl, hz1, h1, ?_, rfl, rfl⟩
        rw [List.take_add_one, List.take_add_one, ht, hx, hy, h2]
    · have h1 : ¬ i < xs.length := by
        have h' : rCmp .lss z ((I.len a : Nat) : Int) = false := by rw [hI] at h1 ⊢; exact h1
        rw [hea] at h'
        have : ¬ z < (xs.length : Nat) := by simpa [rCmp] using h'
        unfold isN at hz
        omega
      cbv
      exact hP _ _ [] [] _ _ .nil rfl rfl rfl rfl rfl ⟨_, rfl, by
        rw [List.take_of_length_le (by omega), List.take_of_length_le (by omega)] at ht
        simp [BB.val, ht], rfl⟩
end
end Go.Proofs.Ytbfolphodlkmkaa.E
