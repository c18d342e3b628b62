/- Contracts: bytes: Copy, Cut, Same, Clone, Equal, Concat; sums, seals. -/
import Derived.Test.YtccfcenhpmdemaaQA
import Derived.Test.YtccfcenhpmdemaaCN
namespace Go.Proofs.Ytccfcenhpmdemaa.E
open Go
set_option linter.unusedVariables false
set_option maxRecDepth 100000

/-- Rows of bytes. -/
def isB (l : List (List G)) (bs : List (BitVec 8)) : Prop := l = nrow .u8 (bs.map w8)
theorem isB.isL {l : List (List G)} {bs : List (BitVec 8)} (h : isB l bs) : isL .u8 l (bs.map w8) := h
theorem isB.len {l : List (List G)} {bs : List (BitVec 8)} (h : isB l bs) : l.length = bs.length := by rw [h]; simp [nrow]
theorem isB.get {l : List (List G)} {bs : List (BitVec 8)} (h : isB l bs) {i : Nat} {b : BitVec 8} (hb : bs[i]? = some b) : l[i]? = some [.int .u8 (.sym (w8 b))] := by rw [h]; simp [nrow, hb]
theorem isB.take {l : List (List G)} {bs : List (BitVec 8)} (h : isB l bs) (n : Nat) : isB (l.take n) (bs.take n) := by unfold isB at h ⊢; rw [h]; simp [nrow, List.map_take]
theorem isB.app {l r : List (List G)} {bs cs : List (BitVec 8)} (h : isB l bs) (g : isB r cs) : isB (l ++ r) (bs ++ cs) := by unfold isB at h g ⊢; rw [h, g]; simp [nrow]
theorem nums_gNum (l : List (BitVec 8)) : (nrow .u8 (l.map w8)).map gNum = l.map w8 := by
  induction l with
  | nil => rfl
  | cons a l ih => exact congrArg (w8 a :: ·) ih
theorem isB.inj {l : List (List G)} {bs cs : List (BitVec 8)} (h : isB l bs) (g : isB l cs) : bs = cs := by
  unfold isB at h g
  rw [h] at g
  have h1 : (nrow .u8 (bs.map w8)).map gNum = (nrow .u8 (cs.map w8)).map gNum := by rw [g]
  have h2 := nums_gNum
  rw [h2, h2] at h1
  exact (List.map_inj_right (fun a b e => w8_inj e)).1 h1
theorem eq_map_w8 (bs cs : List (BitVec 8)) : (bs.map w8 == cs.map w8) = (bs == cs) := by
  by_cases h : bs = cs
  · simp [h]
  · have : bs.map w8 ≠ cs.map w8 := fun e => h ((List.map_inj_right (fun a b e => w8_inj e)).1 e)
    rw [beq_eq_false_iff_ne.2 this, beq_eq_false_iff_ne.2 h]
theorem rowsB {xs : List Int} (h : ∀ y ∈ xs, (Lit.int .u8 y).wf = true) : ∃ bs : List (BitVec 8), isB (nrow .u8 xs) bs ∧ bs.length = xs.length := by
  refine ⟨xs.map (BitVec.ofInt 8), ?_, by simp⟩
  unfold isB
  congr 1
  rw [List.map_map]
  have : ∀ x ∈ xs, (w8 ∘ BitVec.ofInt 8) x = id x := fun x hx => by
    have h1 := h x hx
    have h2 : (decide (IntKind.u8.min ≤ x) && decide (x ≤ IntKind.u8.max)) = true := h1
    rw [show IntKind.u8.min = 0 from rfl, show IntKind.u8.max = 255 from rfl] at h2
    have h3 : 0 ≤ x ∧ x ≤ 255 := by simpa using h2
    show ((BitVec.ofInt 8 x).toNat : Int) = x
    rw [BitVec.toNat_ofInt]
    have : x % (((2 ^ 8 : Nat)) : Int) = x := Int.emod_eq_of_lt h3.1 (by show x < 256; omega)
    rw [this]
    omega
  rw [List.map_congr_left this, List.map_id]
theorem strNums_len : ∀ (l : List Int) , (strOfNums l).toList = l.map fun n => UInt8.ofNat n.toNat := by
  intro l
  simp [strOfNums]
theorem seqB {a b : List (List G)} {us bs : List (BitVec 8)} (ha : isB a us) (hb : isB b bs) : ints.seq (ints.b2s a) (ints.b2s b) = (us == bs) := by
  have h2 := nums_gNum
  show ((strOfNums (a.map gNum)).toList == (strOfNums (b.map gNum)).toList) = _
  rw [ha, hb, h2, h2, strNums_len, strNums_len]
  have h3 : ∀ l : List (BitVec 8), (l.map w8).map (fun n => UInt8.ofNat n.toNat) = l.map fun c => UInt8.ofBitVec c := fun l => by
    rw [List.map_map]
    refine List.map_congr_left fun c _ => ?_
    apply UInt8.toNat_inj.1
    have := c.isLt
    simp [w8]
  rw [h3, h3]
  by_cases h : us = bs
  · simp [h]
  · have : us.map (fun c => UInt8.ofBitVec c) ≠ bs.map (fun c => UInt8.ofBitVec c) := fun e => h ((List.map_inj_right (fun a b e => by simpa using e)).1 e)
    rw [beq_eq_false_iff_ne.2 this, beq_eq_false_iff_ne.2 h]
theorem isB.bytes {l : List (List G)} {bs : List (BitVec 8)} (h : isB l bs) : ∀ (i : Nat) (r : List G), l[i]? = some r → ∃ z, r = [.int .u8 z] := fun i r hi => by
  rw [h] at hi
  obtain ⟨x, rfl⟩ := nrow_get _ _ _ _ hi
  exact ⟨_, rfl⟩
section
variable {P : Program} (hp : P = Try.prog)
include hp
theorem sameB (a b : List (List G)) (xs ys : List Int) (ha : isL .u8 a xs) (hb : isL .u8 b ys) (hla : a.length * 8 ≤ 140737488355328) : LValid P 13 [.c (.bor 1 a), .c (.bor 1 b)] [] (fun v m1 => ∃ t, t = (xs == ys) ∧ v = boo t ∧ m1 = []) := by
  refine bx (LValid.boo ?_)
  obtain ⟨I, hI⟩ := ref
  refine fn_sim hI (mo hp) (cc hp c13) fun Post hP => ?_
  have hea : I.len a = xs.length := by rw [hI]; exact ha.len
  have heb : I.len b = ys.length := by rw [hI]; exact hb.len
  have hlx : xs.length * 8 ≤ 140737488355328 := by rw [← ha.len]; exact hla
  cbv
  refine .br (fun h => ?_) (fun h => ?_)
  · cbv
    have h : xs.length ≠ ys.length := by
      have : ((xs.length : Nat) : Int) ≠ (ys.length : Nat) := by
        have h' : rCmp .neq ((I.len a : Nat) : Int) ((I.len b : Nat) : Int) = true := by rw [hI] at h ⊢; exact h
        rw [hea, heb] at h'
        simpa [rCmp] using h'
      omega
    exact hP _ _ [] [] _ _ .nil rfl rfl rfl rfl rfl ⟨_, rfl, by
      have : xs ≠ ys := fun e => h (by rw [e])
      simp [BB.val, this], rfl⟩
  · cbv
    have h : xs.length = ys.length := by
      have : ((xs.length : Nat) : Int) = (ys.length : Nat) := by
        have h' : rCmp .neq ((I.len a : Nat) : Int) ((I.len b : Nat) : Int) = false := by rw [hI] at h ⊢; exact h
        rw [hea, heb] at h'
        simpa [rCmp] using h'
      omega
    refine .loop_next (fun n ts m => ∃ (i : Nat) (z : Int), n = xs.length - i ∧ isN z i ∧ i ≤ xs.length ∧ xs.take i = ys.take i ∧ ts = fr 26 [(0, .one (.c (.bor 1 a))), (1, .one (.c (.bor 1 b))), (5, i64 z)] ∧ m = [])
      xs.length _ _ [] [] [0, 1, 5] (by decide) rfl rfl rfl ⟨0, 0, rfl, rfl, Nat.zero_le _, rfl, rfl, rfl⟩ ?_
    rintro next n hnext ts m ⟨i, z, hn, hz, hi, ht, rfl, rfl⟩
    cbv
    refine .br (fun h1 => ?_) (fun h1 => ?_)
    · have h1 : i < xs.length := by
        have h' : rCmp .lss z ((I.len a : Nat) : Int) = true := by rw [hI] at h1 ⊢; exact h1
        rw [hea] at h'
        have : z < (xs.length : Nat) := by simpa [rCmp] using h'
        unfold isN at hz
        omega
      cbv
      refine .drawn [] ?_
      cbv
      obtain ⟨x, hx⟩ : ∃ x, xs[i]? = some x := ⟨_, List.getElem?_eq_getElem h1⟩
      obtain ⟨y, hy⟩ : ∃ y, ys[i]? = some y := ⟨_, List.getElem?_eq_getElem (h ▸ h1)⟩
      have hxa : a[i]? = some [.int .u8 (.sym x)] := by rw [ha.get, hx]; rfl
      have hyb : b[i]? = some [.int .u8 (.sym y)] := by rw [hb.get, hy]; rfl
      refine .idx i hz (by have : i < I.len a := by rw [hea]; exact h1
                           exact this) (.nth _ hxa ?_)
      cbv
      refine .idx i hz (by have : i < I.len b := by rw [heb]; omega
                           exact this) (.nth _ hyb ?_)
      cbv
      refine .br (fun h2 => ?_) (fun h2 => ?_)
      · have h2 : x ≠ y := by simpa [hI, ints, rCmp] using h2
        cbv
        exact hP _ _ [] [] _ _ .nil rfl rfl rfl rfl rfl ⟨_, rfl, by
          have : xs ≠ ys := fun e => h2 (by rw [e, hy] at hx; exact (Option.some.inj hx).symm)
          simp [BB.val, this], rfl⟩
      · have h2 : x = y := by simpa [hI, ints, rCmp] using h2
        cbv
        have hz1 : isN (I.bin .add .i64 z 1) (i + 1) := by unfold isN at hz ⊢; rw [hI]; simp only [ints, rBin]; rw [wrap_in] <;> omega
        refine hnext _ _ (xs.length - (i + 1)) [] [] [0, 1, 5] _ _ (by omega) (by decide) rfl rfl rfl ⟨i + 1, _, rfl, hz1, h1, ?_, rfl, rfl⟩
        rw [List.take_add_one, List.take_add_one, ht, hx, hy, h2]
    · have h1 : ¬ i < xs.length := by
        have h' : rCmp .lss z ((I.len a : Nat) : Int) = false := by rw [hI] at h1 ⊢; exact h1
        rw [hea] at h'
        have : ¬ z < (xs.length : Nat) := by simpa [rCmp] using h'
        unfold isN at hz
        omega
      cbv
      exact hP _ _ [] [] _ _ .nil rfl rfl rfl rfl rfl ⟨_, rfl, by
        rw [List.take_of_length_le (by omega), List.take_of_length_le (by omega)] at ht
        simp [BB.val, ht], rfl⟩
theorem cloneB (l : List (List G)) (hl : l.length ≤ 140737488355328) : LValid P 46 [.c (.bor 1 l)] [] (fun v m1 => v = .one (.c (.row 0 1 none)) ∧ m1 = [.sym 1 l]) := by
  refine LValid.own (R := fun v m1 => (v = .one (.c (.row 0 1 none)) ∧ m1 = [.sym 1 l]) ∨ (v = .one (.c (.g .nil)) ∧ m1 = [] ∧ l = [])) 1 ?_ (fun v m1 h => h.imp id (fun ⟨h1, h2, h3⟩ => ⟨h1, by rw [h2, h3]; exact ⟨rfl, rfl⟩⟩))
  obtain ⟨I, hI⟩ := ref
  have hm : I.app [] l = l := by rw [hI]; rfl
  refine fn_sim hI (mo hp) (cc hp c46) fun Post hP => ?_
  cbv
  refine .isnil (fun h => ?_) ?_
  · cbv
    exact hP _ _ [] [] _ _ .nil rfl rfl rfl rfl rfl (.inr ⟨rfl, rfl, h⟩)
  · cbv
    refine .most (show I.len (I.app [] l) * 1 ≤ _ from by rw [hm]; simpa [hI, ints] using hl) (show I.len (I.app [] l) ≤ _ from by rw [hm]; simp [hI, ints]; omega) ?_
    cbv
    exact hP _ _ [1] [] _ _ (by decide) rfl rfl rfl rfl rfl (.inl ⟨rfl, show [Blk.sym 1 (I.app [] l)] = _ from by rw [hm]⟩)
theorem equalB (a b : List (List G)) (us bs : List (BitVec 8)) (ha : isB a us) (hb : isB b bs) : LValid P 43 [.c (.bor 1 a), .c (.bor 1 b)] [] (fun v m1 => ∃ t, t = (us == bs) ∧ v = boo t ∧ m1 = []) := by
  obtain ⟨I, hI⟩ := ref
  have hX : I.seq (I.b2s a) (I.b2s b) = (us == bs) := by rw [hI]; exact seqB ha hb
  refine fn_sim hI (mo hp) (cc hp c43) fun Post hP => ?_
  cbv
  refine .bytes ha.bytes ?_
  cbv
  refine .bytes hb.bytes ?_
  cbv
  exact hP _ _ [] [] _ _ .nil rfl rfl rfl rfl rfl ⟨_, hX, rfl, rfl⟩
theorem growB (z : Int) (n : Nat) (hz : isN z n) (h0 : 0 < n) (hn : n ≤ 140737488355328) : LValid P 45 [.c (.g .nil), .c (.g (.int .i64 (.sym z)))] [] (fun v m1 => ∃ l, v = .one (.c (.sl 0 (.lit 0) 1 (.lit 0) none)) ∧ m1 = [.sym 1 l]) := by
  obtain ⟨I, hI⟩ := ref
  have hX : I.bin .sub .i64 z 0 = (n : Int) := by
    unfold isN at hz
    rw [hI, hz]
    show IntKind.i64.wrap ((n : Int) - 0) = _
    rw [wrap_in] <;> omega
  have hne : I.bin .sub .i64 z 0 ≠ 0 := by rw [hX]; omega
  refine fn_sim hI (mo hp) (cc hp c45) fun Post hP => ?_
  cbv
  refine br_f (by unfold isN at hz; rw [hI, hz]; simp [ints, rCmp]) ?_
  cbv
  refine br_t (show I.cmp .gtr (I.bin .sub .i64 z 0) 0 = true from by rw [hX, hI]; simp [ints, rCmp]; omega) ?_
  cbv
  refine .nz hne (.size n hX (show n * 1 ≤ 140737488355328 from by omega) ?_)
  cbv
  refine .most (show n * 1 ≤ 140737488355328 from by omega) (by omega) ?_
  cbv
  refine .rng 0 0 rfl rfl (Nat.le_refl _) (Nat.zero_le _) ?_
  cbv
  exact hP _ _ [0] [] _ _ (by decide) rfl rfl rfl rfl rfl ⟨_, rfl, rfl⟩
theorem concat2 (a Y : List (List G)) (hY : Y.length = 2) (hl : a.length ≤ 140737488351250) : LValid P 35 [.c (.row 0 1 (some (.lit 2)))] [.lit 1 [[.bor 1 a], [.g (.rows 1 Y)]]] (fun v m1 => v = .one (.c (.row 1 1 none)) ∧ m1 = [.dead, .sym 1 (a ++ Y)]) := by
  obtain ⟨I, hI⟩ := ref
  refine fn_simk hI (mo hp) (cc hp c35) fun Post hP => ?_
  have hal : I.len a = a.length := by rw [hI]; rfl
  have hYl : I.ofNat (I.len Y) = 2 := by rw [hI]; show ((Y.length : Nat) : Int) = 2; rw [hY]; rfl
  obtain ⟨M, hM⟩ : ∃ M : Nat → Mem, M = fun _ => [.lit 1 [[.bor 1 a], [.g (.rows 1 Y)]]] := ⟨_, rfl⟩
  cbv
  refine .loop_next (fun n ts m => ∃ (k : Nat) (z s c : Int), n = 2 - k ∧ isN z k ∧ k ≤ 2 ∧ isN c 2 ∧ isN s (if k = 0 then 0 else if k = 1 then a.length else a.length + 2) ∧
      ts = fr 36 [(0, .one (.c (.row 0 1 (some (.lit 2))))), (3, i64 s), (9, .one (.c (.row 0 1 (some (.lit 2))))), (10, i64 c), (11, i64 z)] ∧ m = [.lit 1 [[.bor 1 a], [.g (.rows 1 Y)]]])
    2 _ _ [0] [] [0, 3, 9, 10, 11] (by decide) rfl rfl rfl ⟨0, 0, 0, 2, rfl, rfl, by omega, rfl, rfl, rfl, rfl⟩ ?_
  rintro next n hnext ts m ⟨k, z, s, c, hn, hz, hk, hc, hs, rfl, rfl⟩
  have hz1 : isN (I.bin .add .i64 z 1) (k + 1) := by unfold isN at hz ⊢; rw [hI]; simp only [ints, rBin]; rw [wrap_in] <;> omega
  cbv
  refine .br (fun g1 => ?_) (fun g1 => ?_)
  · have hk1 : k < 2 := by
      have : z < c := by simpa [hI, ints, rCmp] using g1
      unfold isN at hz hc
      omega
    match k, hk1 with
    | 0, _ =>
      have hs1 : isN (I.bin .add .i64 s (I.ofNat (I.len a))) a.length := by
        have hs : s = 0 := hs
        unfold isN
        rw [hal, hI, hs]
        simp only [ints, rBin]
        rw [wrap_in] <;> omega
      cbv
      refine .idx 0 hz (by decide) ?_
      cbv
      refine br_f (show I.cmp .lss (I.bin .add .i64 s (I.ofNat (I.len a))) 0 = false from by unfold isN at hs1; rw [hs1, hI]; simp [ints, rCmp]) ?_
      cbv
      exact hnext _ _ 1 [0] [] [0, 3, 9, 10, 11] _ _ (by omega) (by decide) rfl rfl rfl ⟨1, _, _, c, rfl, hz1, by omega, hc, hs1, rfl, rfl⟩
    | 1, _ =>
      have hs1 : isN (I.bin .add .i64 s (I.ofNat (I.len Y))) (a.length + 2) := by
        have hs : s = (a.length : Int) := hs
        unfold isN
        rw [hYl, hI, hs]
        simp only [ints, rBin]
        rw [wrap_in] <;> omega
      cbv
      refine .idx 1 hz (by decide) ?_
      cbv
      refine br_f (show I.cmp .lss (I.bin .add .i64 s (I.ofNat (I.len Y))) 0 = false from by unfold isN at hs1; rw [hs1, hI]; simp [ints, rCmp]; omega) ?_
      cbv
      exact hnext _ _ 0 [0] [] [0, 3, 9, 10, 11] _ _ (by omega) (by decide) rfl rfl rfl ⟨2, _, _, c, rfl, hz1, by omega, hc, hs1, rfl, rfl⟩
  have hk2 : k = 2 := by
    have : ¬ z < c := by simpa [hI, ints, rCmp] using g1
    unfold isN at hz hc
    omega
  subst hk2
  have hs : isN s (a.length + 2) := hs
  cbv
  refine .go [] [] [] (growB hp s (a.length + 2) hs (by omega) (by omega)) rfl rfl rfl rfl rfl rfl ?_
  rintro v m1 ⟨l0, rfl, rfl⟩
  have hap1 : I.app (I.ext l0 0 0) a = a := by rw [hI]; simp [ints]
  have hap2 : I.app a Y = a ++ Y := by rw [hI]; rfl
  have hln2 : I.len (a ++ Y) = a.length + 2 := by rw [hI]; simp [ints, hY]
  cbv
  clear hnext
  refine .loop_next (fun n ts m => ∃ (k : Nat) (z c : Int) (q : C) (l : List (List G)), n = 2 - k ∧ isN z k ∧ k ≤ 2 ∧ isN c 2 ∧ ((k = 0 ∧ q = .sl 1 (.lit 0) 1 (.lit 0) none) ∨ (k = 1 ∧ q = .row 1 1 none ∧ l = a) ∨ (k = 2 ∧ q = .row 1 1 none ∧ l = a ++ Y)) ∧
      ts = fr 36 [(6, .one (.c q)), (25, .one (.c (.row 0 1 (some (.lit 2))))), (26, i64 c), (27, i64 z)] ∧ m = [.lit 1 [[.bor 1 a], [.g (.rows 1 Y)]], .sym 1 l])
    2 _ _ [0, 1] [] [6, 25, 26, 27] (by decide) rfl rfl rfl ⟨0, 0, 2, _, l0, rfl, rfl, by omega, rfl, .inl ⟨rfl, rfl⟩, rfl, rfl⟩ ?_
  rintro next n hnext ts m ⟨k, z, c, q, l, hn, hz, hk, hc, hq, rfl, rfl⟩
  have hz1 : isN (I.bin .add .i64 z 1) (k + 1) := by unfold isN at hz ⊢; rw [hI]; simp only [ints, rBin]; rw [wrap_in] <;> omega
  rcases hq with ⟨rfl, rfl⟩ | ⟨rfl, rfl, rfl⟩ | ⟨rfl, rfl, hl2⟩
  · cbv
    refine br_t (by unfold isN at hz hc; rw [hI, hz, hc]; rfl) ?_
    cbv
    refine .idx 0 hz (by decide) ?_
    cbv
    have hap0 : I.app (I.ext l 0 0) a = a := by rw [hI]; simp [ints]
    refine .most (show I.len (I.app (I.ext l 0 0) a) * 1 ≤ 140737488355328 from by rw [hap0, hal]; omega) (show I.len (I.app (I.ext l 0 0) a) ≤ 140737488355328 from by rw [hap0, hal]; omega) ?_
    cbv
    exact hnext _ _ 1 [0, 2] [] [6, 25, 26, 27] _ _ (by omega) (by decide) rfl rfl rfl ⟨1, _, c, _, _, rfl, hz1, by omega, hc, .inr (.inl ⟨rfl, rfl, hap0⟩), rfl, rfl⟩
  · cbv
    refine br_t (by unfold isN at hz hc; rw [hI, hz, hc]; rfl) ?_
    cbv
    refine .idx 1 hz (by decide) ?_
    cbv
    refine .most (show I.len (I.app l Y) * 1 ≤ 140737488355328 from by rw [hap2, hln2]; omega) (show I.len (I.app l Y) ≤ 140737488355328 from by rw [hap2, hln2]; omega) ?_
    cbv
    exact hnext _ _ 0 [0, 2] [] [6, 25, 26, 27] _ _ (by omega) (by decide) rfl rfl rfl ⟨2, _, c, _, _, rfl, hz1, by omega, hc, .inr (.inr ⟨rfl, rfl, hap2⟩), rfl, rfl⟩
  · cbv
    refine br_f (by unfold isN at hz hc; rw [hI, hz, hc]; rfl) ?_
    cbv
    exact hP _ _ [0, 1] [] [0] _ _ (by decide) rfl rfl rfl rfl rfl ⟨rfl, by rw [← hl2]; rfl⟩
theorem sum (l : List (List G)) (bs : List (BitVec 8)) (hl : isB l bs) (hn : bs.length ≤ 140737488351250) : LValid P 34 [.c (.bor 1 l)] [] (fun v m1 => ∃ t, t = w16 (crcSum bs) ∧ v = u16 t ∧ m1 = []) := by
  obtain ⟨I, hI⟩ := ref
  have hle : I.len l = bs.length := by rw [hI]; exact hl.len
  refine fn_sim hI (mo hp) (cc hp c34) fun Post hP => ?_
  cbv
  refine .loop_next (fun n ts m => ∃ (i : Nat) (z c s : Int), n = bs.length - i ∧ isN z i ∧ isN c bs.length ∧ i ≤ bs.length ∧ s = w16 (sumFrom 0xffff#16 (bs.take i)) ∧
      ts = fr 30 [(3, u16 s), (7, .one (.c (.bor 1 l))), (8, i64 c), (9, i64 z)] ∧ m = [])
    bs.length _ _ [] [] [3, 7, 8, 9] (by decide) rfl rfl rfl ⟨0, 0, I.ofNat (I.len l), 65535, rfl, rfl, by rw [hle, hI]; rfl, Nat.zero_le _, rfl, rfl, rfl⟩ ?_
  rintro next n hnext ts m ⟨i, z, c, s, hn, hz, hc, hi, hs, rfl, rfl⟩
  cbv
  refine .br (fun g1 => ?_) (fun g1 => ?_)
  · have hi1 : i < bs.length := by
      have : z < c := by simpa [hI, ints, rCmp] using g1
      unfold isN at hz hc
      omega
    obtain ⟨b, hb⟩ : ∃ b, bs[i]? = some b := ⟨_, List.getElem?_eq_getElem hi1⟩
    have hr := hl.get hb
    have hz1 : isN (I.bin .add .i64 z 1) (i + 1) := by unfold isN at hz ⊢; rw [hI]; simp only [ints, rBin]; rw [wrap_in] <;> omega
    have htk : bs.take (i + 1) = bs.take i ++ [b] := by rw [List.take_add_one, hb]; rfl
    generalize hwb : w8 b = wb at hr
    cbv
    refine .idx i hz (show i < I.len l from by rw [hle]; exact hi1) (.nth _ hr ?_)
    cbv
    obtain ⟨σ, hσ⟩ : ∃ σ, σ = sumFrom 0xffff#16 (bs.take i) ^^^ (b.setWidth 16 <<< 8) := ⟨_, rfl⟩
    have hs1 : I.bin .xor .u16 s (I.bin .shl .u16 (I.conv .u16 wb) 8) = w16 (bsteps 0 σ) := by
      rw [hI, hs, ← hwb]
      show rBin .xor .u16 _ (rBin .shl .u16 (IntKind.u16.wrap (w8 b)) ((8 : Nat) : Int)) = _
      rw [wide, shl16 _ 8 (by omega), xor16, hσ]
      rfl
    have hend : bsteps 8 σ = sumFrom 0xffff#16 (bs.take (i + 1)) := by rw [htk, sumFrom_app, hσ]; rfl
    refine .loop_next (fun n ts m => ∃ (j : Nat) (y s : Int), n = 8 - j ∧ isN y j ∧ j ≤ 8 ∧ s = w16 (bsteps j σ) ∧
        ts = fr 30 [(3, u16 s), (7, .one (.c (.bor 1 l))), (8, i64 c), (9, i64 z), (18, i64 y)] ∧ m = [])
      8 _ _ [] [] [3, 7, 8, 9, 18] (by decide) rfl rfl rfl ⟨0, 0, _, rfl, rfl, by omega, hs1, rfl, rfl⟩ ?_
    rintro next2 n2 hnext2 ts m ⟨j, y, s2, hn2, hy, hj, hs2, rfl, rfl⟩
    cbv
    refine .br (fun g2 => ?_) (fun g2 => ?_)
    · have hj1 : j < 8 := by
        have : y < 8 := by simpa [hI, ints, rCmp] using g2
        unfold isN at hy
        omega
      have hy1 : isN (I.bin .add .i64 y 1) (j + 1) := by unfold isN at hy ⊢; rw [hI]; simp only [ints, rBin]; rw [wrap_in] <;> omega
      have hs3 : I.bin .xor .u16 (I.bin .shl .u16 s2 1) (I.bin .mul .u16 (I.bin .shr .u16 s2 15) 4129) = w16 (bsteps (j + 1) σ) := by
        rw [hI, hs2, bsteps_add]
        show rBin .xor .u16 (rBin .shl .u16 (w16 (bsteps j σ)) ((1 : Nat) : Int)) (rBin .mul .u16 (rBin .shr .u16 (w16 (bsteps j σ)) ((15 : Nat) : Int)) (w16 0x1021#16)) = _
        rw [shl16 _ 1 (by omega), shr16 _ 15 (by omega), mul16, xor16]
        rfl
      cbv
      exact hnext2 _ _ (8 - (j + 1)) [] [] [3, 7, 8, 9, 18] _ _ (by omega) (by decide) rfl rfl rfl ⟨j + 1, _, _, rfl, hy1, hj1, hs3, rfl, rfl⟩
    · have hj1 : j = 8 := by
        have : ¬ y < 8 := by simpa [hI, ints, rCmp] using g2
        unfold isN at hy
        omega
      cbv
      exact hnext _ _ (bs.length - (i + 1)) [] [] [3, 7, 8, 9] _ _ (by omega) (by decide) rfl rfl rfl ⟨i + 1, _, c, _, rfl, hz1, hc, hi1, (by rw [hs2, hj1, hend]; rfl), rfl, rfl⟩
  · have hi1 : i = bs.length := by
      have : ¬ z < c := by simpa [hI, ints, rCmp] using g1
      unfold isN at hz hc
      omega
    cbv
    exact hP _ _ [] [] _ _ .nil rfl rfl rfl rfl rfl ⟨_, by rw [hs, hi1, List.take_length]; rfl, rfl, rfl⟩
end
end Go.Proofs.Ytccfcenhpmdemaa.E
