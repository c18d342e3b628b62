/- Unpack: the packet of bytes. -/
import Derived.Test.YtccfcenhpmdemaaUS
namespace Go.Proofs.Ytccfcenhpmdemaa.E
open Go
set_option linter.unusedVariables false
set_option maxRecDepth 100000

/-- A byte, as a number. -/
def hb (x : List (BitVec 8)) (i : Nat) : Int := w8 (x.getD i 0#8)
/-- The packet that the bytes say, right or not. -/
def pkOf (x : List (BitVec 8)) : PK := ⟨hb x 0, hb x 1, hb x 2, rBin .or .i64 (rBin .shl .i64 (hb x 3) 8) (hb x 4), hb x 5, rBin .sub .i64 (hb x 6) 1, hb x 7, rCmp .eql (hb x 8) 1, wordsAt (x.getD 9 0#8).toNat (x.drop 10)⟩
def opened (bs : List (BitVec 8)) : List (BitVec 8) := bs.take (bs.length - 2)
def shapeB (x : List (BitVec 8)) : Bool := decide (10 ≤ x.length) && decide (x.length = 10 + 8 * (x.getD 9 0#8).toNat)
/-- Are bytes a packet's? -/
def isPkB (bs : List (BitVec 8)) : Bool := decide (2 ≤ bs.length) && isSeal bs && shapeB (opened bs) && checkB (pkOf (opened bs)) && (sealB (packB (pkOf (opened bs))) == bs)
theorem isB.at {l : List (List G)} {bs : List (BitVec 8)} (h : isB l bs) {i : Nat} (hi : i < bs.length) : l[i]? = some [.int .u8 (.sym (hb bs i))] := by
  rw [h.get (List.getElem?_eq_getElem hi)]
  unfold hb
  rw [List.getD_eq_getElem?_getD, List.getElem?_eq_getElem hi]
  rfl
/-- Nothing, told in known numbers. -/
def noughtL : V1 := .agg [.g (.int .i64 (.lit 0)), .g (.int .i64 (.lit 0)), .g (.int .i64 (.lit 0)), .g (.int .i64 (.lit 0)), .g (.int .i64 (.lit 0)), .g (.int .i64 (.lit 0)), .g (.int .i64 (.lit 0)), .g (.bool (.lit false)), .g .nil]
theorem hb_in (x : List (BitVec 8)) (i : Nat) : 0 ≤ hb x i ∧ hb x i ≤ 255 := by
  have := (x.getD i 0#8).isLt
  unfold hb w8
  omega
theorem hb_conv (x : List (BitVec 8)) (i : Nat) : IntKind.i64.wrap (hb x i) = hb x i := by
  have := (x.getD i 0#8).isLt
  unfold hb w8
  rw [wrap_in] <;> omega
theorem checkB_in {q : PK} (h : checkB q = true) : (1 ≤ q.k ∧ q.k < 10) ∧ (0 ≤ q.f ∧ q.f < 6) ∧ (0 ≤ q.t ∧ q.t < 6) ∧ (0 ≤ q.i ∧ q.i < 4096) ∧ (0 ≤ q.l ∧ q.l < 8) ∧ (-1 ≤ q.p ∧ q.p < 6) ∧ (0 ≤ q.s ∧ q.s < 3) ∧ q.d.length ≤ 4 := by
  unfold checkB belB at h
  simp only [Bool.and_eq_true, decide_eq_true_eq] at h
  omega
section
variable {P : Program} (hp : P = Try.prog)
include hp
set_option maxHeartbeats 8000000 in
theorem unpack (l : List (List G)) (bs : List (BitVec 8)) (hl : isB l bs) (hn : bs.length ≤ 140737488351250) : LValid P 28 [.c (.bor 1 l)] []
    (fun v m1 => (isPkB bs = true ∧ ∃ (q : PK) (D : List (List G)), q = pkOf (opened bs) ∧ isL .i64 D q.d ∧ v = .tup [q.told (.g (.rows 1 D)), gi .i64 0] ∧ m1 = []) ∨ (isPkB bs = false ∧ v = .tup [PK.nought.told (.g .nil), gi .i64 2] ∧ m1 = [])) := by
  refine LValid.syv (R := fun v m1 => (isPkB bs = true ∧ ∃ (q : PK) (D : List (List G)), q = pkOf (opened bs) ∧ isL .i64 D q.d ∧ v = .tup [q.told (.g (.rows 1 D)), .c (.g (.int .i64 (.lit 0)))] ∧ m1 = []) ∨ (isPkB bs = false ∧ v = .tup [noughtL, .c (.g (.int .i64 (.lit 2)))] ∧ m1 = [])) ?_
    (fun v m1 h => h.imp (fun ⟨h1, q, D, h2, h3, h4, h5⟩ => ⟨h1, q, D, h2, h3, by rw [h4]; rfl, h5⟩) (fun ⟨h1, h2, h3⟩ => ⟨h1, by rw [h2]; rfl, h3⟩))
  obtain ⟨I, hI⟩ := ref
  obtain ⟨rf, hrf⟩ : ∃ rf, rf = rfOf P 28 := ⟨_, rfl⟩
  refine fn_sim hI (mo hp) (cc hp (c28 rf (by rw [hrf, hp]))) fun Post hP => ?_
  cbv
  refine .go [] [] [] (open_ hp l bs hl hn) rfl rfl rfl rfl rfl rfl ?_
  rintro v m1 (⟨h1, h2, l', hl', rfl, rfl⟩ | ⟨h1, rfl, rfl⟩)
  · have hx : isB l' (opened bs) := hl'
    have hlx : I.len l' = (opened bs).length := by rw [hI]; exact hx.len
    have hlen : (opened bs).length ≤ 140737488351250 := by unfold opened; rw [List.length_take]; omega
    have hpk : isPkB bs = (shapeB (opened bs) && checkB (pkOf (opened bs)) && (sealB (packB (pkOf (opened bs))) == bs)) := by unfold isPkB; rw [h2, decide_eq_true h1]; simp
    generalize ho : opened bs = x at hx hlx hlen hpk
    have c1 : (I.cmp .lss (I.ofNat (I.len l')) 10 = true → shapeB x = false) ∧ (I.cmp .lss (I.ofNat (I.len l')) 10 = false → 10 ≤ x.length) := by
      rw [hlx, hI]
      unfold shapeB
      simp only [ints, rCmp, decide_eq_true_eq, decide_eq_false_iff_not]
      refine ⟨fun h => by rw [decide_eq_false (by omega)]; rfl, fun h => by omega⟩
    clear h1 h2 hl' hn
    cbv
    refine br_f (show I.not true = false from by rw [hI]; rfl) ?_
    cbv
    refine .br (fun g1 => ?_) (fun g1 => ?_)
    · have s1 := c1.1 g1
      clear c1 g1
      cbv
      exact hP _ _ [] [] _ _ .nil rfl rfl rfl rfl rfl (.inr ⟨by rw [hpk, s1]; rfl, rfl, rfl⟩)
    · have s1 := c1.2 g1
      clear c1 g1
      have at_ : ∀ i, i < 10 → ∃ z, hb x i = z ∧ l'[i]? = some [.int .u8 (.sym z)] := fun i hi => ⟨_, rfl, hx.at (by omega)⟩
      obtain ⟨z0, e0, r0⟩ := at_ 0 (by decide)
      obtain ⟨z1, e1, r1⟩ := at_ 1 (by decide)
      obtain ⟨z2, e2, r2⟩ := at_ 2 (by decide)
      obtain ⟨z3, e3, r3⟩ := at_ 3 (by decide)
      obtain ⟨z4, e4, r4⟩ := at_ 4 (by decide)
      obtain ⟨z5, e5, r5⟩ := at_ 5 (by decide)
      obtain ⟨z6, e6, r6⟩ := at_ 6 (by decide)
      obtain ⟨z7, e7, r7⟩ := at_ 7 (by decide)
      obtain ⟨z8, e8, r8⟩ := at_ 8 (by decide)
      obtain ⟨z9, e9, r9⟩ := at_ 9 (by decide)
      clear at_
      have hlt : ∀ i, i < 10 → i < I.len l' := fun i hi => by rw [hlx]; omega
      have c2 : (I.cmp .neq (I.ofNat (I.len l')) (I.bin .add .i64 10 (I.bin .mul .i64 8 (I.conv .i64 z9))) = true → shapeB x = false) ∧ (I.cmp .neq (I.ofNat (I.len l')) (I.bin .add .i64 10 (I.bin .mul .i64 8 (I.conv .i64 z9))) = false → shapeB x = true ∧ x.length = 10 + 8 * (x.getD 9 0#8).toNat) := by
        rw [hlx, hI, ← e9]
        have f1 := hb_in x 9
        have f2 : hb x 9 = ((x.getD 9 0#8).toNat : Int) := rfl
        have f3 : rBin .mul .i64 8 (hb x 9) = 8 * hb x 9 := by show IntKind.i64.wrap (8 * hb x 9) = _; rw [wrap_in] <;> omega
        have f4 : rBin .add .i64 10 (8 * hb x 9) = 10 + 8 * hb x 9 := by show IntKind.i64.wrap (10 + 8 * hb x 9) = _; rw [wrap_in] <;> omega
        show (rCmp .neq (x.length : Int) (rBin .add .i64 10 (rBin .mul .i64 8 (IntKind.i64.wrap (hb x 9)))) = true → _) ∧ _
        show _ ∧ (rCmp .neq (x.length : Int) (rBin .add .i64 10 (rBin .mul .i64 8 (IntKind.i64.wrap (hb x 9)))) = false → _)
        rw [hb_conv, f3, f4, f2]
        unfold shapeB
        generalize (x.getD 9 0#8).toNat = n9
        refine ⟨fun h => ?_, fun h => ?_⟩
        · have : (x.length : Int) ≠ 10 + 8 * (n9 : Int) := by simpa [rCmp] using h
          rw [decide_eq_false (p := x.length = 10 + 8 * n9) (by omega)]
          simp
        · have : (x.length : Int) = 10 + 8 * (n9 : Int) := by simpa [rCmp] using h
          have : x.length = 10 + 8 * n9 := by omega
          exact ⟨by rw [decide_eq_true s1, decide_eq_true this]; rfl, this⟩
      cbv
      refine .idx 9 rfl (hlt 9 (by decide)) (.nth _ r9 ?_)
      cbv
      refine .br (fun g2 => ?_) (fun g2 => ?_)
      · have s2 := c2.1 g2
        clear c2 g2
        cbv
        exact hP _ _ [] [] _ _ .nil rfl rfl rfl rfl rfl (.inr ⟨by rw [hpk, s2]; rfl, rfl, rfl⟩)
      · obtain ⟨s2, s3⟩ := c2.2 g2
        clear c2 g2
        rw [s2] at hpk
        cbv
        refine .drawn [] ?_
        cbv
        refine .idx 0 rfl (hlt 0 (by decide)) (.nth _ r0 ?_)
        cbv
        refine .idx 1 rfl (hlt 1 (by decide)) (.nth _ r1 ?_)
        cbv
        refine .idx 2 rfl (hlt 2 (by decide)) (.nth _ r2 ?_)
        cbv
        refine .idx 3 rfl (hlt 3 (by decide)) (.nth _ r3 ?_)
        cbv
        refine .idx 4 rfl (hlt 4 (by decide)) (.nth _ r4 ?_)
        cbv
        refine .idx 5 rfl (hlt 5 (by decide)) (.nth _ r5 ?_)
        cbv
        refine .idx 6 rfl (hlt 6 (by decide)) (.nth _ r6 ?_)
        cbv
        refine .idx 7 rfl (hlt 7 (by decide)) (.nth _ r7 ?_)
        cbv
        refine .idx 8 rfl (hlt 8 (by decide)) (.nth _ r8 ?_)
        cbv
        have hlB : isB (I.ext l' 10 (I.add 10 (I.sub (I.len l') 10))) (x.drop 10) := by
          have h9 : 10 + (l'.length - 10) = l'.length := by have := hx.len; omega
          unfold isB at hx ⊢
          rw [hI]
          show (l'.take (10 + (l'.length - 10))).drop 10 = _
          rw [h9, List.take_length, hx]
          simp [nrow]
        refine .rng 10 (I.len l') rfl rfl (by rw [hlx]; omega) (Nat.le_refl _) ?_
        cbv
        refine .go [] [1] [.frz [1]] (chunk hp (I.ext l' 10 (I.add 10 (I.sub (I.len l') 10)))) rfl rfl rfl rfl rfl rfl ?_
        rintro v m1 ⟨rfl, rfl⟩
        generalize I.ext l' 10 (I.add 10 (I.sub (I.len l') 10)) = lx at hlB
        have hq : pkOf x = ⟨I.conv .i64 z0, I.conv .i64 z1, I.conv .i64 z2, I.bin .or .i64 (I.bin .shl .i64 (I.conv .i64 z3) 8) (I.conv .i64 z4), I.conv .i64 z5, I.bin .sub .i64 (I.conv .i64 z6) 1, I.conv .i64 z7, I.cmp .eql z8 1, wordsAt (x.getD 9 0#8).toNat (x.drop 10)⟩ := by
          rw [hI, ← e0, ← e1, ← e2, ← e3, ← e4, ← e5, ← e6, ← e7, ← e8]
          simp only [ints, hb_conv]
          rfl
        have hK9 : (x.getD 9 0#8).toNat ≤ 1000 := by have := (x.getD 9 0#8).isLt; omega
        have hdl : (x.drop 10).length = 8 * (x.getD 9 0#8).toNat := by rw [List.length_drop, s3]; omega
        have hloop := fun (ts : List A) (m : Mem) (k f t i l p s : Int) (b : Bool) => unpack_loop hp lx (x.drop 10) (x.getD 9 0#8).toNat hlB hdl hK9 (ts := ts) (m := m) (bp := 2) (b1 := 3) (b2 := 4) (k := k) (f := f) (t := t) (i := i) (l := l) (p := p) (s := s) (b := b)
        rw [← hrf] at hloop
        generalize wordsAt (x.getD 9 0#8).toNat (x.drop 10) = d at hq hloop
        obtain ⟨D, hD⟩ : ∃ D, D = nrow .i64 d := ⟨_, rfl⟩
        rw [← hD] at hloop
        have hD : isL .i64 D d := hD
        rw [hq] at hpk
        cbv
        refine .rfun _ (hloop _ _ (I.conv .i64 z0) (I.conv .i64 z1) (I.conv .i64 z2) (I.bin .or .i64 (I.bin .shl .i64 (I.conv .i64 z3) 8) (I.conv .i64 z4)) (I.conv .i64 z5) (I.bin .sub .i64 (I.conv .i64 z6) 1) (I.conv .i64 z7) (I.cmp .eql z8 1) rfl rfl rfl rfl rfl rfl (by decide) (by decide)) ?_
        rintro ts m ⟨rfl, rfl⟩
        cbv
        refine .go [] [] [.bor 1] (pack hp ⟨.sym (I.conv .i64 z0), .sym (I.conv .i64 z1), .sym (I.conv .i64 z2), .sym (I.bin .or .i64 (I.bin .shl .i64 (I.conv .i64 z3) 8) (I.conv .i64 z4)), .sym (I.conv .i64 z5), .sym (I.bin .sub .i64 (I.conv .i64 z6) 1), .sym (I.conv .i64 z7), .sym (I.cmp .eql z8 1)⟩ D d hD) rfl rfl rfl rfl rfl rfl ?_
        rintro v m1 h
        simp only [PZ.pk, Z.val, BB.val] at h
        generalize hqq : (⟨I.conv .i64 z0, I.conv .i64 z1, I.conv .i64 z2, I.bin .or .i64 (I.bin .shl .i64 (I.conv .i64 z3) 8) (I.conv .i64 z4), I.conv .i64 z5, I.bin .sub .i64 (I.conv .i64 z6) 1, I.conv .i64 z7, I.cmp .eql z8 1, d⟩ : PK) = q at h hpk hq
        rcases h with ⟨k1, rfl, rfl⟩ | ⟨k1, L, hLs, rfl, rfl⟩
        · cbv
          refine br_t (show I.cmp .neq 1 0 = true from by rw [hI]; rfl) ?_
          cbv
          exact hP _ _ [] [] _ _ .nil rfl rfl rfl rfl rfl (.inr ⟨by rw [hpk, k1]; rfl, rfl, rfl⟩)
        · cbv
          refine br_f (show I.cmp .neq 0 0 = false from by rw [hI]; rfl) ?_
          cbv
          refine .go [] [] [.bor 1] (equalB hp L l _ bs hLs hl) rfl rfl rfl rfl rfl rfl ?_
          rintro v m1 ⟨t, ht, rfl, rfl⟩
          rw [k1, ← ht] at hpk
          cbv
          refine .br (fun g3 => ?_) (fun g3 => ?_)
          · have h3 : t = false := by simpa [hI, ints] using g3
            cbv
            exact hP _ _ [] [] _ _ .nil rfl rfl rfl rfl rfl (.inr ⟨by rw [hpk, h3]; rfl, rfl, rfl⟩)
          · have h3 : t = true := by simpa [hI, ints] using g3
            have hqd : q.d = d := by rw [← hqq]
            cbv
            refine hP _ _ [] [] _ _ .nil rfl rfl rfl rfl rfl (.inl ⟨by rw [hpk, h3]; rfl, q, D, by rw [ho, hq], by rw [hqd]; exact hD, ?_, rfl⟩)
            rw [← hqq]
            rfl
  · cbv
    refine br_t (show I.not false = true from by rw [hI]; rfl) ?_
    cbv
    exact hP _ _ [] [] _ _ .nil rfl rfl rfl rfl rfl (.inr ⟨by
      unfold isPkB
      cases hs : (decide (2 ≤ bs.length) && isSeal bs) with
      | false => rfl
      | true =>
        simp only [Bool.and_eq_true, decide_eq_true_eq] at hs
        exact (h1 hs).elim, rfl, rfl⟩)
end
end Go.Proofs.Ytccfcenhpmdemaa.E
