/- EntryWrites. -/
import Derived.Test.YtlndhigdknmokaaQC
namespace Go.Proofs.Ytlndhigdknmokaa.E
open Go
set_option linter.unusedVariables false
set_option maxRecDepth 100000

/-- Is there such a place? -/
def inB (z : Int) (n : Nat) : Bool := decide (0 ≤ z) && decide (z < (n : Nat))
section
variable {P : Program} (hp : P = Try.prog)
include hp
theorem word (f b l u z : Z) (d : BB) (L : List (List G)) (xs : List Int) (hL : isL .i64 L xs) : LValid P 18 [.agg (ent f b l u d (.bor 1 L)), .c (.g (.int .i64 z))] [] (fun v m1 => ∃ t, t = (if inB z.val xs.length then xs.getD z.val.toNat 0 else 0) ∧ v = i64 t ∧ m1 = []) := by
  refine nx (LValid.sy (LValid.num ?_))
  show LValid P 18 [.agg (ent (.sym f.val) (.sym b.val) (.sym l.val) (.sym u.val) (.sym d.val) (.bor 1 L)), .c (.g (.int .i64 (.sym z.val)))] [] _
  generalize f.val = f, b.val = b, l.val = l, u.val = u, d.val = d, z.val = z
  obtain ⟨I, hI⟩ := ref
  refine fn_sim hI (mo hp) (cc hp c18) fun Post hP => ?_
  cbv
  refine .go [] [] [] (is_ hp (.sym f) (.sym b) (.sym l) (.sym u) (.sym z) (.sym d) L) rfl rfl rfl rfl rfl rfl ?_
  rintro r m1 ⟨t, ht, rfl, rfl⟩
  have ht : t = inB z xs.length := by rw [ht, hL.len]; rfl
  cbv
  refine .br (fun h => ?_) (fun h => ?_)
  · have h : t = false := by simpa [hI, ints] using h
    cbv
    exact hP _ _ [] [] _ _ .nil rfl rfl rfl rfl rfl ⟨_, rfl, by rw [← ht, h]; rfl, rfl⟩
  · have h : t = true := by simpa [hI, ints] using h
    cbv
    have hz : 0 ≤ z ∧ z < (xs.length : Nat) := by
      rw [h] at ht
      simpa [inB] using ht.symm
    obtain ⟨i, hi⟩ : ∃ i : Nat, isN z i := ⟨z.toNat, by unfold isN; omega⟩
    have hlt : i < xs.length := by unfold isN at hi; omega
    obtain ⟨x, hx⟩ : ∃ x, xs[i]? = some x := ⟨_, List.getElem?_eq_getElem hlt⟩
    have hxa : L[i]? = some [.int .i64 (.sym x)] := by rw [hL.get, hx]; rfl
    refine .idx i hi (by have : i < I.len L := by rw [hI]; show i < L.length; rw [hL.len]; exact hlt
                         exact this) (.nth _ hxa ?_)
    cbv
    refine hP _ _ [] [] _ _ .nil rfl rfl rfl rfl rfl ⟨_, rfl, ?_, rfl⟩
    rw [← ht, h, show z.toNat = i by unfold isN at hi; omega]
    simp [Z.val, List.getD_eq_getElem?_getD, hx]
set_option maxHeartbeats 8000000 in
theorem writes (L0 L1 L2 : List (List G)) (xs0 xs1 xs2 : List Int) (h0 : isL .i64 L0 xs0) (hp1 : isL .i64 L1 xs1) (hp2 : isL .i64 L2 xs2) (hl0 : L0.length * 8 ≤ 140737488351232) (d : Bool) : LValid P 4 [.c (.g (.rows 1 L0)), .c (.g (.rows 1 L1)), .c (.g (.rows 1 L2)), gb d] [] (fun v _ => ∃ b : BB, b.val = true ∧ v = .one (.c (.g (.bool b)))) := by
  obtain ⟨I, hI⟩ := ref
  refine fn_sim hI (mo hp) (cc hp c4) fun Post hP => ?_
  cbv
  refine .go [] [] [.bor 1, .keep] (cut hp L0 (.lit 4) 4 rfl (by omega)) rfl rfl rfl rfl rfl rfl ?_
  rintro r m1 ⟨l1, h1, rfl, rfl⟩
  obtain ⟨n0, hn0⟩ : ∃ n, n = (xs0.take 4).length := ⟨_, rfl⟩
  have hn4 : n0 ≤ 4 := by rw [hn0]; simp; omega
  have hD : isL .i64 l1 (xs0.take 4) := by
    unfold isL at h0 ⊢
    rw [h1, h0]
    simp [nrow, List.map_take]
  have hDl : l1.length * 8 ≤ 140737488355328 := by rw [hD.len]; simp; omega
  cbv
  refine .go [] [] [.keep, .keep, .keep, .keep, .bor 1] (new hp _ _ _ _ _ hDl) rfl rfl rfl rfl rfl rfl ?_
  rintro r m1 ⟨rfl, rfl⟩
  cbv
  refine .loop_next (fun n ts m => ∃ (i : Nat) (z f b l u : Int) (ds : List Int) (Le Ld : List (List G)), n = 12 - i ∧ isN z i ∧ ds.length = n0 ∧ isL .i64 Le ds ∧ isL .i64 Ld ds ∧ ts = fr 117 [(1, .one (.c (.g (.rows 1 L1)))), (2, .one (.c (.g (.rows 1 L2)))), (3, boo d), (9, .one (.c (.row 2 1 none))), (10, .one (.c (.ptr 0 (.lit 0) 6 0))), (11, i64 z)] ∧
      m = [.lit 6 [ent (.sym f) (.sym b) (.sym l) (.sym u) (.sym d) (.row 1 1 none)], .sym 1 Le, .sym 1 Ld])
    12 _ _ [2, 1, 0] [] [1, 2, 3, 9, 10, 11] (by decide) rfl rfl rfl ⟨0, 0, -1, -1, 1, 0, _, l1, l1, rfl, rfl, hn0.symm, hD, hD, rfl, rfl⟩ ?_
  rintro next n hnext ts m ⟨i, z, f, b, l, u, ds, Le, Ld, hn, hz, hdn, hLe, hLd, rfl, rfl⟩
  have hLel : Le.length * 8 ≤ 140737488355328 := by rw [hLe.len]; omega
  have hLdl : Ld.length * 8 ≤ 140737488355328 := by rw [hLd.len]; omega
  have hLdn : I.len Ld = ds.length := by rw [← hLd.len, hI]; rfl
  have hl1 : I.len L1 = xs1.length := by rw [← hp1.len, hI]; rfl
  have hl2 : I.len L2 = xs2.length := by rw [← hp2.len, hI]; rfl
  cbv
  refine .br (fun g1 => ?_) (fun g1 => ?_)
  · cbv
    refine .br (fun g2 => ?_) (fun g2 => ?_)
    · cbv
      refine .br (fun g3 => ?_) (fun g3 => ?_)
      · have hi1 : i < xs1.length := by
          have g' : rCmp .lss z ((I.len L1 : Nat) : Int) = true := by rw [hI] at g1 ⊢; exact g1
          rw [hl1] at g'
          have : z < (xs1.length : Nat) := by simpa [rCmp] using g'
          unfold isN at hz
          omega
        have hi2 : i < xs2.length := by
          have g' : rCmp .lss z ((I.len L2 : Nat) : Int) = true := by rw [hI] at g2 ⊢; exact g2
          rw [hl2] at g'
          have : z < (xs2.length : Nat) := by simpa [rCmp] using g'
          unfold isN at hz
          omega
        have hi3 : i < 12 := by
          have : z < 12 := by simpa [hI, ints, rCmp] using g3
          unfold isN at hz
          omega
        obtain ⟨x1, hx1⟩ : ∃ x, xs1[i]? = some x := ⟨_, List.getElem?_eq_getElem hi1⟩
        obtain ⟨x2, hx2⟩ : ∃ x, xs2[i]? = some x := ⟨_, List.getElem?_eq_getElem hi2⟩
        have ha1 : L1[i]? = some [.int .i64 (.sym x1)] := by rw [hp1.get, hx1]; rfl
        have ha2 : L2[i]? = some [.int .i64 (.sym x2)] := by rw [hp2.get, hx2]; rfl
        cbv
        refine .idx i hz (show i < I.len L1 from by rw [hl1]; exact hi1) (.nth _ ha1 ?_)
        cbv
        refine .go [] [] [] (within hp _ _) rfl rfl rfl rfl rfl rfl ?_
        rintro r m1 ⟨y, hy, rfl, rfl⟩
        cbv
        have hz1 : isN (I.bin .add .i64 z 1) (i + 1) := by unfold isN at hz ⊢; rw [hI]; simp only [ints, rBin]; rw [wrap_in] <;> omega
        refine .br (fun q1 => ?_) (fun q1 => ?_)
        · have q1 : 0 ≤ I.bin .sub .i64 y 1 := by
            have q' : rCmp .geq (I.bin .sub .i64 y 1) 0 = true := by rw [hI] at q1 ⊢; exact q1
            simpa [rCmp] using q'
          cbv
          refine .idx i hz (show i < I.len L2 from by rw [hl2]; exact hi2) (.nth _ ha2 ?_)
          cbv
          refine .go [0, 1] [] [] (write hp _ _ _ _ _ _ _ _ ds hLe hLel) rfl rfl rfl rfl rfl rfl ?_
          rintro r m1 ⟨ok, hok, rfl, hm⟩
          by_cases q2 : I.bin .sub .i64 y 1 < (ds.length : Nat)
          · have hg : I.cmp .lss (I.bin .sub .i64 y 1) (I.ofNat (I.len Ld)) = true := by
              rw [hLdn, hI] at *
              simpa [ints, rCmp] using q2
            have hok : ok = d := by
              rw [hok, show Z.val (.sym (I.bin .sub .i64 y 1)) = I.bin .sub .i64 y 1 from rfl, decide_eq_true q1, decide_eq_true q2]
              simp [BB.val]
            obtain ⟨j, hj⟩ : ∃ j : Nat, isN (I.bin .sub .i64 y 1) j := ⟨(I.bin .sub .i64 y 1).toNat, by unfold isN; omega⟩
            have hjt : (I.bin .sub .i64 y 1).toNat = j := by unfold isN at hj; omega
            have hjl : j < ds.length := by unfold isN at hj; omega
            obtain ⟨xj, hxj⟩ : ∃ x, ds[j]? = some x := ⟨_, List.getElem?_eq_getElem hjl⟩
            have hrow : Ld[j]? = some [.int .i64 (.sym xj)] := by rw [hLd.get, hxj]; rfl
            rcases hm with ⟨hm, rfl⟩ | ⟨hm, Le', hLe', rfl⟩
            · have hd : d = false := by rw [← hok, hm]
              cbv
              refine br_t hg ?_
              cbv
              refine br_f (by rw [hI, hok, hd]; rfl) ?_
              cbv
              refine br_t hg ?_
              cbv
              refine br_f hd ?_
              cbv
              refine .drawn [] ?_
              cbv
              refine .go [] [] [.bor 1, .bor 1] (same hp _ _ _ _ hLe hLd hLel) rfl rfl rfl rfl rfl rfl ?_
              rintro r m1 ⟨t1, ht1, rfl, rfl⟩
              have ht1 : t1 = true := by rw [ht1]; simp
              cbv
              refine br_f (by rw [hI, ht1]; rfl) ?_
              cbv
              refine br_f (by show I.not (I.cmp .lss (I.bin .sub .i64 y 1) (I.ofNat (I.len Ld))) = false; rw [hg, hI]; rfl) ?_
              cbv
              refine br_t hg ?_
              cbv
              refine .idx j hj (show j < I.len Ld from by rw [hLdn]; exact hjl) (.nth _ hrow ?_)
              cbv
              refine .go [] [] [.bor 1, .keep] (word hp _ _ _ _ _ _ _ ds hLe) rfl rfl rfl rfl rfl rfl ?_
              rintro r m1 ⟨t2, ht2, rfl, rfl⟩
              have ht2 : t2 = xj := by
                rw [ht2, show Z.val (.sym (I.bin .sub .i64 y 1)) = I.bin .sub .i64 y 1 from rfl, hjt]
                simp [inB, q1, q2, List.getD_eq_getElem?_getD, hxj]
              cbv
              refine br_f (by rw [hI, ht2]; simp [ints, rCmp]) ?_
              cbv
              exact hnext _ _ (12 - (i + 1)) [0, 1, 2] [] [1, 2, 3, 9, 10, 11] _ _ (by omega) (by decide) rfl rfl rfl ⟨i + 1, _, _, _, _, _, ds, Le, Ld, rfl, hz1, hdn, hLe, hLd, rfl, rfl⟩
            · have hd : d = true := by rw [← hok, hm]
              cbv
              refine br_t hg ?_
              cbv
              refine br_f (by rw [hI, hok, hd]; rfl) ?_
              cbv
              have hLe2 : isL .i64 Le' (ds.set j x2) := by
                have h' := hLe'
                rw [show Z.val (.sym (I.bin .sub .i64 y 1)) = I.bin .sub .i64 y 1 from rfl, hjt] at h'
                exact h'
              have hLd2 : isL .i64 (I.set Ld j [.int .i64 (.sym x2)]) (ds.set j x2) := by
                unfold isL at hLd ⊢
                rw [hI, hLd]
                show (nrow .i64 ds).set j _ = _
                simp [nrow, List.map_set]
              have hLe2l : Le'.length * 8 ≤ 140737488355328 := by rw [hLe2.len]; simp; omega
              have hx2' : (ds.set j x2)[j]? = some x2 := by simp [hjl]
              have hrow2 : (I.set Ld j [.int .i64 (.sym x2)])[j]? = some [.int .i64 (.sym x2)] := by rw [hLd2.get, hx2']; rfl
              have hlen2 : I.len (I.set Ld j [.int .i64 (.sym x2)]) = ds.length := by
                have := hLd2.len
                rw [List.length_set] at this
                rw [← this, hI]
                rfl
              refine br_t hg ?_
              cbv
              refine br_t hd ?_
              cbv
              refine .idx i hz (show i < I.len L2 from by rw [hl2]; exact hi2) (.nth _ ha2 ?_)
              cbv
              refine .idx j hj (show j < I.len Ld from by rw [hLdn]; exact hjl) ?_
              cbv
              refine .nth _ hrow ?_
              cbv
              refine .drawn [] ?_
              cbv
              refine .go [] [] [.bor 1, .bor 1] (same hp _ _ _ _ hLe2 hLd2 hLe2l) rfl rfl rfl rfl rfl rfl ?_
              rintro r m1 ⟨t1, ht1, rfl, rfl⟩
              have ht1 : t1 = true := by rw [ht1]; simp
              cbv
              refine br_f (by rw [hI, ht1]; rfl) ?_
              cbv
              refine br_f (by show I.not (I.cmp .lss (I.bin .sub .i64 y 1) (I.ofNat (I.len Ld))) = false; rw [hg, hI]; rfl) ?_
              cbv
              refine br_t hg ?_
              cbv
              refine .idx j hj (show j < I.len (I.set Ld j [.int .i64 (.sym x2)]) from by rw [hlen2]; exact hjl) (.nth _ hrow2 ?_)
              cbv
              refine .go [] [] [.bor 1, .keep] (word hp _ _ _ _ _ _ _ (ds.set j x2) hLe2) rfl rfl rfl rfl rfl rfl ?_
              rintro r m1 ⟨t2, ht2, rfl, rfl⟩
              have ht2 : t2 = x2 := by
                rw [ht2, show Z.val (.sym (I.bin .sub .i64 y 1)) = I.bin .sub .i64 y 1 from rfl, hjt]
                simp [inB, q1, q2, List.getD_eq_getElem?_getD, hx2']
              cbv
              refine br_f (by rw [hI, ht2]; simp [ints, rCmp]) ?_
              cbv
              exact hnext _ _ (12 - (i + 1)) [0, 3, 2] [] [1, 2, 3, 9, 10, 11] _ _ (by omega) (by decide) rfl rfl rfl ⟨i + 1, _, _, _, _, _, ds.set j x2, Le', _, rfl, hz1, by rw [List.length_set]; exact hdn, hLe2, hLd2, rfl, rfl⟩
          · have hg : I.cmp .lss (I.bin .sub .i64 y 1) (I.ofNat (I.len Ld)) = false := by
              rw [hLdn, hI] at *
              simpa [ints, rCmp] using q2
            have hok : ok = false := by
              rw [hok, show Z.val (.sym (I.bin .sub .i64 y 1)) = I.bin .sub .i64 y 1 from rfl, decide_eq_false q2]
              simp
            rcases hm with ⟨-, rfl⟩ | ⟨hm, -⟩
            · cbv
              refine br_f hg ?_
              cbv
              refine br_f (by rw [hI, hok]; rfl) ?_
              cbv
              refine br_f hg ?_
              cbv
              refine .drawn [] ?_
              cbv
              refine .go [] [] [.bor 1, .bor 1] (same hp _ _ _ _ hLe hLd hLel) rfl rfl rfl rfl rfl rfl ?_
              rintro r m1 ⟨t1, ht1, rfl, rfl⟩
              have ht1 : t1 = true := by rw [ht1]; simp
              cbv
              refine br_f (by rw [hI, ht1]; rfl) ?_
              cbv
              refine br_t (by show I.not (I.cmp .lss (I.bin .sub .i64 y 1) (I.ofNat (I.len Ld))) = true; rw [hg, hI]; rfl) ?_
              cbv
              refine .go [] [] [.bor 1, .keep] (word hp _ _ _ _ _ _ _ ds hLe) rfl rfl rfl rfl rfl rfl ?_
              rintro r m1 ⟨t2, ht2, rfl, rfl⟩
              have ht2 : t2 = 0 := by
                rw [ht2, show Z.val (.sym (I.bin .sub .i64 y 1)) = I.bin .sub .i64 y 1 from rfl]
                simp [inB, q2]
              cbv
              refine br_f (by rw [hI, ht2]; rfl) ?_
              cbv
              refine br_f hg ?_
              cbv
              exact hnext _ _ (12 - (i + 1)) [0, 1, 2] [] [1, 2, 3, 9, 10, 11] _ _ (by omega) (by decide) rfl rfl rfl ⟨i + 1, _, _, _, _, _, ds, Le, Ld, rfl, hz1, hdn, hLe, hLd, rfl, rfl⟩
            · rw [hok] at hm; cases hm
        · have q1 : ¬ 0 ≤ I.bin .sub .i64 y 1 := by
            have q' : rCmp .geq (I.bin .sub .i64 y 1) 0 = false := by rw [hI] at q1 ⊢; exact q1
            simpa [rCmp] using q'
          cbv
          refine .idx i hz (show i < I.len L2 from by rw [hl2]; exact hi2) (.nth _ ha2 ?_)
          cbv
          refine .go [0, 1] [] [] (write hp _ _ _ _ _ _ _ _ ds hLe hLel) rfl rfl rfl rfl rfl rfl ?_
          rintro r m1 ⟨ok, hok, rfl, hm⟩
          have hok : ok = false := by
            rw [hok, show Z.val (.sym (I.bin .sub .i64 y 1)) = I.bin .sub .i64 y 1 from rfl, decide_eq_false q1]
            simp
          rcases hm with ⟨-, rfl⟩ | ⟨hm, -⟩
          · cbv
            refine br_f (by rw [hI, hok]; rfl) ?_
            cbv
            refine .drawn [] ?_
            cbv
            refine .go [] [] [.bor 1, .bor 1] (same hp _ _ _ _ hLe hLd hLel) rfl rfl rfl rfl rfl rfl ?_
            rintro r m1 ⟨t1, ht1, rfl, rfl⟩
            have ht1 : t1 = true := by rw [ht1]; simp
            cbv
            refine br_f (by rw [hI, ht1]; rfl) ?_
            cbv
            refine .go [] [] [.bor 1, .keep] (word hp _ _ _ _ _ _ _ ds hLe) rfl rfl rfl rfl rfl rfl ?_
            rintro r m1 ⟨t2, ht2, rfl, rfl⟩
            have ht2 : t2 = 0 := by
              rw [ht2, show Z.val (.sym (I.bin .sub .i64 y 1)) = I.bin .sub .i64 y 1 from rfl]
              simp [inB, q1]
            cbv
            refine br_f (by rw [hI, ht2]; rfl) ?_
            cbv
            exact hnext _ _ (12 - (i + 1)) [0, 1, 2] [] [1, 2, 3, 9, 10, 11] _ _ (by omega) (by decide) rfl rfl rfl ⟨i + 1, _, _, _, _, _, ds, Le, Ld, rfl, hz1, hdn, hLe, hLd, rfl, rfl⟩
          · rw [hok] at hm; cases hm
      · cbv
        refine .br (fun g => ?_) (fun g => ?_)
        · cbv
          refine .go [] [] [] (wakes hp) rfl rfl rfl rfl rfl rfl ?_
          rintro r m1 ⟨rfl, rfl⟩
          cbv
          exact hP _ _ [] [] _ _ .nil rfl rfl rfl rfl rfl ⟨_, rfl, rfl⟩
        · cbv
          refine .go [0, 1] [] [] (write hp _ _ _ _ _ _ _ _ ds hLe hLel) rfl rfl rfl rfl rfl rfl ?_
          rintro r m1 ⟨ok, hok, rfl, hm⟩
          have hpos : 0 < ds.length := by
            have g' : rCmp .eql ((I.len Ld : Nat) : Int) 0 = false := by rw [hI] at g ⊢; exact g
            rw [hLdn] at g'
            exact List.length_pos_iff.2 (by simpa [rCmp] using g')
          have hok : ok = !d := by rw [hok]; simp [Z.val, BB.val, hpos, hI, ints]
          rcases hm with ⟨-, rfl⟩ | ⟨-, L', -, rfl⟩ <;>
          · cbv
            refine br_t (by rw [hI, hok]; simp [ints]) ?_
            cbv
            refine .go [] [] [] (wakes hp) rfl rfl rfl rfl rfl rfl ?_
            rintro r m1 ⟨rfl, rfl⟩
            cbv
            exact hP _ _ [] [] _ _ .nil rfl rfl rfl rfl rfl ⟨_, rfl, rfl⟩
    · cbv
      refine .br (fun g => ?_) (fun g => ?_)
      · cbv
        refine .go [] [] [] (wakes hp) rfl rfl rfl rfl rfl rfl ?_
        rintro r m1 ⟨rfl, rfl⟩
        cbv
        exact hP _ _ [] [] _ _ .nil rfl rfl rfl rfl rfl ⟨_, rfl, rfl⟩
      · cbv
        refine .go [0, 1] [] [] (write hp _ _ _ _ _ _ _ _ ds hLe hLel) rfl rfl rfl rfl rfl rfl ?_
        rintro r m1 ⟨ok, hok, rfl, hm⟩
        have hpos : 0 < ds.length := by
          have g' : rCmp .eql ((I.len Ld : Nat) : Int) 0 = false := by rw [hI] at g ⊢; exact g
          rw [hLdn] at g'
          exact List.length_pos_iff.2 (by simpa [rCmp] using g')
        have hok : ok = !d := by rw [hok]; simp [Z.val, BB.val, hpos, hI, ints]
        rcases hm with ⟨-, rfl⟩ | ⟨-, L', -, rfl⟩ <;>
        · cbv
          refine br_t (by rw [hI, hok]; simp [ints]) ?_
          cbv
          refine .go [] [] [] (wakes hp) rfl rfl rfl rfl rfl rfl ?_
          rintro r m1 ⟨rfl, rfl⟩
          cbv
          exact hP _ _ [] [] _ _ .nil rfl rfl rfl rfl rfl ⟨_, rfl, rfl⟩
  · cbv
    refine .br (fun g => ?_) (fun g => ?_)
    · cbv
      refine .go [] [] [] (wakes hp) rfl rfl rfl rfl rfl rfl ?_
      rintro r m1 ⟨rfl, rfl⟩
      cbv
      exact hP _ _ [] [] _ _ .nil rfl rfl rfl rfl rfl ⟨_, rfl, rfl⟩
    · cbv
      refine .go [0, 1] [] [] (write hp _ _ _ _ _ _ _ _ ds hLe hLel) rfl rfl rfl rfl rfl rfl ?_
      rintro r m1 ⟨ok, hok, rfl, hm⟩
      have hpos : 0 < ds.length := by
        have g' : rCmp .eql ((I.len Ld : Nat) : Int) 0 = false := by rw [hI] at g ⊢; exact g
        rw [hLdn] at g'
        exact List.length_pos_iff.2 (by simpa [rCmp] using g')
      have hok : ok = !d := by rw [hok]; simp [Z.val, BB.val, hpos, hI, ints]
      rcases hm with ⟨-, rfl⟩ | ⟨-, L', -, rfl⟩ <;>
      · cbv
        refine br_t (by rw [hI, hok]; simp [ints]) ?_
        cbv
        refine .go [] [] [] (wakes hp) rfl rfl rfl rfl rfl rfl ?_
        rintro r m1 ⟨rfl, rfl⟩
        cbv
        exact hP _ _ [] [] _ _ .nil rfl rfl rfl rfl rfl ⟨_, rfl, rfl⟩
end
end Go.Proofs.Ytlndhigdknmokaa.E
