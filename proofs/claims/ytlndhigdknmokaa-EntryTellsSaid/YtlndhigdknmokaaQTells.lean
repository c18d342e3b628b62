/- EntryTells. -/
import Derived.Test.YtlndhigdknmokaaQWrites
namespace Go.Proofs.Ytlndhigdknmokaa.E
open Go
set_option linter.unusedVariables false
set_option maxRecDepth 100000
set_option linter.unusedSimpArgs false

theorem ok_d {ok d q : Bool} (h : ok = (d && q)) (hm : ok = true) : d = true := by subst h; simp at hm; exact hm.1
theorem ok_q {ok d q : Bool} (h : ok = (d && q)) (hm : ok = true) : q = true := by subst h; simp at hm; exact hm.2

theorem in_t {A : Int} {a n : Nat} (h : isN A a) (hl : a < n) : inB A n = true := by unfold isN at h; simp [inB]; omega
theorem in_f {A : Int} {n : Nat} (h : ¬ A < (n : Int)) : inB A n = false := by simp [inB]; omega
theorem in_n {A : Int} {n : Nat} (h : A < 0) : inB A n = false := by simp [inB]; omega
theorem put_get {ds : List Int} {A v : Int} (h : inB A ds.length = true) : (if inB A (ds.set A.toNat v).length then (ds.set A.toNat v).getD A.toNat 0 else 0) = v := by
  rw [List.length_set, h, if_pos rfl]
  have : A.toNat < ds.length := by simp [inB] at h; omega
  simp [List.getD_eq_getElem?_getD, this]
section
variable {P : Program} (hp : P = Try.prog)
include hp
set_option maxHeartbeats 8000000 in
theorem tells (line fwd back at_ v : Int) (d : Bool) (L0 : List (List G)) (xs0 : List Int) (h0 : isL .i64 L0 xs0) (hl0 : L0.length * 8 ≤ 140737488351232) :
    LValid P 6 [gi .i64 line, gi .i64 fwd, gi .i64 back, gi .i64 at_, gi .i64 v, gb d, .c (.g (.rows 1 L0))] [] (fun v _ => ∃ b : BB, b.val = true ∧ v = .one (.c (.g (.bool b)))) := by
  obtain ⟨I, hI⟩ := ref
  refine fn_sim hI (mo hp) (cc hp c6) fun Post hP => ?_
  cbv
  refine .go [] [] [] (within hp _ _) rfl rfl rfl rfl rfl rfl ?_
  rintro r m1 ⟨y1, hy1, rfl, rfl⟩
  cbv
  refine .go [] [] [] (within hp _ _) rfl rfl rfl rfl rfl rfl ?_
  rintro r m1 ⟨y2, hy2, rfl, rfl⟩
  cbv
  refine .go [] [] [.bor 1, .keep] (cut hp L0 (.lit 6) 6 rfl (by omega)) rfl rfl rfl rfl rfl rfl ?_
  rintro r m1 ⟨l1, h1, rfl, rfl⟩
  obtain ⟨ds, hds⟩ : ∃ ds, ds = xs0.take 6 := ⟨_, rfl⟩
  have hD : isL .i64 l1 ds := by
    unfold isL at h0 ⊢
    rw [h1, h0, hds]
    simp [nrow, List.map_take]
  have hDl : l1.length * 8 ≤ 140737488355328 := by rw [hD.len, hds]; simp; omega
  cbv
  refine .br (fun g0 => ?ta) (fun g0 => ?tb)
  case' ta =>
    cbv
    refine .go [] [] [] (within hp _ _) rfl rfl rfl rfl rfl rfl ?_
    rintro r m1 ⟨y3, hy3, rfl, rfl⟩
    cbv
    refine .go [] [] [.bor 1] (copy hp _ hDl) rfl rfl rfl rfl rfl rfl ?_
    rintro r m1 ⟨rfl, rfl⟩
    cbv
    refine .go [] [] [.keep, .keep, .keep, .keep, .bor 1] (new hp _ _ _ _ _ hDl) rfl rfl rfl rfl rfl rfl ?_
    rintro r m1 ⟨rfl, rfl⟩
    cbv
    refine .loop_next (fun n ts m => ∃ (i : Nat) (z A f b : Int) (Lx : List (List G)) (xs : List Int), n = ds.length - i ∧ isN z i ∧ isL .i64 Lx xs ∧ xs.length = ds.length ∧ i ≤ ds.length ∧ ts = fr 226 [(0, i64 line), (1, i64 f), (2, i64 b), (3, i64 A), (4, i64 v), (5, boo d), (15, .one (.c (.row 2 1 none))), (16, .one (.c (.row 3 1 none))), (17, .one (.c (.ptr 0 (.lit 0) 6 0))), (49, i64 (I.ofNat (I.len l1))), (50, i64 z)] ∧
        m = [.lit 6 [ent (.sym f) (.sym b) (.sym line) (.sym 0) (.sym d) (.row 1 1 none)], .sym 1 l1, .sym 1 l1, .sym 1 Lx])
      ds.length _ _ [3, 2, 0, 1] [] [0, 1, 2, 3, 4, 5, 15, 16, 17, 49, 50] (by decide) rfl rfl rfl ⟨0, 0, I.bin .sub .i64 y3 1, _, _, l1, ds, rfl, rfl, hD, rfl, Nat.zero_le _, rfl, rfl⟩ ?_
  case' tb =>
    cbv
    refine .go [] [] [.bor 1] (copy hp _ hDl) rfl rfl rfl rfl rfl rfl ?_
    rintro r m1 ⟨rfl, rfl⟩
    cbv
    refine .go [] [] [.keep, .keep, .keep, .keep, .bor 1] (new hp _ _ _ _ _ hDl) rfl rfl rfl rfl rfl rfl ?_
    rintro r m1 ⟨rfl, rfl⟩
    cbv
    refine .loop_next (fun n ts m => ∃ (i : Nat) (z A f b : Int) (Lx : List (List G)) (xs : List Int), n = ds.length - i ∧ isN z i ∧ isL .i64 Lx xs ∧ xs.length = ds.length ∧ i ≤ ds.length ∧ ts = fr 226 [(0, i64 line), (1, i64 f), (2, i64 b), (3, i64 A), (4, i64 v), (5, boo d), (15, .one (.c (.row 2 1 none))), (16, .one (.c (.row 3 1 none))), (17, .one (.c (.ptr 0 (.lit 0) 6 0))), (49, i64 (I.ofNat (I.len l1))), (50, i64 z)] ∧
        m = [.lit 6 [ent (.sym f) (.sym b) (.sym line) (.sym 0) (.sym d) (.row 1 1 none)], .sym 1 l1, .sym 1 l1, .sym 1 Lx])
      ds.length _ _ [3, 2, 0, 1] [] [0, 1, 2, 3, 4, 5, 15, 16, 17, 49, 50] (by decide) rfl rfl rfl ⟨0, 0, at_, _, _, l1, ds, rfl, rfl, hD, rfl, Nat.zero_le _, rfl, rfl⟩ ?_
  all_goals rintro next n hnext ts m ⟨i, z, A, f, b, Lx, xs, hn, hz, hLx, hxs, hi, rfl, rfl⟩
  all_goals have hld : I.len l1 = ds.length := by rw [← hD.len, hI]; rfl
  all_goals have hlx : I.len Lx = ds.length := by rw [← hxs, ← hLx.len, hI]; rfl
  all_goals have hd6 : ds.length ≤ 6 := by rw [hds]; simp; omega
  all_goals cbv
  all_goals
    refine .br (fun g1 => ?_) (fun g1 => ?_)
    · have hi1 : i < ds.length := by
        have g' : rCmp .lss z ((I.len l1 : Nat) : Int) = true := by rw [hI] at g1 ⊢; exact g1
        rw [hld] at g'
        have : z < (ds.length : Nat) := by simpa [rCmp] using g'
        unfold isN at hz
        omega
      obtain ⟨x, hx⟩ : ∃ x, xs[i]? = some x := ⟨_, List.getElem?_eq_getElem (by omega)⟩
      have hr : Lx[i]? = some [.int .i64 (.sym x)] := by rw [hLx.get, hx]; rfl
      have hz1 : isN (I.bin .add .i64 z 1) (i + 1) := by unfold isN at hz ⊢; rw [hI]; simp only [ints, rBin]; rw [wrap_in] <;> omega
      cbv
      refine .idx i hz (show i < I.len Lx from by rw [hlx]; exact hi1) (.nth _ hr ?_)
      cbv
      refine .idx i hz (show i < I.len Lx from by rw [hlx]; exact hi1) (.nth _ hr ?_)
      cbv
      have hset : isL .i64 (I.set Lx i [.int .i64 (.sym (I.bin .xor .i64 x 1))]) (xs.set i (I.bin .xor .i64 x 1)) := by
        unfold isL at hLx ⊢
        rw [hI, hLx]
        show (nrow .i64 xs).set i _ = _
        simp [nrow, List.map_set]
      exact hnext _ _ (ds.length - (i + 1)) [0, 1, 2, 3] [] [0, 1, 2, 3, 4, 5, 15, 16, 17, 49, 50] _ _ (by omega) (by decide) rfl rfl rfl ⟨i + 1, _, A, f, b, _, xs.set i (I.bin .xor .i64 x 1), rfl, hz1, hset, by rw [List.length_set]; exact hxs, hi1, rfl, rfl⟩
    · have hDn : I.len l1 = ds.length := hld
      have hbd : ∀ q : Int, inB q ds.length = (decide (0 ≤ q) && decide (q < (ds.length : Nat))) := fun _ => rfl
      cbv
      refine .br (fun g5 => ?_) (fun g5 => ?_)
      · have hA0 : 0 ≤ A := by simpa [hI, ints, rCmp] using g5
        obtain ⟨a, ha⟩ : ∃ a : Nat, isN A a := ⟨A.toNat, by unfold isN; omega⟩
        cbv
        refine .br (fun g6 => ?_) (fun g6 => ?_)
        · have hlt : a < ds.length := by
            have h' : rCmp .lss A ((I.len l1 : Nat) : Int) = true := by rw [hI] at g6 ⊢; exact g6
            rw [hld] at h'
            have : A < (ds.length : Nat) := by simpa [rCmp] using h'
            unfold isN at ha
            omega
          have hin : inB A ds.length = true := in_t ha hlt
          obtain ⟨x, hx⟩ : ∃ x, ds[a]? = some x := ⟨_, List.getElem?_eq_getElem hlt⟩
          have hr : l1[a]? = some [.int .i64 (.sym x)] := by rw [hD.get, hx]; rfl
          have hword : (if inB A ds.length then ds.getD A.toNat 0 else 0) = x := by
            rw [hin, show A.toNat = a by unfold isN at ha; omega]
            simp [List.getD_eq_getElem?_getD, hx]
          cbv
          refine .idx a ha (show a < I.len l1 from by rw [hld]; exact hlt) (.nth _ hr ?_)
          cbv
          as_aux_lemma =>
            refine br_f (by rw [hI] <;> simp [ints, rCmp]) ?_
            cbv
            refine br_f (by rw [hI] <;> simp [ints, rCmp]) ?_
            cbv
            refine br_f (by rw [hI] <;> simp [ints, rCmp]) ?_
            cbv
            refine br_f (by rw [hI] <;> simp [ints, rCmp]) ?_
            cbv
            refine br_f (by rw [hI] <;> simp [ints, rCmp]) ?_
            cbv
            refine .go [] [] [.bor 1, .bor 1] (same hp _ _ _ _ hD hD hDl) rfl rfl rfl rfl rfl rfl ?_
            rintro r m1 ⟨t1, ht1, rfl, rfl⟩
            have ht1 : t1 = true := by rw [ht1] <;> simp
            cbv
            refine br_f (by rw [hI, ht1]; rfl) ?_
            cbv
            refine .go [] [] [.bor 1, .keep] (word hp _ _ _ _ (.sym A) _ l1 ds hD) rfl rfl rfl rfl rfl rfl ?_
            rintro r m1 ⟨t2, ht2, rfl, rfl⟩
            replace ht2 : t2 = x := by rw [ht2]; exact hword
            cbv
            refine br_f (by rw [hI, ht2] <;> simp [ints, rCmp]) ?_
            cbv
            refine .go [] [] [] (head hp _ _) rfl rfl rfl rfl rfl rfl ?_
            rintro r m1 ⟨t3, ht3, rfl, rfl⟩
            replace ht3 : t3 = (b == -1) := ht3
            cbv
            refine br_f (show I.not (I.beq t3 (I.cmp .eql b (-1))) = false from by rw [ht3, hI] <;> simp [ints, rCmp]) ?_
            cbv
            refine .go [] [] [] (tail hp _ _) rfl rfl rfl rfl rfl rfl ?_
            rintro r m1 ⟨t4, ht4, rfl, rfl⟩
            replace ht4 : t4 = (f == -1) := ht4
            cbv
            refine br_f (show I.not (I.beq t4 (I.cmp .eql f (-1))) = false from by rw [ht4, hI] <;> simp [ints, rCmp]) ?_
            cbv
            refine .go [] [] [] (only hp _ _) rfl rfl rfl rfl rfl rfl ?_
            rintro r m1 ⟨t5, ht5, rfl, rfl⟩
            replace ht5 : t5 = ((b == -1) && (f == -1)) := ht5
            cbv
            refine .br (fun g7 => ?_) (fun g7 => ?_)
            · have h7 : (f == -1) = true := by
                have g8 : I.cmp .eql f (-1) = true := g7
                rw [hI] at g8
                exact g8
              cbv
              refine br_f (show I.not (I.beq t5 (I.cmp .eql b (-1))) = false from by rw [ht5, h7, hI] <;> simp [ints, rCmp]) ?_
              cbv
              as_aux_lemma =>
                refine .go [] [] [.bor 1] (eclone hp _ _ _ _ _ l1 hDl) rfl rfl rfl rfl rfl rfl ?_
                rintro r m1 ⟨rfl, rfl⟩
                cbv
                refine .go [0, 1] [] [] (write hp _ _ _ _ (.sym A) (.sym v) _ l1 ds hD hDl) rfl rfl rfl rfl rfl rfl ?_
                rintro r m1 ⟨ok, hok, rfl, hm⟩
                replace hok : ok = (d && true) := by rw [hok, ← hin] <;> rfl
                rcases hm with ⟨hm, rfl⟩ | ⟨hm, L1, hL1, rfl⟩
                · as_aux_lemma =>
                  cbv
                  refine br_t (show I.cmp .lss A (I.ofNat (I.len l1)) = true from g6) ?_
                  cbv
                  refine br_f (show I.not (I.beq ok _) = false from by rw [hok, hI] <;> simp [ints]) ?_
                  cbv
                  refine br_f hm ?_
                  cbv
                  refine br_t (show I.not ok = true from by rw [hm, hI] <;> rfl) ?_
                  cbv
                  refine .go [] [] [.bor 1, .bor 1] (same hp _ _ _ _ hD hD hDl) rfl rfl rfl rfl rfl rfl ?_
                  rintro r m1 ⟨t6, ht6, rfl, rfl⟩
                  have ht6 : t6 = true := by rw [ht6] <;> simp
                  cbv
                  refine br_f (by rw [hI, ht6] <;> rfl) ?_
                  cbv
                  refine .go [] [] [.bor 1, .bor 1] (same hp _ _ _ _ hD hD hDl) rfl rfl rfl rfl rfl rfl ?_
                  rintro r m1 ⟨t7, ht7, rfl, rfl⟩
                  have ht7 : t7 = true := by rw [ht7] <;> simp
                  cbv
                  refine br_f (by rw [hI, ht7] <;> rfl) ?_
                  cbv
                  refine .go [0, 1] [] [] (setFwd hp _ _ _ _ _ _ _) rfl rfl rfl rfl rfl rfl ?_
                  rintro r m1 ⟨rfl, rfl⟩
                  cbv
                  refine .go [0, 1] [] [] (setBack hp _ _ _ _ _ _ _) rfl rfl rfl rfl rfl rfl ?_
                  rintro r m1 ⟨rfl, rfl⟩
                  cbv
                  refine br_t (by rw [hI] <;> simp [ints, rCmp]) ?_
                  cbv
                  refine br_t (by rw [hI] <;> simp [ints, rCmp]) ?_
                  cbv
                  refine br_t (by rw [hI] <;> simp [ints, rCmp]) ?_
                  cbv
                  refine br_t (by rw [hI] <;> simp [ints, rCmp]) ?_
                  cbv
                  refine br_t (by rw [hI] <;> simp [ints, rCmp]) ?_
                  cbv
                  refine .go [] [] [] (wakes hp) rfl rfl rfl rfl rfl rfl ?_
                  rintro r m1 ⟨rfl, rfl⟩
                  cbv
                  exact hP _ _ [] [] _ _ .nil rfl rfl rfl rfl rfl ⟨_, rfl, rfl⟩
                · have hd : d = true := ok_d hok hm
                  have hi3 : true = true := ok_q hok hm
                  first
                    | (exfalso; cases hi3; done)
                    | skip
                  all_goals as_aux_lemma =>
                  cbv
                  refine br_t (show I.cmp .lss A (I.ofNat (I.len l1)) = true from g6) ?_
                  cbv
                  refine br_f (show I.not (I.beq ok _) = false from by rw [hok, hI] <;> simp [ints]) ?_
                  cbv
                  refine br_t hm ?_
                  cbv
                  refine .go [] [] [.bor 1, .keep] (word hp _ _ _ _ (.sym A) _ L1 (ds.set A.toNat v) hL1) rfl rfl rfl rfl rfl rfl ?_
                  rintro r m1 ⟨t6, ht6, rfl, rfl⟩
                  replace ht6 : t6 = v := by rw [ht6]; exact put_get hin
                  cbv
                  refine br_f (by rw [hI, ht6] <;> simp [ints, rCmp]) ?_
                  cbv
                  refine br_f (show I.not ok = false from by rw [hm, hI] <;> rfl) ?_
                  cbv
                  refine .go [] [] [.bor 1, .bor 1] (same hp _ _ _ _ hD hD hDl) rfl rfl rfl rfl rfl rfl ?_
                  rintro r m1 ⟨t7, ht7, rfl, rfl⟩
                  have ht7 : t7 = true := by rw [ht7] <;> simp
                  cbv
                  refine br_f (by rw [hI, ht7] <;> rfl) ?_
                  cbv
                  refine .go [0, 6] [] [] (setFwd hp _ _ _ _ _ _ _) rfl rfl rfl rfl rfl rfl ?_
                  rintro r m1 ⟨rfl, rfl⟩
                  cbv
                  refine .go [0, 6] [] [] (setBack hp _ _ _ _ _ _ _) rfl rfl rfl rfl rfl rfl ?_
                  rintro r m1 ⟨rfl, rfl⟩
                  cbv
                  refine br_t (by rw [hI] <;> simp [ints, rCmp]) ?_
                  cbv
                  refine br_t (by rw [hI] <;> simp [ints, rCmp]) ?_
                  cbv
                  refine br_t (by rw [hI] <;> simp [ints, rCmp]) ?_
                  cbv
                  refine br_t (by rw [hI] <;> simp [ints, rCmp]) ?_
                  cbv
                  refine br_t (by rw [hI] <;> simp [ints, rCmp]) ?_
                  cbv
                  refine .go [] [] [] (wakes hp) rfl rfl rfl rfl rfl rfl ?_
                  rintro r m1 ⟨rfl, rfl⟩
                  cbv
                  exact hP _ _ [] [] _ _ .nil rfl rfl rfl rfl rfl ⟨_, rfl, rfl⟩
            · have h7 : (f == -1) = false := by
                have g8 : I.cmp .eql f (-1) = false := g7
                rw [hI] at g8
                exact g8
              cbv
              refine br_f (show I.not (I.beq t5 false) = false from by rw [ht5, h7, hI] <;> simp [ints]) ?_
              cbv
              as_aux_lemma =>
                refine .go [] [] [.bor 1] (eclone hp _ _ _ _ _ l1 hDl) rfl rfl rfl rfl rfl rfl ?_
                rintro r m1 ⟨rfl, rfl⟩
                cbv
                refine .go [0, 1] [] [] (write hp _ _ _ _ (.sym A) (.sym v) _ l1 ds hD hDl) rfl rfl rfl rfl rfl rfl ?_
                rintro r m1 ⟨ok, hok, rfl, hm⟩
                replace hok : ok = (d && true) := by rw [hok, ← hin] <;> rfl
                rcases hm with ⟨hm, rfl⟩ | ⟨hm, L1, hL1, rfl⟩
                · as_aux_lemma =>
                  cbv
                  refine br_t (show I.cmp .lss A (I.ofNat (I.len l1)) = true from g6) ?_
                  cbv
                  refine br_f (show I.not (I.beq ok _) = false from by rw [hok, hI] <;> simp [ints]) ?_
                  cbv
                  refine br_f hm ?_
                  cbv
                  refine br_t (show I.not ok = true from by rw [hm, hI] <;> rfl) ?_
                  cbv
                  refine .go [] [] [.bor 1, .bor 1] (same hp _ _ _ _ hD hD hDl) rfl rfl rfl rfl rfl rfl ?_
                  rintro r m1 ⟨t6, ht6, rfl, rfl⟩
                  have ht6 : t6 = true := by rw [ht6] <;> simp
                  cbv
                  refine br_f (by rw [hI, ht6] <;> rfl) ?_
                  cbv
                  refine .go [] [] [.bor 1, .bor 1] (same hp _ _ _ _ hD hD hDl) rfl rfl rfl rfl rfl rfl ?_
                  rintro r m1 ⟨t7, ht7, rfl, rfl⟩
                  have ht7 : t7 = true := by rw [ht7] <;> simp
                  cbv
                  refine br_f (by rw [hI, ht7] <;> rfl) ?_
                  cbv
                  refine .go [0, 1] [] [] (setFwd hp _ _ _ _ _ _ _) rfl rfl rfl rfl rfl rfl ?_
                  rintro r m1 ⟨rfl, rfl⟩
                  cbv
                  refine .go [0, 1] [] [] (setBack hp _ _ _ _ _ _ _) rfl rfl rfl rfl rfl rfl ?_
                  rintro r m1 ⟨rfl, rfl⟩
                  cbv
                  refine br_t (by rw [hI] <;> simp [ints, rCmp]) ?_
                  cbv
                  refine br_t (by rw [hI] <;> simp [ints, rCmp]) ?_
                  cbv
                  refine br_t (by rw [hI] <;> simp [ints, rCmp]) ?_
                  cbv
                  refine br_t (by rw [hI] <;> simp [ints, rCmp]) ?_
                  cbv
                  refine br_t (by rw [hI] <;> simp [ints, rCmp]) ?_
                  cbv
                  refine .go [] [] [] (wakes hp) rfl rfl rfl rfl rfl rfl ?_
                  rintro r m1 ⟨rfl, rfl⟩
                  cbv
                  exact hP _ _ [] [] _ _ .nil rfl rfl rfl rfl rfl ⟨_, rfl, rfl⟩
                · have hd : d = true := ok_d hok hm
                  have hi3 : true = true := ok_q hok hm
                  first
                    | (exfalso; cases hi3; done)
                    | skip
                  all_goals as_aux_lemma =>
                  cbv
                  refine br_t (show I.cmp .lss A (I.ofNat (I.len l1)) = true from g6) ?_
                  cbv
                  refine br_f (show I.not (I.beq ok _) = false from by rw [hok, hI] <;> simp [ints]) ?_
                  cbv
                  refine br_t hm ?_
                  cbv
                  refine .go [] [] [.bor 1, .keep] (word hp _ _ _ _ (.sym A) _ L1 (ds.set A.toNat v) hL1) rfl rfl rfl rfl rfl rfl ?_
                  rintro r m1 ⟨t6, ht6, rfl, rfl⟩
                  replace ht6 : t6 = v := by rw [ht6]; exact put_get hin
                  cbv
                  refine br_f (by rw [hI, ht6] <;> simp [ints, rCmp]) ?_
                  cbv
                  refine br_f (show I.not ok = false from by rw [hm, hI] <;> rfl) ?_
                  cbv
                  refine .go [] [] [.bor 1, .bor 1] (same hp _ _ _ _ hD hD hDl) rfl rfl rfl rfl rfl rfl ?_
                  rintro r m1 ⟨t7, ht7, rfl, rfl⟩
                  have ht7 : t7 = true := by rw [ht7] <;> simp
                  cbv
                  refine br_f (by rw [hI, ht7] <;> rfl) ?_
                  cbv
                  refine .go [0, 6] [] [] (setFwd hp _ _ _ _ _ _ _) rfl rfl rfl rfl rfl rfl ?_
                  rintro r m1 ⟨rfl, rfl⟩
                  cbv
                  refine .go [0, 6] [] [] (setBack hp _ _ _ _ _ _ _) rfl rfl rfl rfl rfl rfl ?_
                  rintro r m1 ⟨rfl, rfl⟩
                  cbv
                  refine br_t (by rw [hI] <;> simp [ints, rCmp]) ?_
                  cbv
                  refine br_t (by rw [hI] <;> simp [ints, rCmp]) ?_
                  cbv
                  refine br_t (by rw [hI] <;> simp [ints, rCmp]) ?_
                  cbv
                  refine br_t (by rw [hI] <;> simp [ints, rCmp]) ?_
                  cbv
                  refine br_t (by rw [hI] <;> simp [ints, rCmp]) ?_
                  cbv
                  refine .go [] [] [] (wakes hp) rfl rfl rfl rfl rfl rfl ?_
                  rintro r m1 ⟨rfl, rfl⟩
                  cbv
                  exact hP _ _ [] [] _ _ .nil rfl rfl rfl rfl rfl ⟨_, rfl, rfl⟩
        · have hin : inB A ds.length = false := in_f (by
            have h' : rCmp .lss A ((I.len l1 : Nat) : Int) = false := by rw [hI] at g6 ⊢; exact g6
            rw [hld] at h'
            simpa [rCmp] using h')
          have hword : (if inB A ds.length then ds.getD A.toNat 0 else 0) = 0 := by rw [hin]; rfl
          cbv
          as_aux_lemma =>
            refine br_f (by rw [hI] <;> simp [ints, rCmp]) ?_
            cbv
            refine br_f (by rw [hI] <;> simp [ints, rCmp]) ?_
            cbv
            refine br_f (by rw [hI] <;> simp [ints, rCmp]) ?_
            cbv
            refine br_f (by rw [hI] <;> simp [ints, rCmp]) ?_
            cbv
            refine br_f (by rw [hI] <;> simp [ints, rCmp]) ?_
            cbv
            refine .go [] [] [.bor 1, .bor 1] (same hp _ _ _ _ hD hD hDl) rfl rfl rfl rfl rfl rfl ?_
            rintro r m1 ⟨t1, ht1, rfl, rfl⟩
            have ht1 : t1 = true := by rw [ht1] <;> simp
            cbv
            refine br_f (by rw [hI, ht1]; rfl) ?_
            cbv
            refine .go [] [] [.bor 1, .keep] (word hp _ _ _ _ (.sym A) _ l1 ds hD) rfl rfl rfl rfl rfl rfl ?_
            rintro r m1 ⟨t2, ht2, rfl, rfl⟩
            replace ht2 : t2 = 0 := by rw [ht2]; exact hword
            cbv
            refine br_f (by rw [hI, ht2] <;> simp [ints, rCmp]) ?_
            cbv
            refine .go [] [] [] (head hp _ _) rfl rfl rfl rfl rfl rfl ?_
            rintro r m1 ⟨t3, ht3, rfl, rfl⟩
            replace ht3 : t3 = (b == -1) := ht3
            cbv
            refine br_f (show I.not (I.beq t3 (I.cmp .eql b (-1))) = false from by rw [ht3, hI] <;> simp [ints, rCmp]) ?_
            cbv
            refine .go [] [] [] (tail hp _ _) rfl rfl rfl rfl rfl rfl ?_
            rintro r m1 ⟨t4, ht4, rfl, rfl⟩
            replace ht4 : t4 = (f == -1) := ht4
            cbv
            refine br_f (show I.not (I.beq t4 (I.cmp .eql f (-1))) = false from by rw [ht4, hI] <;> simp [ints, rCmp]) ?_
            cbv
            refine .go [] [] [] (only hp _ _) rfl rfl rfl rfl rfl rfl ?_
            rintro r m1 ⟨t5, ht5, rfl, rfl⟩
            replace ht5 : t5 = ((b == -1) && (f == -1)) := ht5
            cbv
            refine .br (fun g7 => ?_) (fun g7 => ?_)
            · have h7 : (f == -1) = true := by
                have g8 : I.cmp .eql f (-1) = true := g7
                rw [hI] at g8
                exact g8
              cbv
              refine br_f (show I.not (I.beq t5 (I.cmp .eql b (-1))) = false from by rw [ht5, h7, hI] <;> simp [ints, rCmp]) ?_
              cbv
              as_aux_lemma =>
                refine .go [] [] [.bor 1] (eclone hp _ _ _ _ _ l1 hDl) rfl rfl rfl rfl rfl rfl ?_
                rintro r m1 ⟨rfl, rfl⟩
                cbv
                refine .go [0, 1] [] [] (write hp _ _ _ _ (.sym A) (.sym v) _ l1 ds hD hDl) rfl rfl rfl rfl rfl rfl ?_
                rintro r m1 ⟨ok, hok, rfl, hm⟩
                replace hok : ok = (d && false) := by rw [hok, ← hin] <;> rfl
                rcases hm with ⟨hm, rfl⟩ | ⟨hm, L1, hL1, rfl⟩
                · as_aux_lemma =>
                  cbv
                  refine br_f (show I.cmp .lss A (I.ofNat (I.len l1)) = false from g6) ?_
                  cbv
                  refine br_f (show I.not (I.beq ok _) = false from by rw [hok, hI] <;> simp [ints]) ?_
                  cbv
                  refine br_f hm ?_
                  cbv
                  refine br_t (show I.not ok = true from by rw [hm, hI] <;> rfl) ?_
                  cbv
                  refine .go [] [] [.bor 1, .bor 1] (same hp _ _ _ _ hD hD hDl) rfl rfl rfl rfl rfl rfl ?_
                  rintro r m1 ⟨t6, ht6, rfl, rfl⟩
                  have ht6 : t6 = true := by rw [ht6] <;> simp
                  cbv
                  refine br_f (by rw [hI, ht6] <;> rfl) ?_
                  cbv
                  refine .go [] [] [.bor 1, .bor 1] (same hp _ _ _ _ hD hD hDl) rfl rfl rfl rfl rfl rfl ?_
                  rintro r m1 ⟨t7, ht7, rfl, rfl⟩
                  have ht7 : t7 = true := by rw [ht7] <;> simp
                  cbv
                  refine br_f (by rw [hI, ht7] <;> rfl) ?_
                  cbv
                  refine .go [0, 1] [] [] (setFwd hp _ _ _ _ _ _ _) rfl rfl rfl rfl rfl rfl ?_
                  rintro r m1 ⟨rfl, rfl⟩
                  cbv
                  refine .go [0, 1] [] [] (setBack hp _ _ _ _ _ _ _) rfl rfl rfl rfl rfl rfl ?_
                  rintro r m1 ⟨rfl, rfl⟩
                  cbv
                  refine br_t (by rw [hI] <;> simp [ints, rCmp]) ?_
                  cbv
                  refine br_t (by rw [hI] <;> simp [ints, rCmp]) ?_
                  cbv
                  refine br_t (by rw [hI] <;> simp [ints, rCmp]) ?_
                  cbv
                  refine br_t (by rw [hI] <;> simp [ints, rCmp]) ?_
                  cbv
                  refine br_t (by rw [hI] <;> simp [ints, rCmp]) ?_
                  cbv
                  refine .go [] [] [] (wakes hp) rfl rfl rfl rfl rfl rfl ?_
                  rintro r m1 ⟨rfl, rfl⟩
                  cbv
                  exact hP _ _ [] [] _ _ .nil rfl rfl rfl rfl rfl ⟨_, rfl, rfl⟩
                · have hd : d = true := ok_d hok hm
                  have hi3 : false = true := ok_q hok hm
                  first
                    | (exfalso; cases hi3; done)
                    | skip
                  all_goals as_aux_lemma =>
                  cbv
                  refine br_f (show I.cmp .lss A (I.ofNat (I.len l1)) = false from g6) ?_
                  cbv
                  refine br_f (show I.not (I.beq ok _) = false from by rw [hok, hI] <;> simp [ints]) ?_
                  cbv
                  refine br_t hm ?_
                  cbv
                  refine .go [] [] [.bor 1, .keep] (word hp _ _ _ _ (.sym A) _ L1 (ds.set A.toNat v) hL1) rfl rfl rfl rfl rfl rfl ?_
                  rintro r m1 ⟨t6, ht6, rfl, rfl⟩
                  replace ht6 : t6 = v := by rw [ht6]; exact put_get hin
                  cbv
                  refine br_f (by rw [hI, ht6] <;> simp [ints, rCmp]) ?_
                  cbv
                  refine br_f (show I.not ok = false from by rw [hm, hI] <;> rfl) ?_
                  cbv
                  refine .go [] [] [.bor 1, .bor 1] (same hp _ _ _ _ hD hD hDl) rfl rfl rfl rfl rfl rfl ?_
                  rintro r m1 ⟨t7, ht7, rfl, rfl⟩
                  have ht7 : t7 = true := by rw [ht7] <;> simp
                  cbv
                  refine br_f (by rw [hI, ht7] <;> rfl) ?_
                  cbv
                  refine .go [0, 6] [] [] (setFwd hp _ _ _ _ _ _ _) rfl rfl rfl rfl rfl rfl ?_
                  rintro r m1 ⟨rfl, rfl⟩
                  cbv
                  refine .go [0, 6] [] [] (setBack hp _ _ _ _ _ _ _) rfl rfl rfl rfl rfl rfl ?_
                  rintro r m1 ⟨rfl, rfl⟩
                  cbv
                  refine br_t (by rw [hI] <;> simp [ints, rCmp]) ?_
                  cbv
                  refine br_t (by rw [hI] <;> simp [ints, rCmp]) ?_
                  cbv
                  refine br_t (by rw [hI] <;> simp [ints, rCmp]) ?_
                  cbv
                  refine br_t (by rw [hI] <;> simp [ints, rCmp]) ?_
                  cbv
                  refine br_t (by rw [hI] <;> simp [ints, rCmp]) ?_
                  cbv
                  refine .go [] [] [] (wakes hp) rfl rfl rfl rfl rfl rfl ?_
                  rintro r m1 ⟨rfl, rfl⟩
                  cbv
                  exact hP _ _ [] [] _ _ .nil rfl rfl rfl rfl rfl ⟨_, rfl, rfl⟩
            · have h7 : (f == -1) = false := by
                have g8 : I.cmp .eql f (-1) = false := g7
                rw [hI] at g8
                exact g8
              cbv
              refine br_f (show I.not (I.beq t5 false) = false from by rw [ht5, h7, hI] <;> simp [ints]) ?_
              cbv
              as_aux_lemma =>
                refine .go [] [] [.bor 1] (eclone hp _ _ _ _ _ l1 hDl) rfl rfl rfl rfl rfl rfl ?_
                rintro r m1 ⟨rfl, rfl⟩
                cbv
                refine .go [0, 1] [] [] (write hp _ _ _ _ (.sym A) (.sym v) _ l1 ds hD hDl) rfl rfl rfl rfl rfl rfl ?_
                rintro r m1 ⟨ok, hok, rfl, hm⟩
                replace hok : ok = (d && false) := by rw [hok, ← hin] <;> rfl
                rcases hm with ⟨hm, rfl⟩ | ⟨hm, L1, hL1, rfl⟩
                · as_aux_lemma =>
                  cbv
                  refine br_f (show I.cmp .lss A (I.ofNat (I.len l1)) = false from g6) ?_
                  cbv
                  refine br_f (show I.not (I.beq ok _) = false from by rw [hok, hI] <;> simp [ints]) ?_
                  cbv
                  refine br_f hm ?_
                  cbv
                  refine br_t (show I.not ok = true from by rw [hm, hI] <;> rfl) ?_
                  cbv
                  refine .go [] [] [.bor 1, .bor 1] (same hp _ _ _ _ hD hD hDl) rfl rfl rfl rfl rfl rfl ?_
                  rintro r m1 ⟨t6, ht6, rfl, rfl⟩
                  have ht6 : t6 = true := by rw [ht6] <;> simp
                  cbv
                  refine br_f (by rw [hI, ht6] <;> rfl) ?_
                  cbv
                  refine .go [] [] [.bor 1, .bor 1] (same hp _ _ _ _ hD hD hDl) rfl rfl rfl rfl rfl rfl ?_
                  rintro r m1 ⟨t7, ht7, rfl, rfl⟩
                  have ht7 : t7 = true := by rw [ht7] <;> simp
                  cbv
                  refine br_f (by rw [hI, ht7] <;> rfl) ?_
                  cbv
                  refine .go [0, 1] [] [] (setFwd hp _ _ _ _ _ _ _) rfl rfl rfl rfl rfl rfl ?_
                  rintro r m1 ⟨rfl, rfl⟩
                  cbv
                  refine .go [0, 1] [] [] (setBack hp _ _ _ _ _ _ _) rfl rfl rfl rfl rfl rfl ?_
                  rintro r m1 ⟨rfl, rfl⟩
                  cbv
                  refine br_t (by rw [hI] <;> simp [ints, rCmp]) ?_
                  cbv
                  refine br_t (by rw [hI] <;> simp [ints, rCmp]) ?_
                  cbv
                  refine br_t (by rw [hI] <;> simp [ints, rCmp]) ?_
                  cbv
                  refine br_t (by rw [hI] <;> simp [ints, rCmp]) ?_
                  cbv
                  refine br_t (by rw [hI] <;> simp [ints, rCmp]) ?_
                  cbv
                  refine .go [] [] [] (wakes hp) rfl rfl rfl rfl rfl rfl ?_
                  rintro r m1 ⟨rfl, rfl⟩
                  cbv
                  exact hP _ _ [] [] _ _ .nil rfl rfl rfl rfl rfl ⟨_, rfl, rfl⟩
                · have hd : d = true := ok_d hok hm
                  have hi3 : false = true := ok_q hok hm
                  first
                    | (exfalso; cases hi3; done)
                    | skip
                  all_goals as_aux_lemma =>
                  cbv
                  refine br_f (show I.cmp .lss A (I.ofNat (I.len l1)) = false from g6) ?_
                  cbv
                  refine br_f (show I.not (I.beq ok _) = false from by rw [hok, hI] <;> simp [ints]) ?_
                  cbv
                  refine br_t hm ?_
                  cbv
                  refine .go [] [] [.bor 1, .keep] (word hp _ _ _ _ (.sym A) _ L1 (ds.set A.toNat v) hL1) rfl rfl rfl rfl rfl rfl ?_
                  rintro r m1 ⟨t6, ht6, rfl, rfl⟩
                  replace ht6 : t6 = v := by rw [ht6]; exact put_get hin
                  cbv
                  refine br_f (by rw [hI, ht6] <;> simp [ints, rCmp]) ?_
                  cbv
                  refine br_f (show I.not ok = false from by rw [hm, hI] <;> rfl) ?_
                  cbv
                  refine .go [] [] [.bor 1, .bor 1] (same hp _ _ _ _ hD hD hDl) rfl rfl rfl rfl rfl rfl ?_
                  rintro r m1 ⟨t7, ht7, rfl, rfl⟩
                  have ht7 : t7 = true := by rw [ht7] <;> simp
                  cbv
                  refine br_f (by rw [hI, ht7] <;> rfl) ?_
                  cbv
                  refine .go [0, 6] [] [] (setFwd hp _ _ _ _ _ _ _) rfl rfl rfl rfl rfl rfl ?_
                  rintro r m1 ⟨rfl, rfl⟩
                  cbv
                  refine .go [0, 6] [] [] (setBack hp _ _ _ _ _ _ _) rfl rfl rfl rfl rfl rfl ?_
                  rintro r m1 ⟨rfl, rfl⟩
                  cbv
                  refine br_t (by rw [hI] <;> simp [ints, rCmp]) ?_
                  cbv
                  refine br_t (by rw [hI] <;> simp [ints, rCmp]) ?_
                  cbv
                  refine br_t (by rw [hI] <;> simp [ints, rCmp]) ?_
                  cbv
                  refine br_t (by rw [hI] <;> simp [ints, rCmp]) ?_
                  cbv
                  refine br_t (by rw [hI] <;> simp [ints, rCmp]) ?_
                  cbv
                  refine .go [] [] [] (wakes hp) rfl rfl rfl rfl rfl rfl ?_
                  rintro r m1 ⟨rfl, rfl⟩
                  cbv
                  exact hP _ _ [] [] _ _ .nil rfl rfl rfl rfl rfl ⟨_, rfl, rfl⟩
      · have hA0 : A < 0 := by simpa [hI, ints, rCmp] using g5
        have hin : inB A ds.length = false := in_n hA0
        have hword : (if inB A ds.length then ds.getD A.toNat 0 else 0) = 0 := by rw [hin]; rfl
        cbv
        as_aux_lemma =>
          refine br_f (by rw [hI] <;> simp [ints, rCmp]) ?_
          cbv
          refine br_f (by rw [hI] <;> simp [ints, rCmp]) ?_
          cbv
          refine br_f (by rw [hI] <;> simp [ints, rCmp]) ?_
          cbv
          refine br_f (by rw [hI] <;> simp [ints, rCmp]) ?_
          cbv
          refine br_f (by rw [hI] <;> simp [ints, rCmp]) ?_
          cbv
          refine .go [] [] [.bor 1, .bor 1] (same hp _ _ _ _ hD hD hDl) rfl rfl rfl rfl rfl rfl ?_
          rintro r m1 ⟨t1, ht1, rfl, rfl⟩
          have ht1 : t1 = true := by rw [ht1] <;> simp
          cbv
          refine br_f (by rw [hI, ht1]; rfl) ?_
          cbv
          refine .go [] [] [.bor 1, .keep] (word hp _ _ _ _ (.sym A) _ l1 ds hD) rfl rfl rfl rfl rfl rfl ?_
          rintro r m1 ⟨t2, ht2, rfl, rfl⟩
          replace ht2 : t2 = 0 := by rw [ht2]; exact hword
          cbv
          refine br_f (by rw [hI, ht2] <;> simp [ints, rCmp]) ?_
          cbv
          refine .go [] [] [] (head hp _ _) rfl rfl rfl rfl rfl rfl ?_
          rintro r m1 ⟨t3, ht3, rfl, rfl⟩
          replace ht3 : t3 = (b == -1) := ht3
          cbv
          refine br_f (show I.not (I.beq t3 (I.cmp .eql b (-1))) = false from by rw [ht3, hI] <;> simp [ints, rCmp]) ?_
          cbv
          refine .go [] [] [] (tail hp _ _) rfl rfl rfl rfl rfl rfl ?_
          rintro r m1 ⟨t4, ht4, rfl, rfl⟩
          replace ht4 : t4 = (f == -1) := ht4
          cbv
          refine br_f (show I.not (I.beq t4 (I.cmp .eql f (-1))) = false from by rw [ht4, hI] <;> simp [ints, rCmp]) ?_
          cbv
          refine .go [] [] [] (only hp _ _) rfl rfl rfl rfl rfl rfl ?_
          rintro r m1 ⟨t5, ht5, rfl, rfl⟩
          replace ht5 : t5 = ((b == -1) && (f == -1)) := ht5
          cbv
          refine .br (fun g7 => ?_) (fun g7 => ?_)
          · have h7 : (f == -1) = true := by
              have g8 : I.cmp .eql f (-1) = true := g7
              rw [hI] at g8
              exact g8
            cbv
            refine br_f (show I.not (I.beq t5 (I.cmp .eql b (-1))) = false from by rw [ht5, h7, hI] <;> simp [ints, rCmp]) ?_
            cbv
            as_aux_lemma =>
              refine .go [] [] [.bor 1] (eclone hp _ _ _ _ _ l1 hDl) rfl rfl rfl rfl rfl rfl ?_
              rintro r m1 ⟨rfl, rfl⟩
              cbv
              refine .go [0, 1] [] [] (write hp _ _ _ _ (.sym A) (.sym v) _ l1 ds hD hDl) rfl rfl rfl rfl rfl rfl ?_
              rintro r m1 ⟨ok, hok, rfl, hm⟩
              replace hok : ok = (d && false) := by rw [hok, ← hin] <;> rfl
              rcases hm with ⟨hm, rfl⟩ | ⟨hm, L1, hL1, rfl⟩
              · as_aux_lemma =>
                cbv
              
                refine br_f (show I.not (I.beq ok _) = false from by rw [hok, hI] <;> simp [ints]) ?_
                cbv
                refine br_f hm ?_
                cbv
                refine br_t (show I.not ok = true from by rw [hm, hI] <;> rfl) ?_
                cbv
                refine .go [] [] [.bor 1, .bor 1] (same hp _ _ _ _ hD hD hDl) rfl rfl rfl rfl rfl rfl ?_
                rintro r m1 ⟨t6, ht6, rfl, rfl⟩
                have ht6 : t6 = true := by rw [ht6] <;> simp
                cbv
                refine br_f (by rw [hI, ht6] <;> rfl) ?_
                cbv
                refine .go [] [] [.bor 1, .bor 1] (same hp _ _ _ _ hD hD hDl) rfl rfl rfl rfl rfl rfl ?_
                rintro r m1 ⟨t7, ht7, rfl, rfl⟩
                have ht7 : t7 = true := by rw [ht7] <;> simp
                cbv
                refine br_f (by rw [hI, ht7] <;> rfl) ?_
                cbv
                refine .go [0, 1] [] [] (setFwd hp _ _ _ _ _ _ _) rfl rfl rfl rfl rfl rfl ?_
                rintro r m1 ⟨rfl, rfl⟩
                cbv
                refine .go [0, 1] [] [] (setBack hp _ _ _ _ _ _ _) rfl rfl rfl rfl rfl rfl ?_
                rintro r m1 ⟨rfl, rfl⟩
                cbv
                refine br_t (by rw [hI] <;> simp [ints, rCmp]) ?_
                cbv
                refine br_t (by rw [hI] <;> simp [ints, rCmp]) ?_
                cbv
                refine br_t (by rw [hI] <;> simp [ints, rCmp]) ?_
                cbv
                refine br_t (by rw [hI] <;> simp [ints, rCmp]) ?_
                cbv
                refine br_t (by rw [hI] <;> simp [ints, rCmp]) ?_
                cbv
                refine .go [] [] [] (wakes hp) rfl rfl rfl rfl rfl rfl ?_
                rintro r m1 ⟨rfl, rfl⟩
                cbv
                exact hP _ _ [] [] _ _ .nil rfl rfl rfl rfl rfl ⟨_, rfl, rfl⟩
              · have hd : d = true := ok_d hok hm
                have hi3 : false = true := ok_q hok hm
                first
                  | (exfalso; cases hi3; done)
                  | skip
                all_goals as_aux_lemma =>
                cbv
              
                refine br_f (show I.not (I.beq ok _) = false from by rw [hok, hI] <;> simp [ints]) ?_
                cbv
                refine br_t hm ?_
                cbv
                refine .go [] [] [.bor 1, .keep] (word hp _ _ _ _ (.sym A) _ L1 (ds.set A.toNat v) hL1) rfl rfl rfl rfl rfl rfl ?_
                rintro r m1 ⟨t6, ht6, rfl, rfl⟩
                replace ht6 : t6 = v := by rw [ht6]; exact put_get hin
                cbv
                refine br_f (by rw [hI, ht6] <;> simp [ints, rCmp]) ?_
                cbv
                refine br_f (show I.not ok = false from by rw [hm, hI] <;> rfl) ?_
                cbv
                refine .go [] [] [.bor 1, .bor 1] (same hp _ _ _ _ hD hD hDl) rfl rfl rfl rfl rfl rfl ?_
                rintro r m1 ⟨t7, ht7, rfl, rfl⟩
                have ht7 : t7 = true := by rw [ht7] <;> simp
                cbv
                refine br_f (by rw [hI, ht7] <;> rfl) ?_
                cbv
                refine .go [0, 6] [] [] (setFwd hp _ _ _ _ _ _ _) rfl rfl rfl rfl rfl rfl ?_
                rintro r m1 ⟨rfl, rfl⟩
                cbv
                refine .go [0, 6] [] [] (setBack hp _ _ _ _ _ _ _) rfl rfl rfl rfl rfl rfl ?_
                rintro r m1 ⟨rfl, rfl⟩
                cbv
                refine br_t (by rw [hI] <;> simp [ints, rCmp]) ?_
                cbv
                refine br_t (by rw [hI] <;> simp [ints, rCmp]) ?_
                cbv
                refine br_t (by rw [hI] <;> simp [ints, rCmp]) ?_
                cbv
                refine br_t (by rw [hI] <;> simp [ints, rCmp]) ?_
                cbv
                refine br_t (by rw [hI] <;> simp [ints, rCmp]) ?_
                cbv
                refine .go [] [] [] (wakes hp) rfl rfl rfl rfl rfl rfl ?_
                rintro r m1 ⟨rfl, rfl⟩
                cbv
                exact hP _ _ [] [] _ _ .nil rfl rfl rfl rfl rfl ⟨_, rfl, rfl⟩
          · have h7 : (f == -1) = false := by
              have g8 : I.cmp .eql f (-1) = false := g7
              rw [hI] at g8
              exact g8
            cbv
            refine br_f (show I.not (I.beq t5 false) = false from by rw [ht5, h7, hI] <;> simp [ints]) ?_
            cbv
            as_aux_lemma =>
              refine .go [] [] [.bor 1] (eclone hp _ _ _ _ _ l1 hDl) rfl rfl rfl rfl rfl rfl ?_
              rintro r m1 ⟨rfl, rfl⟩
              cbv
              refine .go [0, 1] [] [] (write hp _ _ _ _ (.sym A) (.sym v) _ l1 ds hD hDl) rfl rfl rfl rfl rfl rfl ?_
              rintro r m1 ⟨ok, hok, rfl, hm⟩
              replace hok : ok = (d && false) := by rw [hok, ← hin] <;> rfl
              rcases hm with ⟨hm, rfl⟩ | ⟨hm, L1, hL1, rfl⟩
              · as_aux_lemma =>
                cbv
              
                refine br_f (show I.not (I.beq ok _) = false from by rw [hok, hI] <;> simp [ints]) ?_
                cbv
                refine br_f hm ?_
                cbv
                refine br_t (show I.not ok = true from by rw [hm, hI] <;> rfl) ?_
                cbv
                refine .go [] [] [.bor 1, .bor 1] (same hp _ _ _ _ hD hD hDl) rfl rfl rfl rfl rfl rfl ?_
                rintro r m1 ⟨t6, ht6, rfl, rfl⟩
                have ht6 : t6 = true := by rw [ht6] <;> simp
                cbv
                refine br_f (by rw [hI, ht6] <;> rfl) ?_
                cbv
                refine .go [] [] [.bor 1, .bor 1] (same hp _ _ _ _ hD hD hDl) rfl rfl rfl rfl rfl rfl ?_
                rintro r m1 ⟨t7, ht7, rfl, rfl⟩
                have ht7 : t7 = true := by rw [ht7] <;> simp
                cbv
                refine br_f (by rw [hI, ht7] <;> rfl) ?_
                cbv
                refine .go [0, 1] [] [] (setFwd hp _ _ _ _ _ _ _) rfl rfl rfl rfl rfl rfl ?_
                rintro r m1 ⟨rfl, rfl⟩
                cbv
                refine .go [0, 1] [] [] (setBack hp _ _ _ _ _ _ _) rfl rfl rfl rfl rfl rfl ?_
                rintro r m1 ⟨rfl, rfl⟩
                cbv
                refine br_t (by rw [hI] <;> simp [ints, rCmp]) ?_
                cbv
                refine br_t (by rw [hI] <;> simp [ints, rCmp]) ?_
                cbv
                refine br_t (by rw [hI] <;> simp [ints, rCmp]) ?_
                cbv
                refine br_t (by rw [hI] <;> simp [ints, rCmp]) ?_
                cbv
                refine br_t (by rw [hI] <;> simp [ints, rCmp]) ?_
                cbv
                refine .go [] [] [] (wakes hp) rfl rfl rfl rfl rfl rfl ?_
                rintro r m1 ⟨rfl, rfl⟩
                cbv
                exact hP _ _ [] [] _ _ .nil rfl rfl rfl rfl rfl ⟨_, rfl, rfl⟩
              · have hd : d = true := ok_d hok hm
                have hi3 : false = true := ok_q hok hm
                first
                  | (exfalso; cases hi3; done)
                  | skip
                all_goals as_aux_lemma =>
                cbv
              
                refine br_f (show I.not (I.beq ok _) = false from by rw [hok, hI] <;> simp [ints]) ?_
                cbv
                refine br_t hm ?_
                cbv
                refine .go [] [] [.bor 1, .keep] (word hp _ _ _ _ (.sym A) _ L1 (ds.set A.toNat v) hL1) rfl rfl rfl rfl rfl rfl ?_
                rintro r m1 ⟨t6, ht6, rfl, rfl⟩
                replace ht6 : t6 = v := by rw [ht6]; exact put_get hin
                cbv
                refine br_f (by rw [hI, ht6] <;> simp [ints, rCmp]) ?_
                cbv
                refine br_f (show I.not ok = false from by rw [hm, hI] <;> rfl) ?_
                cbv
                refine .go [] [] [.bor 1, .bor 1] (same hp _ _ _ _ hD hD hDl) rfl rfl rfl rfl rfl rfl ?_
                rintro r m1 ⟨t7, ht7, rfl, rfl⟩
                have ht7 : t7 = true := by rw [ht7] <;> simp
                cbv
                refine br_f (by rw [hI, ht7] <;> rfl) ?_
                cbv
                refine .go [0, 6] [] [] (setFwd hp _ _ _ _ _ _ _) rfl rfl rfl rfl rfl rfl ?_
                rintro r m1 ⟨rfl, rfl⟩
                cbv
                refine .go [0, 6] [] [] (setBack hp _ _ _ _ _ _ _) rfl rfl rfl rfl rfl rfl ?_
                rintro r m1 ⟨rfl, rfl⟩
                cbv
                refine br_t (by rw [hI] <;> simp [ints, rCmp]) ?_
                cbv
                refine br_t (by rw [hI] <;> simp [ints, rCmp]) ?_
                cbv
                refine br_t (by rw [hI] <;> simp [ints, rCmp]) ?_
                cbv
                refine br_t (by rw [hI] <;> simp [ints, rCmp]) ?_
                cbv
                refine br_t (by rw [hI] <;> simp [ints, rCmp]) ?_
                cbv
                refine .go [] [] [] (wakes hp) rfl rfl rfl rfl rfl rfl ?_
                rintro r m1 ⟨rfl, rfl⟩
                cbv
                exact hP _ _ [] [] _ _ .nil rfl rfl rfl rfl rfl ⟨_, rfl, rfl⟩
end
end Go.Proofs.Ytlndhigdknmokaa.E
