/- ProcPlays. -/
import Derived.Test.YtkpilokfplpjnaaQP
namespace Go.Proofs.Ytkpilokfplpjnaa.E
open Go
set_option linter.unusedVariables false
set_option maxRecDepth 100000

section
variable {P : Program} (hp : P = Try.prog)
include hp
theorem copyO (l : List (List G)) (hl : l.length * 24 ≤ 140737488355328) : LValid P 17 [.c (.bor 3 l)] [] (fun v m1 => v = .one (.c (.row 0 3 none)) ∧ m1 = [.sym 3 l]) := by
  obtain ⟨I, hI⟩ := ref
  refine fn_sim hI (mo hp) (cc hp c17) fun Post hP => ?_
  cbv
  refine .most (by simpa [hI, ints] using hl) (by simp [hI, ints]; omega) ?_
  cbv
  exact hP _ _ [0] [] _ _ (by decide) rfl rfl rfl rfl rfl ⟨rfl, rfl⟩
set_option maxHeartbeats 16000000 in
theorem plays (K0 A0 V0 T0 : List (List G)) (ks us vls acts : List Int) (hk : isL .i64 K0 ks) (ha : isL .i64 A0 us) (hv : isL .i64 V0 vls) (ht : isL .i64 T0 acts) (hl1 : ks.length ≤ 140737488355328) (hl2 : us.length ≤ 140737488355328) (hl3 : vls.length ≤ 140737488355328) (hl4 : acts.length ≤ 140737488355328) :
    LValid P 5 [.c (.g (.rows 1 K0)), .c (.g (.rows 1 A0)), .c (.g (.rows 1 V0)), .c (.g (.rows 1 T0))] [] (fun v _ => ∃ b : BB, b.val = true ∧ v = .one (.c (.g (.bool b)))) := by
  obtain ⟨I, hI⟩ := ref
  have hle : I.len T0 = acts.length := by rw [hI]; exact ht.len
  refine fn_sim hI (mo hp) (cc hp c5) fun Post hP => ?_
  cbv
  refine .go [] [] [.bor 1, .bor 1, .bor 1] (ops hp K0 A0 V0 ks us vls hk ha hv hl1 hl2 hl3) rfl rfl rfl rfl rfl rfl ?_
  rintro r m1 ⟨L, xs, hL, hx30, rfl, rfl⟩
  have hLl : L.length = xs.length := hL.len
  have hLn : I.len L = xs.length := by rw [hI]; exact hLl
  cbv
  refine .go [] [] [.bor 3] (copyO hp L (by omega)) rfl rfl rfl rfl rfl rfl ?_
  rintro r m1 ⟨rfl, rfl⟩
  cbv
  refine .go [] [] [.bor 3] (new hp L (by omega)) rfl rfl rfl rfl rfl rfl ?_
  rintro r m1 ⟨rfl, rfl⟩
  cbv
  refine .loop_next (fun n ts m => ∃ (j : Nat) (z c : Int) (L' : List (List G)) (xs' : List (Int × Int × Int)), n = xs.length - j ∧ isN z j ∧ isN c xs.length ∧ j ≤ xs.length ∧ isO L' xs' ∧ xs'.length = xs.length ∧
      ts = fr 155 [(3, .one (.c (.g (.rows 1 T0)))), (9, .one (.c (.row 0 3 none))), (10, .one (.c (.row 1 3 none))), (11, .one (.c (.ptr 2 (.lit 0) 3 0))), (33, i64 c), (34, i64 z)] ∧ m = [.sym 3 L, .sym 3 L', .lit 3 [[.g (.rows 3 L), .row 3 1 none, .g (.bool (.sym false))]], .sym 1 []])
    xs.length _ _ [0, 1, 2, 3] [] [3, 9, 10, 11, 33, 34] (by decide) rfl rfl rfl ⟨0, 0, _, L, xs, rfl, rfl, by rw [hI]; exact congrArg Nat.cast hLl, Nat.zero_le _, hL, rfl, rfl, rfl⟩ ?_
  rintro next n hnext ts m ⟨j, z, c, L', xs', hn, hz, hc, hj, hL', hxl', rfl, rfl⟩
  cbv
  refine .br (fun g1 => ?_) (fun g1 => ?_)
  · have hj1 : j < xs.length := by
      have : z < c := by simpa [hI, ints, rCmp] using g1
      unfold isN at hz hc
      omega
    cbv
    obtain ⟨x, hx⟩ : ∃ x, xs'[j]? = some x := ⟨_, List.getElem?_eq_getElem (by omega)⟩
    have hr : L'[j]? = some [.int .i64 (.sym x.1), .int .i64 (.sym x.2.1), .int .i64 (.sym x.2.2)] := by rw [hL'.get, hx]; rfl
    have hjl : j < I.len L' := by rw [hI]; show j < L'.length; rw [hL'.len]; omega
    refine .idx j hz hjl ?_
    cbv
    refine .nth _ hr ?_
    cbv
    have hz1 : isN (I.bin .add .i64 z 1) (j + 1) := by unfold isN at hz ⊢; rw [hI]; simp only [ints, rBin]; rw [wrap_in] <;> omega
    have hset : isO (I.set L' j [.int .i64 (.sym 0), .int .i64 (.sym 0), .int .i64 (.sym 0)]) (xs'.set j (0, 0, 0)) := by
      unfold isO at hL' ⊢
      rw [hI, hL']
      show (xs'.map _).set j _ = _
      simp [List.map_set]
    exact hnext _ _ (xs.length - (j + 1)) [0, 1, 2, 3] [] [3, 9, 10, 11, 33, 34] _ _ (by omega) (by decide) rfl rfl rfl ⟨j + 1, _, c, _, _, rfl, hz1, hc, hj1, hset, by simp [hxl'], rfl, rfl⟩
  cbv
  refine .own 13 1 rfl ?_
  refine .loop_next (fun n ts m => ∃ (i : Nat) (z : Int) (b : Bool) (vs D : List (List G)) (ds : List Int), n = 40 - i ∧ isN z i ∧ i ≤ 40 ∧ isL .i64 vs ds ∧ isL .i64 D ds ∧ ds.length ≤ xs.length ∧ (b = true → ds.length < xs.length) ∧
      ts = fr 155 [(3, .one (.c (.g (.rows 1 T0)))), (9, .one (.c (.row 0 3 none))), (11, .one (.c (.ptr 1 (.lit 0) 3 0))), (13, .one (.c (.row 3 1 none))), (14, boo b), (15, i64 z)] ∧
      m = [.sym 3 L, .lit 3 [[.g (.rows 3 L), .row 2 1 none, .g (.bool (.sym b))]], .sym 1 vs, .sym 1 D])
    40 _ _ [0, 2, 3, 4] [] [3, 9, 11, 13, 14, 15] (by decide) rfl rfl rfl ⟨0, 0, false, [], [], [], rfl, rfl, by omega, rfl, rfl, Nat.zero_le _, by simp, rfl, rfl⟩ ?_
  rintro next n hnext ts m ⟨i, z2, b, vs, D, ds, hn, hz2, hi, hvs, hD, hds, hb, rfl, rfl⟩
  have hvl : vs.length = ds.length := hvs.len
  have hDn : I.len D = ds.length := by rw [hI]; exact hD.len
  cbv
  refine .br (fun g1 => ?_) (fun g1 => ?_)
  · have hi1 : i < acts.length := by
      have h' : rCmp .lss z2 ((I.len T0 : Nat) : Int) = true := by rw [hI] at g1 ⊢; exact g1
      rw [hle] at h'
      have : z2 < (acts.length : Nat) := by simpa [rCmp] using h'
      unfold isN at hz2
      omega
    cbv
    refine .br (fun g2 => ?_) (fun g2 => ?_)
    · have hi2 : i < 40 := by
        have : z2 < 40 := by simpa [hI, ints, rCmp] using g2
        unfold isN at hz2
        omega
      have hz1 : isN (I.bin .add .i64 z2 1) (i + 1) := by unfold isN at hz2 ⊢; rw [hI]; simp only [ints, rBin]; rw [wrap_in] <;> omega
      obtain ⟨x, hx⟩ : ∃ x, acts[i]? = some x := ⟨_, List.getElem?_eq_getElem hi1⟩
      have hr : T0[i]? = some [.int .i64 (.sym x)] := by rw [ht.get, hx]; rfl
      have hil : i < I.len T0 := by rw [hle]; exact hi1
      cbv
      refine .idx i hz2 hil (.nth _ hr ?_)
      cbv
      refine .br (fun g3 => ?_) (fun g3 => ?_)
      · cbv
        refine .br (fun g4 => ?_) (fun g4 => ?_)
        · obtain rfl : b = true := g4
          cbv
          refine .go [1, 2] [] [] (begin_ hp L vs (.sym true) (by omega) (by omega)) rfl rfl rfl rfl rfl rfl ?_
          rintro r m1 ⟨t, rfl, hm⟩
          obtain ⟨ht2, rfl⟩ : t = 6 ∧ m1 = [pr L (.sym true), .sym 1 vs] := by
            rcases hm with ⟨h1, _, h2⟩ | ⟨_, h, _⟩
            · exact ⟨h1, h2⟩
            · cases h
          cbv
          refine br_f (by rw [hI, ht2]; rfl) ?_
          cbv
          refine .go [1, 2] [] [] (current hp L vs xs (.sym true) hL (by omega) (by omega)) rfl rfl rfl rfl rfl rfl ?_
          rintro r m1 ⟨op, q, ok, h1, rfl, rfl⟩
          have hok : ok = decide (ds.length < xs.length) := by
            rcases h1 with ⟨h1, h2, _⟩ | ⟨h1, h2, _⟩
            · rw [h1]
              have : vs.length < xs.length := (List.getElem?_eq_some_iff.1 h2).1
              simp
              omega
            · rw [h1]
              simp
              omega
          have hlss : I.cmp .lss (I.ofNat (I.len D)) (I.ofNat (I.len L)) = decide (ds.length < xs.length) := by
            rw [hDn, hLn, hI]
            simp [ints, rCmp]
          cbv
          refine .drawn [1, 2] ?_
          cbv
          refine br_f (show I.not (I.beq ok (I.cmp .lss (I.ofNat (I.len D)) (I.ofNat (I.len L)))) = false from by rw [hlss, hok, hI]; simp [ints]) ?_
          cbv
          refine .br (fun g8 => ?_) (fun g8 => ?_)
          · have h8 : ds.length < xs.length := by
              have g9 : I.cmp .lss (I.ofNat (I.len D)) (I.ofNat (I.len L)) = true := g8
              rw [hlss] at g9
              simpa using g9
            obtain ⟨op', hop'⟩ : ∃ x, xs[ds.length]? = some x := ⟨_, List.getElem?_eq_getElem h8⟩
            have hrL : L[ds.length]? = some [.int .i64 (.sym op'.1), .int .i64 (.sym op'.2.1), .int .i64 (.sym op'.2.2)] := by rw [hL.get, hop']; rfl
            obtain ⟨hop, hq⟩ : op = op' ∧ isN q ds.length := by
              rcases h1 with ⟨_, h2, h3⟩ | ⟨_, h2, _⟩
              · rw [hvl] at h2 h3
                rw [hop'] at h2
                exact ⟨(Option.some.inj h2).symm, h3⟩
              · omega
            cbv
            refine .idx ds.length (show I.ofNat (I.len D) = _ from by rw [hDn, hI]; rfl) (show ds.length < I.len L from by rw [hLn]; exact h8) (.nth _ hrL ?_)
            cbv
            refine br_f (by rw [hI, hop]; simp [ints, rCmp]) ?_
            cbv
            refine br_f (show I.cmp .neq q (I.ofNat (I.len D)) = false from by rw [hDn, hI, show q = (ds.length : Int) from hq]; simp [ints, rCmp]) ?_
            cbv
            refine br_f (show I.not (I.cmp .lss (I.ofNat (I.len D)) (I.ofNat (I.len L))) = false from by rw [hlss, hI]; simp [ints, h8]) ?_
            cbv
          
            refine .go [1, 2] [] [] (begun hp L vs (.sym true)) rfl rfl rfl rfl rfl rfl ?_
            rintro r m1 ⟨t4, ht4, rfl, rfl⟩
            cbv
            refine br_f (by rw [hI, ht4]; simp [ints, BB.val]) ?_
            cbv
            refine .go [1, 2] [] [] (values hp L vs (.sym true) (by omega)) rfl rfl rfl rfl rfl rfl ?_
            rintro r m1 ⟨rfl, rfl⟩
            cbv
            refine .go [] [] [.bor 1, .bor 1] (same hp _ _ _ _ hvs hD (by omega)) rfl rfl rfl rfl rfl rfl ?_
            rintro r m1 ⟨t8, ht8, rfl, rfl⟩
            have ht8 : t8 = true := by rw [ht8]; simp
            cbv
            refine br_f (by rw [hI, ht8]; rfl) ?_
            cbv
            refine .go [1, 2] [] [] (left hp L vs (.sym true) (by omega) (by omega)) rfl rfl rfl rfl rfl rfl ?_
            rintro r m1 ⟨t9, ht9, rfl, rfl⟩
            cbv
            refine br_f (show I.cmp .neq t9 (I.bin .sub .i64 (I.ofNat (I.len L)) (I.ofNat (I.len D))) = false from by
              unfold isN at ht9
              rw [hDn, hLn, hI]
              simp only [ints, rBin]
              rw [wrap_in _ (by omega) (by omega)]
              simp [rCmp]
              omega) ?_
            cbv
            exact hnext _ _ (40 - (i + 1)) [0, 1, 2, 3] [] [3, 9, 11, 13, 14, 15] _ _ (by omega) (by decide) rfl rfl rfl ⟨i + 1, _, true, vs, D, ds, rfl, hz1, hi2, hvs, hD, hds, hb, rfl, rfl⟩
          · have h8 : ¬ ds.length < xs.length := by
              have g9 : I.cmp .lss (I.ofNat (I.len D)) (I.ofNat (I.len L)) = false := g8
              rw [hlss] at g9
              simpa using g9
            obtain ⟨hop, hq⟩ : op = (0, 0, 0) ∧ q = 0 := by
              rcases h1 with ⟨_, h2, h3⟩ | ⟨_, h2, h3, h4⟩
              · exact absurd (List.getElem?_eq_some_iff.1 h2).1 (by omega)
              · exact ⟨h3, h4⟩
            cbv
          
            refine br_t (show I.not (I.cmp .lss (I.ofNat (I.len D)) (I.ofNat (I.len L))) = true from by rw [hlss, hI]; simp [ints]; omega) ?_
            cbv
            refine br_f (by rw [hI, hop]; simp [ints, rCmp]) ?_
            cbv
            refine br_f (by rw [hI, hq]; simp [ints, rCmp]) ?_
            cbv
            refine .go [1, 2] [] [] (begun hp L vs (.sym true)) rfl rfl rfl rfl rfl rfl ?_
            rintro r m1 ⟨t4, ht4, rfl, rfl⟩
            cbv
            refine br_f (by rw [hI, ht4]; simp [ints, BB.val]) ?_
            cbv
            refine .go [1, 2] [] [] (values hp L vs (.sym true) (by omega)) rfl rfl rfl rfl rfl rfl ?_
            rintro r m1 ⟨rfl, rfl⟩
            cbv
            refine .go [] [] [.bor 1, .bor 1] (same hp _ _ _ _ hvs hD (by omega)) rfl rfl rfl rfl rfl rfl ?_
            rintro r m1 ⟨t8, ht8, rfl, rfl⟩
            have ht8 : t8 = true := by rw [ht8]; simp
            cbv
            refine br_f (by rw [hI, ht8]; rfl) ?_
            cbv
            refine .go [1, 2] [] [] (left hp L vs (.sym true) (by omega) (by omega)) rfl rfl rfl rfl rfl rfl ?_
            rintro r m1 ⟨t9, ht9, rfl, rfl⟩
            cbv
            refine br_f (show I.cmp .neq t9 (I.bin .sub .i64 (I.ofNat (I.len L)) (I.ofNat (I.len D))) = false from by
              unfold isN at ht9
              rw [hDn, hLn, hI]
              simp only [ints, rBin]
              rw [wrap_in _ (by omega) (by omega)]
              simp [rCmp]
              omega) ?_
            cbv
            exact hnext _ _ (40 - (i + 1)) [0, 1, 2, 3] [] [3, 9, 11, 13, 14, 15] _ _ (by omega) (by decide) rfl rfl rfl ⟨i + 1, _, true, vs, D, ds, rfl, hz1, hi2, hvs, hD, hds, hb, rfl, rfl⟩
        · obtain rfl : b = false := g4
          cbv
          refine .br (fun g5 => ?_) (fun g5 => ?_)
          · have h5 : ds.length = xs.length := by
              have h' : rCmp .eql ((I.len D : Nat) : Int) ((I.len L : Nat) : Int) = true := by rw [hI] at g5 ⊢; exact g5
              rw [hDn, hLn] at h'
              have : (ds.length : Int) = (xs.length : Int) := by simpa [rCmp] using h'
              omega
            cbv
            refine .go [1, 2] [] [] (begin_ hp L vs (.sym false) (by omega) (by omega)) rfl rfl rfl rfl rfl rfl ?_
            rintro r m1 ⟨t, rfl, hm⟩
            obtain ⟨ht2, rfl⟩ : t = 6 ∧ m1 = [pr L (.sym false), .sym 1 vs] := by
              rcases hm with ⟨h1, _, h2⟩ | ⟨_, _, h, _⟩
              · exact ⟨h1, h2⟩
              · omega
            cbv
            refine br_f (by rw [hI, ht2]; rfl) ?_
            cbv
            refine .go [1, 2] [] [] (current hp L vs xs (.sym false) hL (by omega) (by omega)) rfl rfl rfl rfl rfl rfl ?_
            rintro r m1 ⟨op, q, ok, h1, rfl, rfl⟩
            have hok : ok = decide (ds.length < xs.length) := by
              rcases h1 with ⟨h1, h2, _⟩ | ⟨h1, h2, _⟩
              · rw [h1]
                have : vs.length < xs.length := (List.getElem?_eq_some_iff.1 h2).1
                simp
                omega
              · rw [h1]
                simp
                omega
            have hlss : I.cmp .lss (I.ofNat (I.len D)) (I.ofNat (I.len L)) = decide (ds.length < xs.length) := by
              rw [hDn, hLn, hI]
              simp [ints, rCmp]
            cbv
            refine .drawn [1, 2] ?_
            cbv
            refine br_f (show I.not (I.beq ok (I.cmp .lss (I.ofNat (I.len D)) (I.ofNat (I.len L)))) = false from by rw [hlss, hok, hI]; simp [ints]) ?_
            cbv
            refine .br (fun g8 => ?_) (fun g8 => ?_)
            · have h8 : ds.length < xs.length := by
                have g9 : I.cmp .lss (I.ofNat (I.len D)) (I.ofNat (I.len L)) = true := g8
                rw [hlss] at g9
                simpa using g9
              obtain ⟨op', hop'⟩ : ∃ x, xs[ds.length]? = some x := ⟨_, List.getElem?_eq_getElem h8⟩
              have hrL : L[ds.length]? = some [.int .i64 (.sym op'.1), .int .i64 (.sym op'.2.1), .int .i64 (.sym op'.2.2)] := by rw [hL.get, hop']; rfl
              obtain ⟨hop, hq⟩ : op = op' ∧ isN q ds.length := by
                rcases h1 with ⟨_, h2, h3⟩ | ⟨_, h2, _⟩
                · rw [hvl] at h2 h3
                  rw [hop'] at h2
                  exact ⟨(Option.some.inj h2).symm, h3⟩
                · omega
              cbv
              refine .idx ds.length (show I.ofNat (I.len D) = _ from by rw [hDn, hI]; rfl) (show ds.length < I.len L from by rw [hLn]; exact h8) (.nth _ hrL ?_)
              cbv
              refine br_f (by rw [hI, hop]; simp [ints, rCmp]) ?_
              cbv
              refine br_f (show I.cmp .neq q (I.ofNat (I.len D)) = false from by rw [hDn, hI, show q = (ds.length : Int) from hq]; simp [ints, rCmp]) ?_
              cbv
              refine br_f (show I.not (I.cmp .lss (I.ofNat (I.len D)) (I.ofNat (I.len L))) = false from by rw [hlss, hI]; simp [ints, h8]) ?_
              cbv
            
              refine .go [1, 2] [] [] (begun hp L vs (.sym false)) rfl rfl rfl rfl rfl rfl ?_
              rintro r m1 ⟨t4, ht4, rfl, rfl⟩
              cbv
              refine br_f (by rw [hI, ht4]; simp [ints, BB.val]) ?_
              cbv
              refine .go [1, 2] [] [] (values hp L vs (.sym false) (by omega)) rfl rfl rfl rfl rfl rfl ?_
              rintro r m1 ⟨rfl, rfl⟩
              cbv
              refine .go [] [] [.bor 1, .bor 1] (same hp _ _ _ _ hvs hD (by omega)) rfl rfl rfl rfl rfl rfl ?_
              rintro r m1 ⟨t8, ht8, rfl, rfl⟩
              have ht8 : t8 = true := by rw [ht8]; simp
              cbv
              refine br_f (by rw [hI, ht8]; rfl) ?_
              cbv
              refine .go [1, 2] [] [] (left hp L vs (.sym false) (by omega) (by omega)) rfl rfl rfl rfl rfl rfl ?_
              rintro r m1 ⟨t9, ht9, rfl, rfl⟩
              cbv
              refine br_f (show I.cmp .neq t9 (I.bin .sub .i64 (I.ofNat (I.len L)) (I.ofNat (I.len D))) = false from by
                unfold isN at ht9
                rw [hDn, hLn, hI]
                simp only [ints, rBin]
                rw [wrap_in _ (by omega) (by omega)]
                simp [rCmp]
                omega) ?_
              cbv
              exact hnext _ _ (40 - (i + 1)) [0, 1, 2, 3] [] [3, 9, 11, 13, 14, 15] _ _ (by omega) (by decide) rfl rfl rfl ⟨i + 1, _, false, vs, D, ds, rfl, hz1, hi2, hvs, hD, hds, hb, rfl, rfl⟩
            · have h8 : ¬ ds.length < xs.length := by
                have g9 : I.cmp .lss (I.ofNat (I.len D)) (I.ofNat (I.len L)) = false := g8
                rw [hlss] at g9
                simpa using g9
              obtain ⟨hop, hq⟩ : op = (0, 0, 0) ∧ q = 0 := by
                rcases h1 with ⟨_, h2, h3⟩ | ⟨_, h2, h3, h4⟩
                · exact absurd (List.getElem?_eq_some_iff.1 h2).1 (by omega)
                · exact ⟨h3, h4⟩
              cbv
            
              refine br_t (show I.not (I.cmp .lss (I.ofNat (I.len D)) (I.ofNat (I.len L))) = true from by rw [hlss, hI]; simp [ints]; omega) ?_
              cbv
              refine br_f (by rw [hI, hop]; simp [ints, rCmp]) ?_
              cbv
              refine br_f (by rw [hI, hq]; simp [ints, rCmp]) ?_
              cbv
              refine .go [1, 2] [] [] (begun hp L vs (.sym false)) rfl rfl rfl rfl rfl rfl ?_
              rintro r m1 ⟨t4, ht4, rfl, rfl⟩
              cbv
              refine br_f (by rw [hI, ht4]; simp [ints, BB.val]) ?_
              cbv
              refine .go [1, 2] [] [] (values hp L vs (.sym false) (by omega)) rfl rfl rfl rfl rfl rfl ?_
              rintro r m1 ⟨rfl, rfl⟩
              cbv
              refine .go [] [] [.bor 1, .bor 1] (same hp _ _ _ _ hvs hD (by omega)) rfl rfl rfl rfl rfl rfl ?_
              rintro r m1 ⟨t8, ht8, rfl, rfl⟩
              have ht8 : t8 = true := by rw [ht8]; simp
              cbv
              refine br_f (by rw [hI, ht8]; rfl) ?_
              cbv
              refine .go [1, 2] [] [] (left hp L vs (.sym false) (by omega) (by omega)) rfl rfl rfl rfl rfl rfl ?_
              rintro r m1 ⟨t9, ht9, rfl, rfl⟩
              cbv
              refine br_f (show I.cmp .neq t9 (I.bin .sub .i64 (I.ofNat (I.len L)) (I.ofNat (I.len D))) = false from by
                unfold isN at ht9
                rw [hDn, hLn, hI]
                simp only [ints, rBin]
                rw [wrap_in _ (by omega) (by omega)]
                simp [rCmp]
                omega) ?_
              cbv
              exact hnext _ _ (40 - (i + 1)) [0, 1, 2, 3] [] [3, 9, 11, 13, 14, 15] _ _ (by omega) (by decide) rfl rfl rfl ⟨i + 1, _, false, vs, D, ds, rfl, hz1, hi2, hvs, hD, hds, hb, rfl, rfl⟩
          · have h5 : ds.length ≠ xs.length := by
              have h' : rCmp .eql ((I.len D : Nat) : Int) ((I.len L : Nat) : Int) = false := by rw [hI] at g5 ⊢; exact g5
              rw [hDn, hLn] at h'
              have : (ds.length : Int) ≠ (xs.length : Int) := by simpa [rCmp] using h'
              omega
            have hb2 : true = true → ds.length < xs.length := fun _ => by omega
            cbv
            refine .go [1, 2] [] [] (begin_ hp L vs (.sym false) (by omega) (by omega)) rfl rfl rfl rfl rfl rfl ?_
            rintro r m1 ⟨t, rfl, hm⟩
            obtain ⟨ht2, rfl⟩ : t = 0 ∧ m1 = [pr L (.sym true), .sym 1 vs] := by
              rcases hm with ⟨_, h | h, _⟩ | ⟨h1, _, _, h2⟩
              · cases h
              · omega
              · exact ⟨h1, h2⟩
            cbv
            refine br_f (by rw [hI, ht2]; rfl) ?_
            cbv
            refine .go [1, 2] [] [] (current hp L vs xs (.sym true) hL (by omega) (by omega)) rfl rfl rfl rfl rfl rfl ?_
            rintro r m1 ⟨op, q, ok, h1, rfl, rfl⟩
            have hok : ok = decide (ds.length < xs.length) := by
              rcases h1 with ⟨h1, h2, _⟩ | ⟨h1, h2, _⟩
              · rw [h1]
                have : vs.length < xs.length := (List.getElem?_eq_some_iff.1 h2).1
                simp
                omega
              · rw [h1]
                simp
                omega
            have hlss : I.cmp .lss (I.ofNat (I.len D)) (I.ofNat (I.len L)) = decide (ds.length < xs.length) := by
              rw [hDn, hLn, hI]
              simp [ints, rCmp]
            cbv
            refine .drawn [1, 2] ?_
            cbv
            refine br_f (show I.not (I.beq ok (I.cmp .lss (I.ofNat (I.len D)) (I.ofNat (I.len L)))) = false from by rw [hlss, hok, hI]; simp [ints]) ?_
            cbv
            refine .br (fun g8 => ?_) (fun g8 => ?_)
            · have h8 : ds.length < xs.length := by
                have g9 : I.cmp .lss (I.ofNat (I.len D)) (I.ofNat (I.len L)) = true := g8
                rw [hlss] at g9
                simpa using g9
              obtain ⟨op', hop'⟩ : ∃ x, xs[ds.length]? = some x := ⟨_, List.getElem?_eq_getElem h8⟩
              have hrL : L[ds.length]? = some [.int .i64 (.sym op'.1), .int .i64 (.sym op'.2.1), .int .i64 (.sym op'.2.2)] := by rw [hL.get, hop']; rfl
              obtain ⟨hop, hq⟩ : op = op' ∧ isN q ds.length := by
                rcases h1 with ⟨_, h2, h3⟩ | ⟨_, h2, _⟩
                · rw [hvl] at h2 h3
                  rw [hop'] at h2
                  exact ⟨(Option.some.inj h2).symm, h3⟩
                · omega
              cbv
              refine .idx ds.length (show I.ofNat (I.len D) = _ from by rw [hDn, hI]; rfl) (show ds.length < I.len L from by rw [hLn]; exact h8) (.nth _ hrL ?_)
              cbv
              refine br_f (by rw [hI, hop]; simp [ints, rCmp]) ?_
              cbv
              refine br_f (show I.cmp .neq q (I.ofNat (I.len D)) = false from by rw [hDn, hI, show q = (ds.length : Int) from hq]; simp [ints, rCmp]) ?_
              cbv
              refine br_f (show I.not (I.cmp .lss (I.ofNat (I.len D)) (I.ofNat (I.len L))) = false from by rw [hlss, hI]; simp [ints, h8]) ?_
              cbv
            
              refine .go [1, 2] [] [] (begun hp L vs (.sym true)) rfl rfl rfl rfl rfl rfl ?_
              rintro r m1 ⟨t4, ht4, rfl, rfl⟩
              cbv
              refine br_f (by rw [hI, ht4]; simp [ints, BB.val]) ?_
              cbv
              refine .go [1, 2] [] [] (values hp L vs (.sym true) (by omega)) rfl rfl rfl rfl rfl rfl ?_
              rintro r m1 ⟨rfl, rfl⟩
              cbv
              refine .go [] [] [.bor 1, .bor 1] (same hp _ _ _ _ hvs hD (by omega)) rfl rfl rfl rfl rfl rfl ?_
              rintro r m1 ⟨t8, ht8, rfl, rfl⟩
              have ht8 : t8 = true := by rw [ht8]; simp
              cbv
              refine br_f (by rw [hI, ht8]; rfl) ?_
              cbv
              refine .go [1, 2] [] [] (left hp L vs (.sym true) (by omega) (by omega)) rfl rfl rfl rfl rfl rfl ?_
              rintro r m1 ⟨t9, ht9, rfl, rfl⟩
              cbv
              refine br_f (show I.cmp .neq t9 (I.bin .sub .i64 (I.ofNat (I.len L)) (I.ofNat (I.len D))) = false from by
                unfold isN at ht9
                rw [hDn, hLn, hI]
                simp only [ints, rBin]
                rw [wrap_in _ (by omega) (by omega)]
                simp [rCmp]
                omega) ?_
              cbv
              exact hnext _ _ (40 - (i + 1)) [0, 1, 2, 3] [] [3, 9, 11, 13, 14, 15] _ _ (by omega) (by decide) rfl rfl rfl ⟨i + 1, _, true, vs, D, ds, rfl, hz1, hi2, hvs, hD, hds, hb2, rfl, rfl⟩
            · have h8 : ¬ ds.length < xs.length := by
                have g9 : I.cmp .lss (I.ofNat (I.len D)) (I.ofNat (I.len L)) = false := g8
                rw [hlss] at g9
                simpa using g9
              obtain ⟨hop, hq⟩ : op = (0, 0, 0) ∧ q = 0 := by
                rcases h1 with ⟨_, h2, h3⟩ | ⟨_, h2, h3, h4⟩
                · exact absurd (List.getElem?_eq_some_iff.1 h2).1 (by omega)
                · exact ⟨h3, h4⟩
              cbv
            
              refine br_t (show I.not (I.cmp .lss (I.ofNat (I.len D)) (I.ofNat (I.len L))) = true from by rw [hlss, hI]; simp [ints]; omega) ?_
              cbv
              refine br_f (by rw [hI, hop]; simp [ints, rCmp]) ?_
              cbv
              refine br_f (by rw [hI, hq]; simp [ints, rCmp]) ?_
              cbv
              refine .go [1, 2] [] [] (begun hp L vs (.sym true)) rfl rfl rfl rfl rfl rfl ?_
              rintro r m1 ⟨t4, ht4, rfl, rfl⟩
              cbv
              refine br_f (by rw [hI, ht4]; simp [ints, BB.val]) ?_
              cbv
              refine .go [1, 2] [] [] (values hp L vs (.sym true) (by omega)) rfl rfl rfl rfl rfl rfl ?_
              rintro r m1 ⟨rfl, rfl⟩
              cbv
              refine .go [] [] [.bor 1, .bor 1] (same hp _ _ _ _ hvs hD (by omega)) rfl rfl rfl rfl rfl rfl ?_
              rintro r m1 ⟨t8, ht8, rfl, rfl⟩
              have ht8 : t8 = true := by rw [ht8]; simp
              cbv
              refine br_f (by rw [hI, ht8]; rfl) ?_
              cbv
              refine .go [1, 2] [] [] (left hp L vs (.sym true) (by omega) (by omega)) rfl rfl rfl rfl rfl rfl ?_
              rintro r m1 ⟨t9, ht9, rfl, rfl⟩
              cbv
              refine br_f (show I.cmp .neq t9 (I.bin .sub .i64 (I.ofNat (I.len L)) (I.ofNat (I.len D))) = false from by
                unfold isN at ht9
                rw [hDn, hLn, hI]
                simp only [ints, rBin]
                rw [wrap_in _ (by omega) (by omega)]
                simp [rCmp]
                omega) ?_
              cbv
              exact hnext _ _ (40 - (i + 1)) [0, 1, 2, 3] [] [3, 9, 11, 13, 14, 15] _ _ (by omega) (by decide) rfl rfl rfl ⟨i + 1, _, true, vs, D, ds, rfl, hz1, hi2, hvs, hD, hds, hb2, rfl, rfl⟩
      · cbv
        refine .br (fun g4 => ?_) (fun g4 => ?_)
        · obtain rfl : b = true := g4
          have hlt := hb rfl
          have hW2 : isL .i64 (I.app D [[.int .i64 (.sym x)]]) (ds ++ [x]) := by rw [hI]; unfold isL at hD ⊢; show D ++ _ = _; rw [hD]; simp [nrow]
          have hWl2 : I.len (I.app D [[.int .i64 (.sym x)]]) = (ds ++ [x]).length := by
            have := hW2.len
            rw [hI] at this ⊢
            exact this
          have hdl : (ds ++ [x]).length = ds.length + 1 := by simp
          cbv
          refine .idx i hz2 hil (.nth _ hr ?_)
          cbv
          refine .most (show I.len (I.app D [[.int .i64 (.sym x)]]) * 8 ≤ _ from by rw [hWl2]; omega) (show I.len (I.app D [[.int .i64 (.sym x)]]) ≤ _ from by rw [hWl2]; omega) ?_
          cbv
          refine .idx i hz2 hil (.nth _ hr ?_)
          cbv
          refine .go [1, 2] [] [] (end_ hp L vs (.sym true) (.sym x) (by omega)) rfl rfl rfl rfl rfl rfl ?_
          rintro r m1 ⟨t7, rfl, hm⟩
          obtain ⟨ht7, vs', hvs', rfl⟩ : t7 = 0 ∧ ∃ vs', vs' = vs ++ [[.int .i64 (.sym x)]] ∧ m1 = [.lit 3 [[.g (.rows 3 L), .row 2 1 none, .g (.bool (.sym false))]], .dead, .sym 1 vs'] := by
            rcases hm with ⟨_, h, _⟩ | ⟨h1, _, h2⟩
            · cases h
            · exact ⟨h1, h2⟩
          have hv2 : isL .i64 vs' (ds ++ [x]) := by unfold isL at hvs ⊢; rw [hvs', hvs]; simp [nrow]
          have hvl2 : vs'.length = (ds ++ [x]).length := hv2.len
          have hds2 : (ds ++ [x]).length ≤ xs.length := by omega
          have hb2 : false = true → (ds ++ [x]).length < xs.length := fun h => by cases h
          cbv
          refine br_f (by rw [hI, ht7]; rfl) ?_
          cbv
          generalize hdd : ds ++ [x] = ds2 at *
          refine .go [1, 6] [] [] (current hp L vs' xs (.sym false) hL (by omega) (by omega)) rfl rfl rfl rfl rfl rfl ?_
          rintro r m1 ⟨op, q, ok, h1, rfl, rfl⟩
          have hok : ok = decide (ds2.length < xs.length) := by
            rcases h1 with ⟨h1, h2, _⟩ | ⟨h1, h2, _⟩
            · rw [h1]
              have : vs'.length < xs.length := (List.getElem?_eq_some_iff.1 h2).1
              simp
              omega
            · rw [h1]
              simp
              omega
          have hlss : I.cmp .lss (I.ofNat (I.len (I.app D [[.int .i64 (.sym x)]]))) (I.ofNat (I.len L)) = decide (ds2.length < xs.length) := by
            rw [hWl2, hLn, hI]
            simp [ints, rCmp]
          cbv
          refine .drawn [1, 6] ?_
          cbv
          refine br_f (show I.not (I.beq ok (I.cmp .lss (I.ofNat (I.len (I.app D [[.int .i64 (.sym x)]]))) (I.ofNat (I.len L)))) = false from by rw [hlss, hok, hI]; simp [ints]) ?_
          cbv
          refine .br (fun g8 => ?_) (fun g8 => ?_)
          · have h8 : ds2.length < xs.length := by
              have g9 : I.cmp .lss (I.ofNat (I.len (I.app D [[.int .i64 (.sym x)]]))) (I.ofNat (I.len L)) = true := g8
              rw [hlss] at g9
              simpa using g9
            obtain ⟨op', hop'⟩ : ∃ x, xs[ds2.length]? = some x := ⟨_, List.getElem?_eq_getElem h8⟩
            have hrL : L[ds2.length]? = some [.int .i64 (.sym op'.1), .int .i64 (.sym op'.2.1), .int .i64 (.sym op'.2.2)] := by rw [hL.get, hop']; rfl
            obtain ⟨hop, hq⟩ : op = op' ∧ isN q ds2.length := by
              rcases h1 with ⟨_, h2, h3⟩ | ⟨_, h2, _⟩
              · rw [hvl2] at h2 h3
                rw [hop'] at h2
                exact ⟨(Option.some.inj h2).symm, h3⟩
              · omega
            cbv
            refine .idx ds2.length (show I.ofNat (I.len (I.app D [[.int .i64 (.sym x)]])) = _ from by rw [hWl2, hI]; rfl) (show ds2.length < I.len L from by rw [hLn]; exact h8) (.nth _ hrL ?_)
            cbv
            refine br_f (by rw [hI, hop]; simp [ints, rCmp]) ?_
            cbv
            refine br_f (show I.cmp .neq q (I.ofNat (I.len (I.app D [[.int .i64 (.sym x)]]))) = false from by rw [hWl2, hI, show q = (ds2.length : Int) from hq]; simp [ints, rCmp]) ?_
            cbv
            refine br_f (show I.not (I.cmp .lss (I.ofNat (I.len (I.app D [[.int .i64 (.sym x)]]))) (I.ofNat (I.len L))) = false from by rw [hlss, hI]; simp [ints, h8]) ?_
            cbv
          
            refine .go [1, 6] [] [] (begun hp L vs' (.sym false)) rfl rfl rfl rfl rfl rfl ?_
            rintro r m1 ⟨t4, ht4, rfl, rfl⟩
            cbv
            refine br_f (by rw [hI, ht4]; simp [ints, BB.val]) ?_
            cbv
            refine .go [1, 6] [] [] (values hp L vs' (.sym false) (by omega)) rfl rfl rfl rfl rfl rfl ?_
            rintro r m1 ⟨rfl, rfl⟩
            cbv
            refine .go [] [] [.bor 1, .bor 1] (same hp _ _ _ _ hv2 hW2 (by omega)) rfl rfl rfl rfl rfl rfl ?_
            rintro r m1 ⟨t8, ht8, rfl, rfl⟩
            have ht8 : t8 = true := by rw [ht8]; simp
            cbv
            refine br_f (by rw [hI, ht8]; rfl) ?_
            cbv
            refine .go [1, 6] [] [] (left hp L vs' (.sym false) (by omega) (by omega)) rfl rfl rfl rfl rfl rfl ?_
            rintro r m1 ⟨t9, ht9, rfl, rfl⟩
            cbv
            refine br_f (show I.cmp .neq t9 (I.bin .sub .i64 (I.ofNat (I.len L)) (I.ofNat (I.len (I.app D [[.int .i64 (.sym x)]])))) = false from by
              unfold isN at ht9
              rw [hWl2, hLn, hI]
              simp only [ints, rBin]
              rw [wrap_in _ (by omega) (by omega)]
              simp [rCmp]
              omega) ?_
            cbv
            exact hnext _ _ (40 - (i + 1)) [0, 1, 6, 5] [] [3, 9, 11, 13, 14, 15] _ _ (by omega) (by decide) rfl rfl rfl ⟨i + 1, _, false, vs', (I.app D [[.int .i64 (.sym x)]]), ds2, rfl, hz1, hi2, hv2, hW2, hds2, hb2, rfl, rfl⟩
          · have h8 : ¬ ds2.length < xs.length := by
              have g9 : I.cmp .lss (I.ofNat (I.len (I.app D [[.int .i64 (.sym x)]]))) (I.ofNat (I.len L)) = false := g8
              rw [hlss] at g9
              simpa using g9
            obtain ⟨hop, hq⟩ : op = (0, 0, 0) ∧ q = 0 := by
              rcases h1 with ⟨_, h2, h3⟩ | ⟨_, h2, h3, h4⟩
              · exact absurd (List.getElem?_eq_some_iff.1 h2).1 (by omega)
              · exact ⟨h3, h4⟩
            cbv
          
            refine br_t (show I.not (I.cmp .lss (I.ofNat (I.len (I.app D [[.int .i64 (.sym x)]]))) (I.ofNat (I.len L))) = true from by rw [hlss, hI]; simp [ints]; omega) ?_
            cbv
            refine br_f (by rw [hI, hop]; simp [ints, rCmp]) ?_
            cbv
            refine br_f (by rw [hI, hq]; simp [ints, rCmp]) ?_
            cbv
            refine .go [1, 6] [] [] (begun hp L vs' (.sym false)) rfl rfl rfl rfl rfl rfl ?_
            rintro r m1 ⟨t4, ht4, rfl, rfl⟩
            cbv
            refine br_f (by rw [hI, ht4]; simp [ints, BB.val]) ?_
            cbv
            refine .go [1, 6] [] [] (values hp L vs' (.sym false) (by omega)) rfl rfl rfl rfl rfl rfl ?_
            rintro r m1 ⟨rfl, rfl⟩
            cbv
            refine .go [] [] [.bor 1, .bor 1] (same hp _ _ _ _ hv2 hW2 (by omega)) rfl rfl rfl rfl rfl rfl ?_
            rintro r m1 ⟨t8, ht8, rfl, rfl⟩
            have ht8 : t8 = true := by rw [ht8]; simp
            cbv
            refine br_f (by rw [hI, ht8]; rfl) ?_
            cbv
            refine .go [1, 6] [] [] (left hp L vs' (.sym false) (by omega) (by omega)) rfl rfl rfl rfl rfl rfl ?_
            rintro r m1 ⟨t9, ht9, rfl, rfl⟩
            cbv
            refine br_f (show I.cmp .neq t9 (I.bin .sub .i64 (I.ofNat (I.len L)) (I.ofNat (I.len (I.app D [[.int .i64 (.sym x)]])))) = false from by
              unfold isN at ht9
              rw [hWl2, hLn, hI]
              simp only [ints, rBin]
              rw [wrap_in _ (by omega) (by omega)]
              simp [rCmp]
              omega) ?_
            cbv
            exact hnext _ _ (40 - (i + 1)) [0, 1, 6, 5] [] [3, 9, 11, 13, 14, 15] _ _ (by omega) (by decide) rfl rfl rfl ⟨i + 1, _, false, vs', (I.app D [[.int .i64 (.sym x)]]), ds2, rfl, hz1, hi2, hv2, hW2, hds2, hb2, rfl, rfl⟩
        · obtain rfl : b = false := g4
          cbv
          refine .idx i hz2 hil (.nth _ hr ?_)
          cbv
          refine .go [1, 2] [] [] (end_ hp L vs (.sym false) (.sym x) (by omega)) rfl rfl rfl rfl rfl rfl ?_
          rintro r m1 ⟨t3, rfl, hm⟩
          obtain ⟨ht3, rfl⟩ : t3 = 6 ∧ m1 = [pr L (.sym false), .sym 1 vs] := by
            rcases hm with ⟨h1, _, h2⟩ | ⟨_, h, _⟩
            · exact ⟨h1, h2⟩
            · cases h
          cbv
          refine br_f (by rw [hI, ht3]; rfl) ?_
          cbv
          refine .go [1, 2] [] [] (current hp L vs xs (.sym false) hL (by omega) (by omega)) rfl rfl rfl rfl rfl rfl ?_
          rintro r m1 ⟨op, q, ok, h1, rfl, rfl⟩
          have hok : ok = decide (ds.length < xs.length) := by
            rcases h1 with ⟨h1, h2, _⟩ | ⟨h1, h2, _⟩
            · rw [h1]
              have : vs.length < xs.length := (List.getElem?_eq_some_iff.1 h2).1
              simp
              omega
            · rw [h1]
              simp
              omega
          have hlss : I.cmp .lss (I.ofNat (I.len D)) (I.ofNat (I.len L)) = decide (ds.length < xs.length) := by
            rw [hDn, hLn, hI]
            simp [ints, rCmp]
          cbv
          refine .drawn [1, 2] ?_
          cbv
          refine br_f (show I.not (I.beq ok (I.cmp .lss (I.ofNat (I.len D)) (I.ofNat (I.len L)))) = false from by rw [hlss, hok, hI]; simp [ints]) ?_
          cbv
          refine .br (fun g8 => ?_) (fun g8 => ?_)
          · have h8 : ds.length < xs.length := by
              have g9 : I.cmp .lss (I.ofNat (I.len D)) (I.ofNat (I.len L)) = true := g8
              rw [hlss] at g9
              simpa using g9
            obtain ⟨op', hop'⟩ : ∃ x, xs[ds.length]? = some x := ⟨_, List.getElem?_eq_getElem h8⟩
            have hrL : L[ds.length]? = some [.int .i64 (.sym op'.1), .int .i64 (.sym op'.2.1), .int .i64 (.sym op'.2.2)] := by rw [hL.get, hop']; rfl
            obtain ⟨hop, hq⟩ : op = op' ∧ isN q ds.length := by
              rcases h1 with ⟨_, h2, h3⟩ | ⟨_, h2, _⟩
              · rw [hvl] at h2 h3
                rw [hop'] at h2
                exact ⟨(Option.some.inj h2).symm, h3⟩
              · omega
            cbv
            refine .idx ds.length (show I.ofNat (I.len D) = _ from by rw [hDn, hI]; rfl) (show ds.length < I.len L from by rw [hLn]; exact h8) (.nth _ hrL ?_)
            cbv
            refine br_f (by rw [hI, hop]; simp [ints, rCmp]) ?_
            cbv
            refine br_f (show I.cmp .neq q (I.ofNat (I.len D)) = false from by rw [hDn, hI, show q = (ds.length : Int) from hq]; simp [ints, rCmp]) ?_
            cbv
            refine br_f (show I.not (I.cmp .lss (I.ofNat (I.len D)) (I.ofNat (I.len L))) = false from by rw [hlss, hI]; simp [ints, h8]) ?_
            cbv
          
            refine .go [1, 2] [] [] (begun hp L vs (.sym false)) rfl rfl rfl rfl rfl rfl ?_
            rintro r m1 ⟨t4, ht4, rfl, rfl⟩
            cbv
            refine br_f (by rw [hI, ht4]; simp [ints, BB.val]) ?_
            cbv
            refine .go [1, 2] [] [] (values hp L vs (.sym false) (by omega)) rfl rfl rfl rfl rfl rfl ?_
            rintro r m1 ⟨rfl, rfl⟩
            cbv
            refine .go [] [] [.bor 1, .bor 1] (same hp _ _ _ _ hvs hD (by omega)) rfl rfl rfl rfl rfl rfl ?_
            rintro r m1 ⟨t8, ht8, rfl, rfl⟩
            have ht8 : t8 = true := by rw [ht8]; simp
            cbv
            refine br_f (by rw [hI, ht8]; rfl) ?_
            cbv
            refine .go [1, 2] [] [] (left hp L vs (.sym false) (by omega) (by omega)) rfl rfl rfl rfl rfl rfl ?_
            rintro r m1 ⟨t9, ht9, rfl, rfl⟩
            cbv
            refine br_f (show I.cmp .neq t9 (I.bin .sub .i64 (I.ofNat (I.len L)) (I.ofNat (I.len D))) = false from by
              unfold isN at ht9
              rw [hDn, hLn, hI]
              simp only [ints, rBin]
              rw [wrap_in _ (by omega) (by omega)]
              simp [rCmp]
              omega) ?_
            cbv
            exact hnext _ _ (40 - (i + 1)) [0, 1, 2, 3] [] [3, 9, 11, 13, 14, 15] _ _ (by omega) (by decide) rfl rfl rfl ⟨i + 1, _, false, vs, D, ds, rfl, hz1, hi2, hvs, hD, hds, hb, rfl, rfl⟩
          · have h8 : ¬ ds.length < xs.length := by
              have g9 : I.cmp .lss (I.ofNat (I.len D)) (I.ofNat (I.len L)) = false := g8
              rw [hlss] at g9
              simpa using g9
            obtain ⟨hop, hq⟩ : op = (0, 0, 0) ∧ q = 0 := by
              rcases h1 with ⟨_, h2, h3⟩ | ⟨_, h2, h3, h4⟩
              · exact absurd (List.getElem?_eq_some_iff.1 h2).1 (by omega)
              · exact ⟨h3, h4⟩
            cbv
          
            refine br_t (show I.not (I.cmp .lss (I.ofNat (I.len D)) (I.ofNat (I.len L))) = true from by rw [hlss, hI]; simp [ints]; omega) ?_
            cbv
            refine br_f (by rw [hI, hop]; simp [ints, rCmp]) ?_
            cbv
            refine br_f (by rw [hI, hq]; simp [ints, rCmp]) ?_
            cbv
            refine .go [1, 2] [] [] (begun hp L vs (.sym false)) rfl rfl rfl rfl rfl rfl ?_
            rintro r m1 ⟨t4, ht4, rfl, rfl⟩
            cbv
            refine br_f (by rw [hI, ht4]; simp [ints, BB.val]) ?_
            cbv
            refine .go [1, 2] [] [] (values hp L vs (.sym false) (by omega)) rfl rfl rfl rfl rfl rfl ?_
            rintro r m1 ⟨rfl, rfl⟩
            cbv
            refine .go [] [] [.bor 1, .bor 1] (same hp _ _ _ _ hvs hD (by omega)) rfl rfl rfl rfl rfl rfl ?_
            rintro r m1 ⟨t8, ht8, rfl, rfl⟩
            have ht8 : t8 = true := by rw [ht8]; simp
            cbv
            refine br_f (by rw [hI, ht8]; rfl) ?_
            cbv
            refine .go [1, 2] [] [] (left hp L vs (.sym false) (by omega) (by omega)) rfl rfl rfl rfl rfl rfl ?_
            rintro r m1 ⟨t9, ht9, rfl, rfl⟩
            cbv
            refine br_f (show I.cmp .neq t9 (I.bin .sub .i64 (I.ofNat (I.len L)) (I.ofNat (I.len D))) = false from by
              unfold isN at ht9
              rw [hDn, hLn, hI]
              simp only [ints, rBin]
              rw [wrap_in _ (by omega) (by omega)]
              simp [rCmp]
              omega) ?_
            cbv
            exact hnext _ _ (40 - (i + 1)) [0, 1, 2, 3] [] [3, 9, 11, 13, 14, 15] _ _ (by omega) (by decide) rfl rfl rfl ⟨i + 1, _, false, vs, D, ds, rfl, hz1, hi2, hvs, hD, hds, hb, rfl, rfl⟩
    · cbv
      refine .go [] [] [] (wakes hp) rfl rfl rfl rfl rfl rfl ?_
      rintro r m1 ⟨rfl, rfl⟩
      cbv
      exact hP _ _ [] [] _ _ .nil rfl rfl rfl rfl rfl ⟨_, rfl, rfl⟩
  · cbv
    refine .go [] [] [] (wakes hp) rfl rfl rfl rfl rfl rfl ?_
    rintro r m1 ⟨rfl, rfl⟩
    cbv
    exact hP _ _ [] [] _ _ .nil rfl rfl rfl rfl rfl ⟨_, rfl, rfl⟩
end
end Go.Proofs.Ytkpilokfplpjnaa.E
