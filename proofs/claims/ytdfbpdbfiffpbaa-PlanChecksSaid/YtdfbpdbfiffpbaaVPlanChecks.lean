/- Whether any configuration may be: the walk of the law. -/
import Derived.Test.YtdfbpdbfiffpbaaP3
import Derived.Deep.CutBlock
namespace Go.Proofs.Ytdfbpdbfiffpbaa.B
open Go.RowKit Go.Proofs.YtdfbpdbfiffpbaaW.PrintWords Go.Proofs.YtdfbpdbfiffpbaaW.PrintLast Go.Proofs.YtdfbpdbfiffpbaaW.PrintMore
set_option linter.unusedVariables false

set_option maxHeartbeats 1500000 in
theorem lawPlanChecks (w : World) (cs0 : List Value) (x0 : GSetup) (r0 : kGSetup.K w x0 cs0) (w0 : wfGSetup x0) (a1 : Int) (w1 : (Lit.int .i64 a1).wf = true) (a2 : Int) (w2 : (Lit.int .i64 a2).wf = true) (A3 : Option Addr) (c3 : Nat) (l3 : (List Int)) (r3 : (Kd.int .i64).C w A3 l3.length l3) (e3 : l3.length ≤ c3) (z3 : l3.length * 8 ≤ 140737488351232) (w3 : (∀ y ∈ l3, (Lit.int .i64 y).wf = true)) :
    Calls Try.prog 4 #[.agg cs0.toArray, .int .i64 a1, .int .i64 a2, .slice A3 l3.length c3] w fun e w' => e = .returned (.bool true) ∧ Below w.heap.size w w' := by
  have HK := Lib.hid r0
  obtain ⟨A0, c0, A1, c1, A2, c2, A4, c4, A5, c5, rfl, -⟩ := kGSetup_open r0
  have H3 := Lib.hid r3
  have h9 := Int.emod_nonneg a1 (show (9 : Int) ≠ 0 by omega)
  clear r0 r3 w0 w1 w2 w3
  go_enter Try.func4, Try.ntmps4
  go_upto_block 0 with (first | ((with_reducible refine gate_dst (N := 4) rfl ?_); refine evNew rfl (t := 31) (cs := #[.int .i64 x0.nodes, .int .i64 x0.lines, .int .i64 x0.words, .int .i64 x0.sets, .int .i64 x0.ways, .int .i64 x0.out, .int .i64 x0.in_, .slice A0 x0.init.length c0, .slice A1 x0.who.length c1, .slice A2 x0.kinds.length c2, .slice A4 x0.addrs.length c4, .slice A5 x0.values.length c5]) (mk := fun g => .pointer (some ⟨g, 0, none⟩)) ?zhr_1 ?_; (case zhr_1 => first | (go_simp; done) | (go_simp; rfl)); intro g4 w4 e4 B4 N4) | (refine wpList_load_row rfl 31 (.tmp 4) rfl _ rfl _ _ (0, 0) _ B4 Try.underlying31 rfl (by kernel_rfl) ?_) | (go_at_call 12; (with_reducible refine (play_config _ _ _ (kGSetup.K_below N4.below HK.out)).mono ?_); rintro e w5 ⟨A, n, cc, rfl, R5, N5⟩; generalize cfg x0 = c at R5 ⊢) | ((with_reducible refine gate_dst (N := 9) rfl ?_); refine evNew rfl (t := 25) (cs := #[.int .i64 0, .int .i64 0, .int .i64 0, .int .i64 0, .int .i64 0, .int .i64 0, .int .i64 0, .slice none 0 0]) (mk := fun g => .pointer (some ⟨g, 0, none⟩)) ?zhr_2 ?_; (case zhr_2 => first | (go_simp; done) | (go_simp; rfl)); intro g9 w6 e9 B8 N8) | ((with_reducible refine gate_store (t := 25) (p := 9) (v := .tmp 11) rfl ?_); go_loud (refine evStore (j := ?zhj_3) ?_ ?_ 25 (.tmp 9) (.tmp 11) ?zh1_3 (.agg #[.int .i64 (c.nodes), .int .i64 (c.lines), .int .i64 (c.words), .int .i64 (c.sets), .int .i64 (c.ways), .int .i64 (c.out), .int .i64 (c.in_), (.slice A n cc)]) [.int .i64 (c.nodes), .int .i64 (c.lines), .int .i64 (c.words), .int .i64 (c.sets), .int .i64 (c.ways), .int .i64 (c.out), .int .i64 (c.in_), (.slice A n cc)] ?zh2_3 ?zh3_3 B8 ?zh4_3 ?zh5_3 ?zh6_3 ?zh7_3 #[.int .i64 (c.nodes), .int .i64 (c.lines), .int .i64 (c.words), .int .i64 (c.sets), .int .i64 (c.ways), .int .i64 (c.out), .int .i64 (c.in_), (.slice A n cc)] ?zh8_3 ?zh9_3; (case zh1_3 => rfl); (case zh2_3 => rfl); (case zh3_3 => rfl); (case zh4_3 => rfl); (case zh5_3 => kernel_rfl); (case zh6_3 => simp); (case zh7_3 => simp [Value.oneCell']); (case zh8_3 => rfl); rfl; rfl; intro w7 B9 X9)) | (go_at_call 9; (with_reducible refine (keep_within _ _ _ ?_ ?_).mono ?_); omega; omega; rintro e w' ⟨rfl, rfl⟩))
  have G9 : w.heap.size ≤ g9 := by have := N4.size; have := N5.size; omega
  have NB : New w w7 := ((N4.trans N5).trans N8).trans' X9 (fun i hi => .inr (by omega))
  go_cut [] (fun wx => ∃ (c : GConfig) (A : Option Addr) (n cc : Nat), Blk wx g9 25 #[.int .i64 (c.nodes), .int .i64 (c.lines), .int .i64 (c.words), .int .i64 (c.sets), .int .i64 (c.ways), .int .i64 (c.out), .int .i64 (c.in_), (.slice A n cc)] ∧ New w wx)
  case first =>
    go_wp2_with (first | ((with_reducible refine gate_store (t := 3) (p := 17) (v := .tmp 16) rfl ?_); go_loud (refine evStore (j := ?zhj_4) ?_ ?_ 3 (.tmp 17) (.tmp 16) ?zh1_4 (.int .i64 a2) [.int .i64 a2] ?zh2_4 ?zh3_4 B9 ?zh4_4 ?zh5_4 ?zh6_4 ?zh7_4 #[.int .i64 (a2), .int .i64 (c.lines), .int .i64 (c.words), .int .i64 (c.sets), .int .i64 (c.ways), .int .i64 (c.out), .int .i64 (c.in_), (.slice A n cc)] ?zh8_4 ?zh9_4; (case zh1_4 => rfl); (case zh2_4 => rfl); (case zh3_4 => rfl); (case zh4_4 => rfl); (case zh5_4 => kernel_rfl); (case zh6_4 => simp); (case zh7_4 => simp [Value.oneCell']); (case zh8_4 => rfl); rfl; rfl; intro w7 F7 X7)) | ((with_reducible refine gate_store (t := 3) (p := 21) (v := .tmp 20) rfl ?_); go_loud (refine evStore (j := ?zhj_5) ?_ ?_ 3 (.tmp 21) (.tmp 20) ?zh1_5 (.int .i64 a2) [.int .i64 a2] ?zh2_5 ?zh3_5 B9 ?zh4_5 ?zh5_5 ?zh6_5 ?zh7_5 #[.int .i64 (c.nodes), .int .i64 (a2), .int .i64 (c.words), .int .i64 (c.sets), .int .i64 (c.ways), .int .i64 (c.out), .int .i64 (c.in_), (.slice A n cc)] ?zh8_5 ?zh9_5; (case zh1_5 => rfl); (case zh2_5 => rfl); (case zh3_5 => rfl); (case zh4_5 => rfl); (case zh5_5 => kernel_rfl); (case zh6_5 => simp); (case zh7_5 => simp [Value.oneCell']); (case zh8_5 => rfl); rfl; rfl; intro w7 F7 X7)) | ((with_reducible refine gate_store (t := 3) (p := 25) (v := .tmp 24) rfl ?_); go_loud (refine evStore (j := ?zhj_6) ?_ ?_ 3 (.tmp 25) (.tmp 24) ?zh1_6 (.int .i64 a2) [.int .i64 a2] ?zh2_6 ?zh3_6 B9 ?zh4_6 ?zh5_6 ?zh6_6 ?zh7_6 #[.int .i64 (c.nodes), .int .i64 (c.lines), .int .i64 (a2), .int .i64 (c.sets), .int .i64 (c.ways), .int .i64 (c.out), .int .i64 (c.in_), (.slice A n cc)] ?zh8_6 ?zh9_6; (case zh1_6 => rfl); (case zh2_6 => rfl); (case zh3_6 => rfl); (case zh4_6 => rfl); (case zh5_6 => kernel_rfl); (case zh6_6 => simp); (case zh7_6 => simp [Value.oneCell']); (case zh8_6 => rfl); rfl; rfl; intro w7 F7 X7)) | ((with_reducible refine gate_store (t := 3) (p := 29) (v := .tmp 28) rfl ?_); go_loud (refine evStore (j := ?zhj_7) ?_ ?_ 3 (.tmp 29) (.tmp 28) ?zh1_7 (.int .i64 a2) [.int .i64 a2] ?zh2_7 ?zh3_7 B9 ?zh4_7 ?zh5_7 ?zh6_7 ?zh7_7 #[.int .i64 (c.nodes), .int .i64 (c.lines), .int .i64 (c.words), .int .i64 (a2), .int .i64 (c.ways), .int .i64 (c.out), .int .i64 (c.in_), (.slice A n cc)] ?zh8_7 ?zh9_7; (case zh1_7 => rfl); (case zh2_7 => rfl); (case zh3_7 => rfl); (case zh4_7 => rfl); (case zh5_7 => kernel_rfl); (case zh6_7 => simp); (case zh7_7 => simp [Value.oneCell']); (case zh8_7 => rfl); rfl; rfl; intro w7 F7 X7)) | ((with_reducible refine gate_store (t := 3) (p := 33) (v := .tmp 32) rfl ?_); go_loud (refine evStore (j := ?zhj_8) ?_ ?_ 3 (.tmp 33) (.tmp 32) ?zh1_8 (.int .i64 a2) [.int .i64 a2] ?zh2_8 ?zh3_8 B9 ?zh4_8 ?zh5_8 ?zh6_8 ?zh7_8 #[.int .i64 (c.nodes), .int .i64 (c.lines), .int .i64 (c.words), .int .i64 (c.sets), .int .i64 (a2), .int .i64 (c.out), .int .i64 (c.in_), (.slice A n cc)] ?zh8_8 ?zh9_8; (case zh1_8 => rfl); (case zh2_8 => rfl); (case zh3_8 => rfl); (case zh4_8 => rfl); (case zh5_8 => kernel_rfl); (case zh6_8 => simp); (case zh7_8 => simp [Value.oneCell']); (case zh8_8 => rfl); rfl; rfl; intro w7 F7 X7)) | ((with_reducible refine gate_store (t := 3) (p := 37) (v := .tmp 36) rfl ?_); go_loud (refine evStore (j := ?zhj_9) ?_ ?_ 3 (.tmp 37) (.tmp 36) ?zh1_9 (.int .i64 a2) [.int .i64 a2] ?zh2_9 ?zh3_9 B9 ?zh4_9 ?zh5_9 ?zh6_9 ?zh7_9 #[.int .i64 (c.nodes), .int .i64 (c.lines), .int .i64 (c.words), .int .i64 (c.sets), .int .i64 (c.ways), .int .i64 (a2), .int .i64 (c.in_), (.slice A n cc)] ?zh8_9 ?zh9_9; (case zh1_9 => rfl); (case zh2_9 => rfl); (case zh3_9 => rfl); (case zh4_9 => rfl); (case zh5_9 => kernel_rfl); (case zh6_9 => simp); (case zh7_9 => simp [Value.oneCell']); (case zh8_9 => rfl); rfl; rfl; intro w7 F7 X7)) | ((with_reducible refine gate_store (t := 3) (p := 41) (v := .tmp 40) rfl ?_); go_loud (refine evStore (j := ?zhj_10) ?_ ?_ 3 (.tmp 41) (.tmp 40) ?zh1_10 (.int .i64 a2) [.int .i64 a2] ?zh2_10 ?zh3_10 B9 ?zh4_10 ?zh5_10 ?zh6_10 ?zh7_10 #[.int .i64 (c.nodes), .int .i64 (c.lines), .int .i64 (c.words), .int .i64 (c.sets), .int .i64 (c.ways), .int .i64 (c.out), .int .i64 (a2), (.slice A n cc)] ?zh8_10 ?zh9_10; (case zh1_10 => rfl); (case zh2_10 => rfl); (case zh3_10 => rfl); (case zh4_10 => rfl); (case zh5_10 => kernel_rfl); (case zh6_10 => simp); (case zh7_10 => simp [Value.oneCell']); (case zh8_10 => rfl); rfl; rfl; intro w7 F7 X7)) | ((with_reducible refine gate_store (t := 23) (p := 46) (v := .tmp 45) rfl ?_); go_loud (refine evStore (j := ?zhj_11) ?_ ?_ 23 (.tmp 46) (.tmp 45) ?zh1_11 (.slice A' n' c') [.slice A' n' c'] ?zh2_11 ?zh3_11 (B9.new_ N5) ?zh4_11 ?zh5_11 ?zh6_11 ?zh7_11 #[.int .i64 (c.nodes), .int .i64 (c.lines), .int .i64 (c.words), .int .i64 (c.sets), .int .i64 (c.ways), .int .i64 (c.out), .int .i64 (c.in_), (.slice A' n' c')] ?zh8_11 ?zh9_11; (case zh1_11 => rfl); (case zh2_11 => rfl); (case zh3_11 => rfl); (case zh4_11 => rfl); (case zh5_11 => kernel_rfl); (case zh6_11 => simp); (case zh7_11 => simp [Value.oneCell']); (case zh8_11 => rfl); rfl; rfl; intro w7 F7 X7)) | (go_at_call 13; (with_reducible refine (keep_cut_int _ _ _ _ _ _ (C_new_ H3.out NB) e3 (by decide) (by decide)).mono ?_); rintro e w5 ⟨A', n', c', rfl, R5, N5⟩))
    all_goals go_meet
    all_goals first
      | exact ⟨{ c with nodes := a2 }, A, n, cc, F7, (NB.trans' X7 (fun i hi => .inr (by omega)))⟩
      | exact ⟨{ c with lines := a2 }, A, n, cc, F7, (NB.trans' X7 (fun i hi => .inr (by omega)))⟩
      | exact ⟨{ c with words := a2 }, A, n, cc, F7, (NB.trans' X7 (fun i hi => .inr (by omega)))⟩
      | exact ⟨{ c with sets := a2 }, A, n, cc, F7, (NB.trans' X7 (fun i hi => .inr (by omega)))⟩
      | exact ⟨{ c with ways := a2 }, A, n, cc, F7, (NB.trans' X7 (fun i hi => .inr (by omega)))⟩
      | exact ⟨{ c with out := a2 }, A, n, cc, F7, (NB.trans' X7 (fun i hi => .inr (by omega)))⟩
      | exact ⟨{ c with in_ := a2 }, A, n, cc, F7, (NB.trans' X7 (fun i hi => .inr (by omega)))⟩
      | exact ⟨c, A', n', c', F7, ((NB.then_new N5).trans' X7 (fun i hi => .inr (by omega)))⟩
      | exact ⟨c, A, n, cc, B9, NB⟩
  case rest =>
    obtain ⟨c, A, n, cc, D9, DN⟩ := hcut
    go_upto_region 19 with fail
    have hb : ckB c n = true ∨ ckB c n = false := by cases ckB c n <;> simp
    rcases hb with hb | hb
    · have hr : ckR c n = 0 := by unfold ckR; rw [hb]; rfl
      refine start_ (n := 20) (S := fun w' => Blk w' g9 25 #[.int .i64 (c.nodes), .int .i64 (c.lines), .int .i64 (c.words), .int .i64 (c.sets), .int .i64 (c.ways), .int .i64 (c.out), .int .i64 (c.in_), (.slice A n cc)] ∧ New w w') (ds := []) #[false, false, false, false, false, false, false, false, false, false, false, false, false, false, false, false, false, false, false, false] (by kernel_rfl) rfl rfl ⟨D9.drew, DN.drew⟩ (fun hHeld => ?_)
      refine take_ (i := 0) (N := (some 47)) (v := ?_) (a' := ?_) #[true, false, false, false, false, false, false, false, false, false, false, false, false, false, false, false, false, false, false, false] rfl rfl (by kernel_rfl) (fun _ _ _ h => h) (Or.inl ⟨by rfl, ?_⟩) hHeld ?_ ?_
      rotate_left
      · rintro w' ⟨s0, s1⟩
        refine run_load_blk 25 (.tmp 9) ?_ ?_ s0 Try.underlying25 rfl (by kernel_rfl)
        · rfl
        · rfl
      rotate_left
      · simp only [Act.put, List.setIfInBounds_toArray, List.set_cons_zero, List.set_cons_succ]
        rfl
      refine take_ (i := 3) (N := (some 50)) (v := ?_) (a' := ?_) #[true, false, false, true, false, false, false, false, false, false, false, false, false, false, false, false, false, false, false, false] rfl rfl (by kernel_rfl) (fun _ _ _ h => h) (Or.inl ⟨by rfl, ?_⟩) hHeld ?_ ?_
      rotate_left
      · rintro w' ⟨s0, s1⟩
        refine run_load_blk 25 (.tmp 9) ?_ ?_ s0 Try.underlying25 rfl (by kernel_rfl)
        · rfl
        · rfl
      rotate_left
      · simp only [Act.put, List.setIfInBounds_toArray, List.set_cons_zero, List.set_cons_succ]
        rfl
      refine one_ (i := 1) (N := (some 48)) #[true, true, false, true, false, false, false, false, false, false, false, false, false, false, false, false, false, false, false, false] rfl rfl (by kernel_rfl) (by decide) (fun K hK => ?_)
      refine goesR_ Try.func10 (by kernel_rfl) rfl (args := ?zhA_12) (xs := ?zhs_12) (ts := ?zht_12) ?zhw_12 ?zhN_12 ?zhp_12 ?zha_12 ?zhk_12; (case zhN_12 => rfl); (case zhp_12 => rfl); (case zhw_12 => rfl); (case zha_12 => (go_simp; rfl)); (refine (plan_check c _ _ _ _).mono ?_); rintro e w' ⟨rfl, X⟩; refine ⟨_, rfl, ?_⟩
      refine hK.out _ _ ⟨hHeld.1.new_ X, hHeld.2.trans X⟩ (fun hHeld => ?_)
      clear hK K
      refine norm_ (a' := ?_) ?_ ?_
      rotate_left
      · show Act.put _ (some 48) _ = _
        simp only [Act.put, List.setIfInBounds_toArray, List.set_cons_zero, List.set_cons_succ]
        rfl
      refine pure_ (i := 2) (N := (some 49)) (v := ?_) (a' := ?_) #[true, true, true, true, false, false, false, false, false, false, false, false, false, false, false, false, false, false, false, false] rfl rfl (by kernel_rfl) (fun _ _ _ h => h) (Or.inl ⟨by rfl, ?_⟩) ?_ ?_
      rotate_left
      · intro w'
        go_simp
        with_reducible rfl
      rotate_left
      · simp only [Act.put, List.setIfInBounds_toArray, List.set_cons_zero, List.set_cons_succ]
        rfl
      refine one_ (i := 4) (N := (some 51)) #[true, true, true, true, true, false, false, false, false, false, false, false, false, false, false, false, false, false, false, false] rfl rfl (by kernel_rfl) (by decide) (fun K hK => ?_)
      refine goesR_ Try.func14 (by kernel_rfl) rfl (args := ?zhA_13) (xs := ?zhs_13) (ts := ?zht_13) ?zhw_13 ?zhN_13 ?zhp_13 ?zha_13 ?zhk_13; (case zhN_13 => rfl); (case zhp_13 => rfl); (case zhw_13 => rfl); (case zha_13 => (go_simp; rfl)); (refine (ref_check c _ _ _ _).mono ?_); rintro e w' ⟨rfl, X⟩; refine ⟨_, rfl, ?_⟩
      refine hK.out _ _ ⟨hHeld.1.new_ X, hHeld.2.trans X⟩ (fun hHeld => ?_)
      clear hK K
      refine norm_ (a' := ?_) ?_ ?_
      rotate_left
      · show Act.put _ (some 51) _ = _
        simp only [Act.put, List.setIfInBounds_toArray, List.set_cons_zero, List.set_cons_succ]
        rfl
      refine pure_ (i := 5) (N := (some 52)) (v := ?_) (a' := ?_) #[true, true, true, true, true, true, false, false, false, false, false, false, false, false, false, false, false, false, false, false] rfl rfl (by kernel_rfl) (fun _ _ _ h => h) (Or.inl ⟨by rfl, ?_⟩) ?_ ?_
      rotate_left
      · intro w'
        go_simp
        with_reducible rfl
      rotate_left
      · simp only [Act.put, List.setIfInBounds_toArray, List.set_cons_zero, List.set_cons_succ]
        rfl
      refine pure_ (i := 6) (N := (some 53)) (v := ?_) (a' := ?_) #[true, true, true, true, true, true, true, false, false, false, false, false, false, false, false, false, false, false, false, false] rfl rfl (by kernel_rfl) (fun _ _ _ h => h) (Or.inl ⟨by rfl, ?_⟩) ?_ ?_
      rotate_left
      · intro w'
        go_simp
        with_reducible rfl
      rotate_left
      · simp only [Act.put, List.setIfInBounds_toArray, List.set_cons_zero, List.set_cons_succ]
        rfl
      refine take_ (i := 7) (N := (some 54)) (v := ?_) (a' := ?_) #[true, true, true, true, true, true, true, true, false, false, false, false, false, false, false, false, false, false, false, false] rfl rfl (by kernel_rfl) (fun _ _ _ h => h) (Or.inl ⟨by rfl, ?_⟩) hHeld ?_ ?_
      rotate_left
      · rintro w' ⟨s0, s1⟩
        refine run_load_blk 25 (.tmp 9) ?_ ?_ s0 Try.underlying25 rfl (by kernel_rfl)
        · rfl
        · rfl
      rotate_left
      · simp only [Act.put, List.setIfInBounds_toArray, List.set_cons_zero, List.set_cons_succ]
        rfl
      refine one_ (i := 8) (N := (some 55)) #[true, true, true, true, true, true, true, true, true, false, false, false, false, false, false, false, false, false, false, false] rfl rfl (by kernel_rfl) (by decide) (fun K hK => ?_)
      refine goesR_ Try.func10 (by kernel_rfl) rfl (args := ?zhA_14) (xs := ?zhs_14) (ts := ?zht_14) ?zhw_14 ?zhN_14 ?zhp_14 ?zha_14 ?zhk_14; (case zhN_14 => rfl); (case zhp_14 => rfl); (case zhw_14 => rfl); (case zha_14 => (go_simp; rfl)); (refine (plan_check c _ _ _ _).mono ?_); rintro e w' ⟨rfl, X⟩; refine ⟨_, rfl, ?_⟩
      refine hK.out _ _ ⟨hHeld.1.new_ X, hHeld.2.trans X⟩ (fun hHeld => ?_)
      clear hK K
      refine norm_ (a' := ?_) ?_ ?_
      rotate_left
      · show Act.put _ (some 55) _ = _
        simp only [Act.put, List.setIfInBounds_toArray, List.set_cons_zero, List.set_cons_succ]
        rfl
      refine pure_ (i := 9) (N := (some 56)) (v := ?_) (a' := ?_) #[true, true, true, true, true, true, true, true, true, true, false, false, false, false, false, false, false, false, false, false] rfl rfl (by kernel_rfl) (fun _ _ _ h => h) (Or.inl ⟨by rfl, ?_⟩) ?_ ?_
      rotate_left
      · intro w'
        go_simp
        with_reducible rfl
      rotate_left
      · simp only [Act.put, List.setIfInBounds_toArray, List.set_cons_zero, List.set_cons_succ]
        rfl
      refine pure_ (i := 10) (N := (some 57)) (v := ?_) (a' := ?_) #[true, true, true, true, true, true, true, true, true, true, true, false, false, false, false, false, false, false, false, false] rfl rfl (by kernel_rfl) (fun _ _ _ h => h) (Or.inl ⟨by rfl, ?_⟩) ?_ ?_
      rotate_left
      · intro w'
        go_simp
        with_reducible rfl
      rotate_left
      · simp only [Act.put, List.setIfInBounds_toArray, List.set_cons_zero, List.set_cons_succ]
        rfl
      refine pure_ (i := 11) (N := (some 58)) (v := undef) (a' := ?_) #[true, true, true, true, true, true, true, true, true, true, true, true, false, false, false, false, false, false, false, false] rfl rfl (by kernel_rfl) (fun _ _ _ h => h) (Or.inr ⟨by rfl, rfl⟩) ?_ ?_
      rotate_left
      · simp only [Act.put, List.setIfInBounds_toArray, List.set_cons_zero, List.set_cons_succ]
        rfl
      refine pure_ (i := 12) (N := (some 59)) (v := undef) (a' := ?_) #[true, true, true, true, true, true, true, true, true, true, true, true, true, false, false, false, false, false, false, false] rfl rfl (by kernel_rfl) (fun _ _ _ h => h) (Or.inr ⟨by rfl, rfl⟩) ?_ ?_
      rotate_left
      · simp only [Act.put, List.setIfInBounds_toArray, List.set_cons_zero, List.set_cons_succ]
        rfl
      refine pure_ (i := 13) (N := (some 60)) (v := undef) (a' := ?_) #[true, true, true, true, true, true, true, true, true, true, true, true, true, true, false, false, false, false, false, false] rfl rfl (by kernel_rfl) (fun _ _ _ h => h) (Or.inr ⟨by rfl, rfl⟩) ?_ ?_
      rotate_left
      · simp only [Act.put, List.setIfInBounds_toArray, List.set_cons_zero, List.set_cons_succ]
        rfl
      refine pure_ (i := 14) (N := (some 61)) (v := ?_) (a' := ?_) #[true, true, true, true, true, true, true, true, true, true, true, true, true, true, true, false, false, false, false, false] rfl rfl (by kernel_rfl) (fun _ _ _ h => h) (Or.inl ⟨by rfl, ?_⟩) ?_ ?_
      rotate_left
      · intro w'
        go_simp
        with_reducible rfl
      rotate_left
      · simp only [Act.put, List.setIfInBounds_toArray, List.set_cons_zero, List.set_cons_succ]
        rfl
      refine pure_ (i := 15) (N := (some 62)) (v := ?_) (a' := ?_) #[true, true, true, true, true, true, true, true, true, true, true, true, true, true, true, true, false, false, false, false] rfl rfl (by kernel_rfl) (fun _ _ _ h => h) (Or.inl ⟨by rfl, ?_⟩) ?_ ?_
      rotate_left
      · intro w'
        go_simp
        with_reducible rfl
      rotate_left
      · simp only [Act.put, List.setIfInBounds_toArray, List.set_cons_zero, List.set_cons_succ]
        rfl
      refine pure_ (i := 16) (N := (some 63)) (v := ?_) (a' := ?_) #[true, true, true, true, true, true, true, true, true, true, true, true, true, true, true, true, true, false, false, false] rfl rfl (by kernel_rfl) (fun _ _ _ h => h) (Or.inl ⟨by rfl, ?_⟩) ?_ ?_
      rotate_left
      · intro w'
        go_simp
        with_reducible rfl
      rotate_left
      · simp only [Act.put, List.setIfInBounds_toArray, List.set_cons_zero, List.set_cons_succ]
        rfl
      refine one_ (i := 17) (N := (some 64)) #[true, true, true, true, true, true, true, true, true, true, true, true, true, true, true, true, true, true, false, false] rfl rfl (by kernel_rfl) (by decide) (fun K hK => ?_)
      refine goesR_ Try.func11 (by kernel_rfl) rfl (args := ?zhA_15) (xs := ?zhs_15) (ts := ?zht_15) ?zhw_15 ?zhN_15 ?zhp_15 ?zha_15 ?zhk_15; (case zhN_15 => rfl); (case zhp_15 => rfl); (case zhw_15 => rfl); (case zha_15 => (go_simp; rfl)); (refine (wakes02 _).mono ?_); rintro e w' ⟨rfl, X⟩; refine ⟨_, rfl, ?_⟩
      refine hK.out _ _ ⟨hHeld.1.new_ X, hHeld.2.trans X⟩ (fun hHeld => ?_)
      clear hK K
      refine norm_ (a' := ?_) ?_ ?_
      rotate_left
      · show Act.put _ (some 64) _ = _
        simp only [Act.put, List.setIfInBounds_toArray, List.set_cons_zero, List.set_cons_succ]
        rfl
      refine pure_ (i := 18) (N := (some 65)) (v := ?_) (a' := ?_) #[true, true, true, true, true, true, true, true, true, true, true, true, true, true, true, true, true, true, true, false] rfl rfl (by kernel_rfl) (fun _ _ _ h => h) (Or.inl ⟨by rfl, ?_⟩) ?_ ?_
      rotate_left
      · intro w'
        go_simp
        with_reducible rfl
      rotate_left
      · simp only [Act.put, List.setIfInBounds_toArray, List.set_cons_zero, List.set_cons_succ]
        rfl
      refine pure_ (i := 19) (N := (some 8)) (v := ?_) (a' := ?_) #[true, true, true, true, true, true, true, true, true, true, true, true, true, true, true, true, true, true, true, true] rfl rfl (by kernel_rfl) (fun _ _ _ h => h) (Or.inl ⟨by rfl, ?_⟩) ?_ ?_
      rotate_left
      · intro w'
        go_simp
        with_reducible rfl
      rotate_left
      · simp only [Act.put, List.setIfInBounds_toArray, List.set_cons_zero, List.set_cons_succ]
        rfl
      refine done_ (by kernel_rfl) ?_
      go_wp2
      go_ret
      exact ⟨rfl, hHeld.2.below⟩
    · have hr : ckR c n = 1 := by unfold ckR; rw [hb]; rfl
      refine start_ (n := 20) (S := fun w' => Blk w' g9 25 #[.int .i64 (c.nodes), .int .i64 (c.lines), .int .i64 (c.words), .int .i64 (c.sets), .int .i64 (c.ways), .int .i64 (c.out), .int .i64 (c.in_), (.slice A n cc)] ∧ New w w') (ds := []) #[false, false, false, false, false, false, false, false, false, false, false, false, false, false, false, false, false, false, false, false] (by kernel_rfl) rfl rfl ⟨D9.drew, DN.drew⟩ (fun hHeld => ?_)
      refine take_ (i := 0) (N := (some 47)) (v := ?_) (a' := ?_) #[true, false, false, false, false, false, false, false, false, false, false, false, false, false, false, false, false, false, false, false] rfl rfl (by kernel_rfl) (fun _ _ _ h => h) (Or.inl ⟨by rfl, ?_⟩) hHeld ?_ ?_
      rotate_left
      · rintro w' ⟨s0, s1⟩
        refine run_load_blk 25 (.tmp 9) ?_ ?_ s0 Try.underlying25 rfl (by kernel_rfl)
        · rfl
        · rfl
      rotate_left
      · simp only [Act.put, List.setIfInBounds_toArray, List.set_cons_zero, List.set_cons_succ]
        rfl
      refine take_ (i := 3) (N := (some 50)) (v := ?_) (a' := ?_) #[true, false, false, true, false, false, false, false, false, false, false, false, false, false, false, false, false, false, false, false] rfl rfl (by kernel_rfl) (fun _ _ _ h => h) (Or.inl ⟨by rfl, ?_⟩) hHeld ?_ ?_
      rotate_left
      · rintro w' ⟨s0, s1⟩
        refine run_load_blk 25 (.tmp 9) ?_ ?_ s0 Try.underlying25 rfl (by kernel_rfl)
        · rfl
        · rfl
      rotate_left
      · simp only [Act.put, List.setIfInBounds_toArray, List.set_cons_zero, List.set_cons_succ]
        rfl
      refine one_ (i := 1) (N := (some 48)) #[true, true, false, true, false, false, false, false, false, false, false, false, false, false, false, false, false, false, false, false] rfl rfl (by kernel_rfl) (by decide) (fun K hK => ?_)
      refine goesR_ Try.func10 (by kernel_rfl) rfl (args := ?zhA_16) (xs := ?zhs_16) (ts := ?zht_16) ?zhw_16 ?zhN_16 ?zhp_16 ?zha_16 ?zhk_16; (case zhN_16 => rfl); (case zhp_16 => rfl); (case zhw_16 => rfl); (case zha_16 => (go_simp; rfl)); (refine (plan_check c _ _ _ _).mono ?_); rintro e w' ⟨rfl, X⟩; refine ⟨_, rfl, ?_⟩
      refine hK.out _ _ ⟨hHeld.1.new_ X, hHeld.2.trans X⟩ (fun hHeld => ?_)
      clear hK K
      refine norm_ (a' := ?_) ?_ ?_
      rotate_left
      · show Act.put _ (some 48) _ = _
        simp only [Act.put, List.setIfInBounds_toArray, List.set_cons_zero, List.set_cons_succ]
        rfl
      refine pure_ (i := 2) (N := (some 49)) (v := ?_) (a' := ?_) #[true, true, true, true, false, false, false, false, false, false, false, false, false, false, false, false, false, false, false, false] rfl rfl (by kernel_rfl) (fun _ _ _ h => h) (Or.inl ⟨by rfl, ?_⟩) ?_ ?_
      rotate_left
      · intro w'
        go_simp
        with_reducible rfl
      rotate_left
      · simp only [Act.put, List.setIfInBounds_toArray, List.set_cons_zero, List.set_cons_succ]
        rfl
      refine one_ (i := 4) (N := (some 51)) #[true, true, true, true, true, false, false, false, false, false, false, false, false, false, false, false, false, false, false, false] rfl rfl (by kernel_rfl) (by decide) (fun K hK => ?_)
      refine goesR_ Try.func14 (by kernel_rfl) rfl (args := ?zhA_17) (xs := ?zhs_17) (ts := ?zht_17) ?zhw_17 ?zhN_17 ?zhp_17 ?zha_17 ?zhk_17; (case zhN_17 => rfl); (case zhp_17 => rfl); (case zhw_17 => rfl); (case zha_17 => (go_simp; rfl)); (refine (ref_check c _ _ _ _).mono ?_); rintro e w' ⟨rfl, X⟩; refine ⟨_, rfl, ?_⟩
      refine hK.out _ _ ⟨hHeld.1.new_ X, hHeld.2.trans X⟩ (fun hHeld => ?_)
      clear hK K
      refine norm_ (a' := ?_) ?_ ?_
      rotate_left
      · show Act.put _ (some 51) _ = _
        simp only [Act.put, List.setIfInBounds_toArray, List.set_cons_zero, List.set_cons_succ]
        rfl
      refine pure_ (i := 5) (N := (some 52)) (v := ?_) (a' := ?_) #[true, true, true, true, true, true, false, false, false, false, false, false, false, false, false, false, false, false, false, false] rfl rfl (by kernel_rfl) (fun _ _ _ h => h) (Or.inl ⟨by rfl, ?_⟩) ?_ ?_
      rotate_left
      · intro w'
        go_simp
        with_reducible rfl
      rotate_left
      · simp only [Act.put, List.setIfInBounds_toArray, List.set_cons_zero, List.set_cons_succ]
        rfl
      refine pure_ (i := 6) (N := (some 53)) (v := ?_) (a' := ?_) #[true, true, true, true, true, true, true, false, false, false, false, false, false, false, false, false, false, false, false, false] rfl rfl (by kernel_rfl) (fun _ _ _ h => h) (Or.inl ⟨by rfl, ?_⟩) ?_ ?_
      rotate_left
      · intro w'
        go_simp
        with_reducible rfl
      rotate_left
      · simp only [Act.put, List.setIfInBounds_toArray, List.set_cons_zero, List.set_cons_succ]
        rfl
      refine take_ (i := 7) (N := (some 54)) (v := ?_) (a' := ?_) #[true, true, true, true, true, true, true, true, false, false, false, false, false, false, false, false, false, false, false, false] rfl rfl (by kernel_rfl) (fun _ _ _ h => h) (Or.inl ⟨by rfl, ?_⟩) hHeld ?_ ?_
      rotate_left
      · rintro w' ⟨s0, s1⟩
        refine run_load_blk 25 (.tmp 9) ?_ ?_ s0 Try.underlying25 rfl (by kernel_rfl)
        · rfl
        · rfl
      rotate_left
      · simp only [Act.put, List.setIfInBounds_toArray, List.set_cons_zero, List.set_cons_succ]
        rfl
      refine one_ (i := 8) (N := (some 55)) #[true, true, true, true, true, true, true, true, true, false, false, false, false, false, false, false, false, false, false, false] rfl rfl (by kernel_rfl) (by decide) (fun K hK => ?_)
      refine goesR_ Try.func10 (by kernel_rfl) rfl (args := ?zhA_18) (xs := ?zhs_18) (ts := ?zht_18) ?zhw_18 ?zhN_18 ?zhp_18 ?zha_18 ?zhk_18; (case zhN_18 => rfl); (case zhp_18 => rfl); (case zhw_18 => rfl); (case zha_18 => (go_simp; rfl)); (refine (plan_check c _ _ _ _).mono ?_); rintro e w' ⟨rfl, X⟩; refine ⟨_, rfl, ?_⟩
      refine hK.out _ _ ⟨hHeld.1.new_ X, hHeld.2.trans X⟩ (fun hHeld => ?_)
      clear hK K
      refine norm_ (a' := ?_) ?_ ?_
      rotate_left
      · show Act.put _ (some 55) _ = _
        simp only [Act.put, List.setIfInBounds_toArray, List.set_cons_zero, List.set_cons_succ]
        rfl
      refine pure_ (i := 9) (N := (some 56)) (v := ?_) (a' := ?_) #[true, true, true, true, true, true, true, true, true, true, false, false, false, false, false, false, false, false, false, false] rfl rfl (by kernel_rfl) (fun _ _ _ h => h) (Or.inl ⟨by rfl, ?_⟩) ?_ ?_
      rotate_left
      · intro w'
        go_simp
        with_reducible rfl
      rotate_left
      · simp only [Act.put, List.setIfInBounds_toArray, List.set_cons_zero, List.set_cons_succ]
        rfl
      refine pure_ (i := 10) (N := (some 57)) (v := ?_) (a' := ?_) #[true, true, true, true, true, true, true, true, true, true, true, false, false, false, false, false, false, false, false, false] rfl rfl (by kernel_rfl) (fun _ _ _ h => h) (Or.inl ⟨by rfl, ?_⟩) ?_ ?_
      rotate_left
      · intro w'
        go_simp
        with_reducible rfl
      rotate_left
      · simp only [Act.put, List.setIfInBounds_toArray, List.set_cons_zero, List.set_cons_succ]
        rfl
      refine take_ (i := 11) (N := (some 58)) (v := ?_) (a' := ?_) #[true, true, true, true, true, true, true, true, true, true, true, true, false, false, false, false, false, false, false, false] rfl rfl (by kernel_rfl) (fun _ _ _ h => h) (Or.inl ⟨by rfl, ?_⟩) hHeld ?_ ?_
      rotate_left
      · rintro w' ⟨s0, s1⟩
        refine run_load_blk 25 (.tmp 9) ?_ ?_ s0 Try.underlying25 rfl (by kernel_rfl)
        · rfl
        · rfl
      rotate_left
      · simp only [Act.put, List.setIfInBounds_toArray, List.set_cons_zero, List.set_cons_succ]
        rfl
      refine one_ (i := 12) (N := (some 59)) #[true, true, true, true, true, true, true, true, true, true, true, true, true, false, false, false, false, false, false, false] rfl rfl (by kernel_rfl) (by decide) (fun K hK => ?_)
      refine goesR_ Try.func10 (by kernel_rfl) rfl (args := ?zhA_19) (xs := ?zhs_19) (ts := ?zht_19) ?zhw_19 ?zhN_19 ?zhp_19 ?zha_19 ?zhk_19; (case zhN_19 => rfl); (case zhp_19 => rfl); (case zhw_19 => rfl); (case zha_19 => (go_simp; rfl)); (refine (plan_check c _ _ _ _).mono ?_); rintro e w' ⟨rfl, X⟩; refine ⟨_, rfl, ?_⟩
      refine hK.out _ _ ⟨hHeld.1.new_ X, hHeld.2.trans X⟩ (fun hHeld => ?_)
      clear hK K
      refine norm_ (a' := ?_) ?_ ?_
      rotate_left
      · show Act.put _ (some 59) _ = _
        simp only [Act.put, List.setIfInBounds_toArray, List.set_cons_zero, List.set_cons_succ]
        rfl
      refine pure_ (i := 13) (N := (some 60)) (v := ?_) (a' := ?_) #[true, true, true, true, true, true, true, true, true, true, true, true, true, true, false, false, false, false, false, false] rfl rfl (by kernel_rfl) (fun _ _ _ h => h) (Or.inl ⟨by rfl, ?_⟩) ?_ ?_
      rotate_left
      · intro w'
        go_simp
        with_reducible rfl
      rotate_left
      · simp only [Act.put, List.setIfInBounds_toArray, List.set_cons_zero, List.set_cons_succ]
        rfl
      refine pure_ (i := 14) (N := (some 61)) (v := ?_) (a' := ?_) #[true, true, true, true, true, true, true, true, true, true, true, true, true, true, true, false, false, false, false, false] rfl rfl (by kernel_rfl) (fun _ _ _ h => h) (Or.inl ⟨by rfl, ?_⟩) ?_ ?_
      rotate_left
      · intro w'
        go_simp
        with_reducible rfl
      rotate_left
      · simp only [Act.put, List.setIfInBounds_toArray, List.set_cons_zero, List.set_cons_succ]
        rfl
      refine pure_ (i := 15) (N := (some 62)) (v := ?_) (a' := ?_) #[true, true, true, true, true, true, true, true, true, true, true, true, true, true, true, true, false, false, false, false] rfl rfl (by kernel_rfl) (fun _ _ _ h => h) (Or.inl ⟨by rfl, ?_⟩) ?_ ?_
      rotate_left
      · intro w'
        go_simp
        with_reducible rfl
      rotate_left
      · simp only [Act.put, List.setIfInBounds_toArray, List.set_cons_zero, List.set_cons_succ]
        rfl
      refine pure_ (i := 16) (N := (some 63)) (v := ?_) (a' := ?_) #[true, true, true, true, true, true, true, true, true, true, true, true, true, true, true, true, true, false, false, false] rfl rfl (by kernel_rfl) (fun _ _ _ h => h) (Or.inl ⟨by rfl, ?_⟩) ?_ ?_
      rotate_left
      · intro w'
        go_simp
        with_reducible rfl
      rotate_left
      · simp only [Act.put, List.setIfInBounds_toArray, List.set_cons_zero, List.set_cons_succ]
        rfl
      refine one_ (i := 17) (N := (some 64)) #[true, true, true, true, true, true, true, true, true, true, true, true, true, true, true, true, true, true, false, false] rfl rfl (by kernel_rfl) (by decide) (fun K hK => ?_)
      refine goesR_ Try.func11 (by kernel_rfl) rfl (args := ?zhA_20) (xs := ?zhs_20) (ts := ?zht_20) ?zhw_20 ?zhN_20 ?zhp_20 ?zha_20 ?zhk_20; (case zhN_20 => rfl); (case zhp_20 => rfl); (case zhw_20 => rfl); (case zha_20 => (go_simp; rfl)); (refine (wakes02 _).mono ?_); rintro e w' ⟨rfl, X⟩; refine ⟨_, rfl, ?_⟩
      refine hK.out _ _ ⟨hHeld.1.new_ X, hHeld.2.trans X⟩ (fun hHeld => ?_)
      clear hK K
      refine norm_ (a' := ?_) ?_ ?_
      rotate_left
      · show Act.put _ (some 64) _ = _
        simp only [Act.put, List.setIfInBounds_toArray, List.set_cons_zero, List.set_cons_succ]
        rfl
      refine pure_ (i := 18) (N := (some 65)) (v := ?_) (a' := ?_) #[true, true, true, true, true, true, true, true, true, true, true, true, true, true, true, true, true, true, true, false] rfl rfl (by kernel_rfl) (fun _ _ _ h => h) (Or.inl ⟨by rfl, ?_⟩) ?_ ?_
      rotate_left
      · intro w'
        go_simp
        with_reducible rfl
      rotate_left
      · simp only [Act.put, List.setIfInBounds_toArray, List.set_cons_zero, List.set_cons_succ]
        rfl
      refine pure_ (i := 19) (N := (some 8)) (v := ?_) (a' := ?_) #[true, true, true, true, true, true, true, true, true, true, true, true, true, true, true, true, true, true, true, true] rfl rfl (by kernel_rfl) (fun _ _ _ h => h) (Or.inl ⟨by rfl, ?_⟩) ?_ ?_
      rotate_left
      · intro w'
        go_simp
        with_reducible rfl
      rotate_left
      · simp only [Act.put, List.setIfInBounds_toArray, List.set_cons_zero, List.set_cons_succ]
        rfl
      refine done_ (by kernel_rfl) ?_
      go_wp2
      go_ret
      exact ⟨rfl, hHeld.2.below⟩
end Go.Proofs.Ytdfbpdbfiffpbaa.B
