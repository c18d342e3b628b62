/- plan: Copy, Cut, Config, the reference's Check. -/
import Derived.Test.YtdfbpdbfiffpbaaP1
namespace Go.Proofs.Ytdfbpdbfiffpbaa.B
open Go.RowKit Go.Proofs.YtdfbpdbfiffpbaaW.PrintWords Go.Proofs.YtdfbpdbfiffpbaaW.PrintLast Go.Proofs.YtdfbpdbfiffpbaaW.PrintMore
set_option linter.unusedVariables false

theorem infoInt : (Try.prog.info? 3).map (fun i => (i.zero, i.size, i.bytes)) = some (some (.int .i64 0), 1, 8) := by kernel_rfl
theorem encs_nums (k : IntKind) (l : List Int) : encs (Value.int k) l = nums k l := rfl
set_option maxHeartbeats 400000 in
theorem keep_copy_int (A : Option Addr) (n c : Nat) (l : List Int) (w : World) (hr : (Kd.int .i64).C w A n l) (hl : n * 8 ≤ 140737488355328) :
    Calls Try.prog 27 #[.slice A n c] w fun e w' => ∃ A n c, e = .returned (.slice A n c) ∧ (Kd.int .i64).R 3 w' w.heap.size (fun _ => True) (.slice A n c) l ∧ New w w' := by
  have HR := Lib.hid hr
  clear hr
  go_enter Try.func27, Try.ntmps27
  go_wp2_with ((at_builtin; refine print_append_row (w0 := w) w.heap.size rfl (.const (.slice none 0 0)) (.tmp 3) 23 3 .i64 8 rfl Try.underlying23 infoInt (by omega) (.slice none 0 0) [] l A n c rfl rfl (own_nil _ _ _ _) (readsInt_of.2 (Kd.reads_of_C HR.out)) (Below.refl _ _) (Nat.le_refl _) (by simpa using hl) ?_; intro v1 w1 h1 h2 h3 h4))
  have hR : (Kd.int .i64).R 3 w1 w.heap.size (fun _ => True) v1 l := Kd.R_of_own (by simpa [encs_nums] using h1) (fun _ _ => trivial)
  obtain ⟨A1, n1, c1, rfl⟩ := R_shape hR
  go_ret
  exact ⟨A1, n1, c1, rfl, hR, Ext.of_below h2⟩
/-- A cut of a row that is read. -/
theorem C_take {k : IntKind} {w : World} {A : Option Addr} {n : Nat} {l : List Int} (h : (Kd.int k).C w A n l) (m : Nat) (hm : m ≤ n) : (Kd.int k).C w A m (l.take m) :=
  Kd.C_of_reads (readsInt_of.1 (ReadsInt.take_ (readsInt_of.2 (Kd.reads_of_C h)) m hm))
set_option maxHeartbeats 400000 in
theorem keep_cut_int (A : Option Addr) (n c : Nat) (l : List Int) (m : Int) (w : World) (hr : (Kd.int .i64).C w A n l) (hc : n ≤ c) (h0 : 0 ≤ m) (h1 : m ≤ 1000000) :
    Calls Try.prog 13 #[.slice A n c, .int .i64 m] w fun e w' => ∃ A n c, e = .returned (.slice A n c) ∧ (Kd.int .i64).R 3 w' w.heap.size (fun _ => True) (.slice A n c) (l.take m.toNat) ∧ New w w' := by
  have hz : n ≤ 9223372036854775807 := hr.2.1
  have hl : l.length = n := hr.1
  have HL := Lib.hid hl
  clear hl
  obtain ⟨m, rfl⟩ := Int.eq_ofNat_of_zero_le h0
  have HR := Lib.hid hr
  clear hr
  go_enter Try.func13, Try.ntmps13
  go_wp2_with fail
  · have hm : m < n := by assumption
    refine (keep_copy_int _ _ _ (l.take m) _ (C_take HR.out m (by omega)) (by omega)).mono ?_
    rintro e w' ⟨A', n', c', rfl, h1, h2⟩
    go_wp2
    go_ret
    exact ⟨A', n', c', rfl, by simpa using h1, h2⟩
  · have hm : ¬ m < n := by assumption
    refine (keep_copy_int _ _ _ l _ HR.out (by omega)).mono ?_
    rintro e w' ⟨A', n', c', rfl, h1, h2⟩
    go_wp2
    go_ret
    refine ⟨A', n', c', rfl, ?_, h2⟩
    rw [List.take_of_length_le (by rw [HL.out]; simp; omega)]
    exact h1
theorem wrap_mul (a b : Int) (h1 : 0 ≤ a) (h2 : a ≤ 100) (h3 : 0 ≤ b) (h4 : b ≤ 100) : IntKind.i64.wrap (a * b) = a * b ∧ 0 ≤ a * b ∧ a * b ≤ 10000 := by
  have h5 := Int.mul_nonneg h1 h3
  have h6 : a * b ≤ 100 * 100 := Int.mul_le_mul h2 h4 h3 (by decide)
  exact ⟨IntWalk.i64_in _ (by omega), h5, by omega⟩
theorem wrap_one (x n : Int) (h : 0 < n) (hn : n ≤ 100) : IntKind.i64.wrap (1 + x % n) = 1 + x % n := by
  have h1 := Int.emod_nonneg x (show n ≠ 0 by omega)
  have h2 := Int.emod_lt_of_pos x h
  exact IntWalk.i64_in _ (by omega)
/-- The configuration of small numbers. -/
def cfg (s : GSetup) : GConfig := ⟨1 + s.nodes % 4, 1 + s.lines % 4, 1 + s.words % 2, 1 + s.sets % 2, 1 + s.ways % 2, 1 + s.out % 3, 1 + s.in_ % 3, s.init.take ((1 + s.lines % 4) * (1 + s.words % 2)).toNat⟩
set_option maxHeartbeats 4000000 in
theorem play_config (cs : List Value) (s : GSetup) (w : World) (hK : kGSetup.K w s cs) :
    Calls Try.prog 12 #[.agg cs.toArray] w fun e w' => ∃ A n c, e = .returned (.agg #[.int .i64 (cfg s).nodes, .int .i64 (cfg s).lines, .int .i64 (cfg s).words, .int .i64 (cfg s).sets, .int .i64 (cfg s).ways, .int .i64 (cfg s).out, .int .i64 (cfg s).in_, .slice A n c]) ∧ (Kd.int .i64).R 3 w' w.heap.size (fun _ => True) (.slice A n c) (cfg s).init ∧ New w w' := by
  obtain ⟨A0, c0, A1, c1, A2, c2, A3, c3, A4, c4, rfl, l0, h0, -, -, -, -, -, -, -, -⟩ := kGSetup_open hK
  have HR := Lib.hid h0
  clear h0 hK
  have b1 := Int.emod_nonneg s.lines (show (4 : Int) ≠ 0 by omega)
  have b2 := Int.emod_lt_of_pos s.lines (show (0 : Int) < 4 by omega)
  have b3 := Int.emod_nonneg s.words (show (2 : Int) ≠ 0 by omega)
  have b4 := Int.emod_lt_of_pos s.words (show (0 : Int) < 2 by omega)
  go_enter Try.func12, Try.ntmps12
  go_wp2_with (first | ((with_reducible refine gate_dst (N := 1) rfl ?_); refine evNew rfl (t := 31) (cs := #[.int .i64 s.nodes, .int .i64 s.lines, .int .i64 s.words, .int .i64 s.sets, .int .i64 s.ways, .int .i64 s.out, .int .i64 s.in_, .slice A0 s.init.length c0, .slice A1 s.who.length c1, .slice A2 s.kinds.length c2, .slice A3 s.addrs.length c3, .slice A4 s.values.length c4]) (mk := fun g => .pointer (some ⟨g, 0, none⟩)) ?zhr_1 ?_; (case zhr_1 => first | (go_simp; done) | (go_simp; rfl)); intro g1 w1 e1 B1 N1) | ((with_reducible refine gate_dst (N := 2) rfl ?_); refine evNew rfl (t := 25) (cs := #[.int .i64 0, .int .i64 0, .int .i64 0, .int .i64 0, .int .i64 0, .int .i64 0, .int .i64 0, .slice none 0 0]) (mk := fun g => .pointer (some ⟨g, 0, none⟩)) ?zhr_2 ?_; (case zhr_2 => first | (go_simp; done) | (go_simp; rfl)); intro g2 w2 e2 B2 N2))
  have n12 : g1 ≠ g2 := (B1.new_ N2).ne_ B2 (by decide)
  have gw1 : w.heap.size ≤ g1 := by omega
  have gw2 : w.heap.size ≤ g2 := by have := N1.size; omega
  clear e1 e2
  have q1 := wrap_one s.nodes 4 (by decide) (by decide)
  have q2 := wrap_one s.lines 4 (by decide) (by decide)
  have q3 := wrap_one s.words 2 (by decide) (by decide)
  have q4 := wrap_one s.sets 2 (by decide) (by decide)
  have q5 := wrap_one s.ways 2 (by decide) (by decide)
  have q6 := wrap_one s.out 3 (by decide) (by decide)
  have q7 := wrap_one s.in_ 3 (by decide) (by decide)
  refine start_ (n := 31) (S := fun w' => Blk w' g1 31 #[.int .i64 s.nodes, .int .i64 s.lines, .int .i64 s.words, .int .i64 s.sets, .int .i64 s.ways, .int .i64 s.out, .int .i64 s.in_, .slice A0 s.init.length c0, .slice A1 s.who.length c1, .slice A2 s.kinds.length c2, .slice A3 s.addrs.length c3, .slice A4 s.values.length c4] ∧ Blk w' g2 25 #[.int .i64 0, .int .i64 0, .int .i64 0, .int .i64 0, .int .i64 0, .int .i64 0, .int .i64 0, .slice none 0 0] ∧ New w w') (ds := [30]) #[false, false, false, false, false, false, false, false, false, false, false, false, false, false, false, false, false, false, false, false, false, false, false, false, false, false, false, false, false, false, false] (by kernel_rfl) rfl rfl ⟨(B1.new_ N2).drew, B2.drew, (N1.trans N2).drew⟩ (fun hHeld => ?_)
  refine pure_ (i := 0) (N := (some 4)) (v := ?_) (a' := ?_) #[true, false, false, false, false, false, false, false, false, false, false, false, false, false, false, false, false, false, false, false, false, false, false, false, false, false, false, false, false, false, false] rfl rfl (by kernel_rfl) (fun _ _ _ h => h) (Or.inl ⟨by rfl, ?_⟩) ?_ ?_
  rotate_left
  · intro w'
    go_simp
    with_reducible rfl
  rotate_left
  · simp only [Act.put, List.setIfInBounds_toArray, List.set_cons_zero, List.set_cons_succ]
    rfl
  refine pure_ (i := 4) (N := (some 8)) (v := ?_) (a' := ?_) #[true, false, false, false, true, false, false, false, false, false, false, false, false, false, false, false, false, false, false, false, false, false, false, false, false, false, false, false, false, false, false] rfl rfl (by kernel_rfl) (fun _ _ _ h => h) (Or.inl ⟨by rfl, ?_⟩) ?_ ?_
  rotate_left
  · intro w'
    go_simp
    with_reducible rfl
  rotate_left
  · simp only [Act.put, List.setIfInBounds_toArray, List.set_cons_zero, List.set_cons_succ]
    rfl
  refine pure_ (i := 8) (N := (some 12)) (v := ?_) (a' := ?_) #[true, false, false, false, true, false, false, false, true, false, false, false, false, false, false, false, false, false, false, false, false, false, false, false, false, false, false, false, false, false, false] rfl rfl (by kernel_rfl) (fun _ _ _ h => h) (Or.inl ⟨by rfl, ?_⟩) ?_ ?_
  rotate_left
  · intro w'
    go_simp
    with_reducible rfl
  rotate_left
  · simp only [Act.put, List.setIfInBounds_toArray, List.set_cons_zero, List.set_cons_succ]
    rfl
  refine pure_ (i := 12) (N := (some 16)) (v := ?_) (a' := ?_) #[true, false, false, false, true, false, false, false, true, false, false, false, true, false, false, false, false, false, false, false, false, false, false, false, false, false, false, false, false, false, false] rfl rfl (by kernel_rfl) (fun _ _ _ h => h) (Or.inl ⟨by rfl, ?_⟩) ?_ ?_
  rotate_left
  · intro w'
    go_simp
    with_reducible rfl
  rotate_left
  · simp only [Act.put, List.setIfInBounds_toArray, List.set_cons_zero, List.set_cons_succ]
    rfl
  refine pure_ (i := 16) (N := (some 20)) (v := ?_) (a' := ?_) #[true, false, false, false, true, false, false, false, true, false, false, false, true, false, false, false, true, false, false, false, false, false, false, false, false, false, false, false, false, false, false] rfl rfl (by kernel_rfl) (fun _ _ _ h => h) (Or.inl ⟨by rfl, ?_⟩) ?_ ?_
  rotate_left
  · intro w'
    go_simp
    with_reducible rfl
  rotate_left
  · simp only [Act.put, List.setIfInBounds_toArray, List.set_cons_zero, List.set_cons_succ]
    rfl
  refine pure_ (i := 20) (N := (some 24)) (v := ?_) (a' := ?_) #[true, false, false, false, true, false, false, false, true, false, false, false, true, false, false, false, true, false, false, false, true, false, false, false, false, false, false, false, false, false, false] rfl rfl (by kernel_rfl) (fun _ _ _ h => h) (Or.inl ⟨by rfl, ?_⟩) ?_ ?_
  rotate_left
  · intro w'
    go_simp
    with_reducible rfl
  rotate_left
  · simp only [Act.put, List.setIfInBounds_toArray, List.set_cons_zero, List.set_cons_succ]
    rfl
  refine pure_ (i := 24) (N := (some 28)) (v := ?_) (a' := ?_) #[true, false, false, false, true, false, false, false, true, false, false, false, true, false, false, false, true, false, false, false, true, false, false, false, true, false, false, false, false, false, false] rfl rfl (by kernel_rfl) (fun _ _ _ h => h) (Or.inl ⟨by rfl, ?_⟩) ?_ ?_
  rotate_left
  · intro w'
    go_simp
    with_reducible rfl
  rotate_left
  · simp only [Act.put, List.setIfInBounds_toArray, List.set_cons_zero, List.set_cons_succ]
    rfl
  refine take_ (i := 1) (N := (some 5)) (v := ?_) (a' := ?_) #[true, true, false, false, true, false, false, false, true, false, false, false, true, false, false, false, true, false, false, false, true, false, false, false, true, false, false, false, false, false, false] rfl rfl (by kernel_rfl) (fun _ _ _ h => h) (Or.inl ⟨by rfl, ?_⟩) hHeld ?_ ?_
  rotate_left
  · rintro w' ⟨s0, s1, s2⟩
    have q := (s0.cell 0).trans rfl
    go_simp
    with_reducible rfl
  rotate_left
  · simp only [Act.put, List.setIfInBounds_toArray, List.set_cons_zero, List.set_cons_succ]
    rfl
  refine take_ (i := 5) (N := (some 9)) (v := ?_) (a' := ?_) #[true, true, false, false, true, true, false, false, true, false, false, false, true, false, false, false, true, false, false, false, true, false, false, false, true, false, false, false, false, false, false] rfl rfl (by kernel_rfl) (fun _ _ _ h => h) (Or.inl ⟨by rfl, ?_⟩) hHeld ?_ ?_
  rotate_left
  · rintro w' ⟨s0, s1, s2⟩
    have q := (s0.cell 1).trans rfl
    go_simp
    with_reducible rfl
  rotate_left
  · simp only [Act.put, List.setIfInBounds_toArray, List.set_cons_zero, List.set_cons_succ]
    rfl
  refine take_ (i := 9) (N := (some 13)) (v := ?_) (a' := ?_) #[true, true, false, false, true, true, false, false, true, true, false, false, true, false, false, false, true, false, false, false, true, false, false, false, true, false, false, false, false, false, false] rfl rfl (by kernel_rfl) (fun _ _ _ h => h) (Or.inl ⟨by rfl, ?_⟩) hHeld ?_ ?_
  rotate_left
  · rintro w' ⟨s0, s1, s2⟩
    have q := (s0.cell 2).trans rfl
    go_simp
    with_reducible rfl
  rotate_left
  · simp only [Act.put, List.setIfInBounds_toArray, List.set_cons_zero, List.set_cons_succ]
    rfl
  refine take_ (i := 13) (N := (some 17)) (v := ?_) (a' := ?_) #[true, true, false, false, true, true, false, false, true, true, false, false, true, true, false, false, true, false, false, false, true, false, false, false, true, false, false, false, false, false, false] rfl rfl (by kernel_rfl) (fun _ _ _ h => h) (Or.inl ⟨by rfl, ?_⟩) hHeld ?_ ?_
  rotate_left
  · rintro w' ⟨s0, s1, s2⟩
    have q := (s0.cell 3).trans rfl
    go_simp
    with_reducible rfl
  rotate_left
  · simp only [Act.put, List.setIfInBounds_toArray, List.set_cons_zero, List.set_cons_succ]
    rfl
  refine take_ (i := 17) (N := (some 21)) (v := ?_) (a' := ?_) #[true, true, false, false, true, true, false, false, true, true, false, false, true, true, false, false, true, true, false, false, true, false, false, false, true, false, false, false, false, false, false] rfl rfl (by kernel_rfl) (fun _ _ _ h => h) (Or.inl ⟨by rfl, ?_⟩) hHeld ?_ ?_
  rotate_left
  · rintro w' ⟨s0, s1, s2⟩
    have q := (s0.cell 4).trans rfl
    go_simp
    with_reducible rfl
  rotate_left
  · simp only [Act.put, List.setIfInBounds_toArray, List.set_cons_zero, List.set_cons_succ]
    rfl
  refine take_ (i := 21) (N := (some 25)) (v := ?_) (a' := ?_) #[true, true, false, false, true, true, false, false, true, true, false, false, true, true, false, false, true, true, false, false, true, true, false, false, true, false, false, false, false, false, false] rfl rfl (by kernel_rfl) (fun _ _ _ h => h) (Or.inl ⟨by rfl, ?_⟩) hHeld ?_ ?_
  rotate_left
  · rintro w' ⟨s0, s1, s2⟩
    have q := (s0.cell 5).trans rfl
    go_simp
    with_reducible rfl
  rotate_left
  · simp only [Act.put, List.setIfInBounds_toArray, List.set_cons_zero, List.set_cons_succ]
    rfl
  refine take_ (i := 25) (N := (some 29)) (v := ?_) (a' := ?_) #[true, true, false, false, true, true, false, false, true, true, false, false, true, true, false, false, true, true, false, false, true, true, false, false, true, true, false, false, false, false, false] rfl rfl (by kernel_rfl) (fun _ _ _ h => h) (Or.inl ⟨by rfl, ?_⟩) hHeld ?_ ?_
  rotate_left
  · rintro w' ⟨s0, s1, s2⟩
    have q := (s0.cell 6).trans rfl
    go_simp
    with_reducible rfl
  rotate_left
  · simp only [Act.put, List.setIfInBounds_toArray, List.set_cons_zero, List.set_cons_succ]
    rfl
  refine quiet_ (i := 2) (N := (some 6)) (v := ?_) (a' := ?_) #[true, true, true, false, true, true, false, false, true, true, false, false, true, true, false, false, true, true, false, false, true, true, false, false, true, true, false, false, false, false, false] rfl rfl (by kernel_rfl) (fun _ _ _ h => h) (Or.inl ⟨by rfl, ?_⟩) hHeld ?_ ?_
  rotate_left
  · rintro w' ⟨s0, s1, s2⟩
    refine goesQ_ Try.func9 (by kernel_rfl) rfl (args := ?_) rfl ?_ ?_
    rotate_left
    · go_simp
      rfl
    rotate_left
    · refine (keep_within _ _ _ ?_ ?_) <;> (first | omega | assumption)
  rotate_left
  · simp only [Act.put, List.setIfInBounds_toArray, List.set_cons_zero, List.set_cons_succ]
    rfl
  refine pure_ (i := 3) (N := (some 7)) (v := ?_) (a' := ?_) #[true, true, true, true, true, true, false, false, true, true, false, false, true, true, false, false, true, true, false, false, true, true, false, false, true, true, false, false, false, false, false] rfl rfl (by kernel_rfl) (fun _ _ _ h => h) (Or.inl ⟨by rfl, ?_⟩) ?_ ?_
  rotate_left
  · intro w'
    go_simp
    with_reducible rfl
  rotate_left
  · simp only [Act.put, List.setIfInBounds_toArray, List.set_cons_zero, List.set_cons_succ]
    rfl
  refine quiet_ (i := 6) (N := (some 10)) (v := ?_) (a' := ?_) #[true, true, true, true, true, true, true, false, true, true, false, false, true, true, false, false, true, true, false, false, true, true, false, false, true, true, false, false, false, false, false] rfl rfl (by kernel_rfl) (fun _ _ _ h => h) (Or.inl ⟨by rfl, ?_⟩) hHeld ?_ ?_
  rotate_left
  · rintro w' ⟨s0, s1, s2⟩
    refine goesQ_ Try.func9 (by kernel_rfl) rfl (args := ?_) rfl ?_ ?_
    rotate_left
    · go_simp
      rfl
    rotate_left
    · refine (keep_within _ _ _ ?_ ?_) <;> (first | omega | assumption)
  rotate_left
  · simp only [Act.put, List.setIfInBounds_toArray, List.set_cons_zero, List.set_cons_succ]
    rfl
  refine pure_ (i := 7) (N := (some 11)) (v := ?_) (a' := ?_) #[true, true, true, true, true, true, true, true, true, true, false, false, true, true, false, false, true, true, false, false, true, true, false, false, true, true, false, false, false, false, false] rfl rfl (by kernel_rfl) (fun _ _ _ h => h) (Or.inl ⟨by rfl, ?_⟩) ?_ ?_
  rotate_left
  · intro w'
    go_simp
    with_reducible rfl
  rotate_left
  · simp only [Act.put, List.setIfInBounds_toArray, List.set_cons_zero, List.set_cons_succ]
    rfl
  refine quiet_ (i := 10) (N := (some 14)) (v := ?_) (a' := ?_) #[true, true, true, true, true, true, true, true, true, true, true, false, true, true, false, false, true, true, false, false, true, true, false, false, true, true, false, false, false, false, false] rfl rfl (by kernel_rfl) (fun _ _ _ h => h) (Or.inl ⟨by rfl, ?_⟩) hHeld ?_ ?_
  rotate_left
  · rintro w' ⟨s0, s1, s2⟩
    refine goesQ_ Try.func9 (by kernel_rfl) rfl (args := ?_) rfl ?_ ?_
    rotate_left
    · go_simp
      rfl
    rotate_left
    · refine (keep_within _ _ _ ?_ ?_) <;> (first | omega | assumption)
  rotate_left
  · simp only [Act.put, List.setIfInBounds_toArray, List.set_cons_zero, List.set_cons_succ]
    rfl
  refine pure_ (i := 11) (N := (some 15)) (v := ?_) (a' := ?_) #[true, true, true, true, true, true, true, true, true, true, true, true, true, true, false, false, true, true, false, false, true, true, false, false, true, true, false, false, false, false, false] rfl rfl (by kernel_rfl) (fun _ _ _ h => h) (Or.inl ⟨by rfl, ?_⟩) ?_ ?_
  rotate_left
  · intro w'
    go_simp
    with_reducible rfl
  rotate_left
  · simp only [Act.put, List.setIfInBounds_toArray, List.set_cons_zero, List.set_cons_succ]
    rfl
  refine quiet_ (i := 14) (N := (some 18)) (v := ?_) (a' := ?_) #[true, true, true, true, true, true, true, true, true, true, true, true, true, true, true, false, true, true, false, false, true, true, false, false, true, true, false, false, false, false, false] rfl rfl (by kernel_rfl) (fun _ _ _ h => h) (Or.inl ⟨by rfl, ?_⟩) hHeld ?_ ?_
  rotate_left
  · rintro w' ⟨s0, s1, s2⟩
    refine goesQ_ Try.func9 (by kernel_rfl) rfl (args := ?_) rfl ?_ ?_
    rotate_left
    · go_simp
      rfl
    rotate_left
    · refine (keep_within _ _ _ ?_ ?_) <;> (first | omega | assumption)
  rotate_left
  · simp only [Act.put, List.setIfInBounds_toArray, List.set_cons_zero, List.set_cons_succ]
    rfl
  refine pure_ (i := 15) (N := (some 19)) (v := ?_) (a' := ?_) #[true, true, true, true, true, true, true, true, true, true, true, true, true, true, true, true, true, true, false, false, true, true, false, false, true, true, false, false, false, false, false] rfl rfl (by kernel_rfl) (fun _ _ _ h => h) (Or.inl ⟨by rfl, ?_⟩) ?_ ?_
  rotate_left
  · intro w'
    go_simp
    with_reducible rfl
  rotate_left
  · simp only [Act.put, List.setIfInBounds_toArray, List.set_cons_zero, List.set_cons_succ]
    rfl
  refine quiet_ (i := 18) (N := (some 22)) (v := ?_) (a' := ?_) #[true, true, true, true, true, true, true, true, true, true, true, true, true, true, true, true, true, true, true, false, true, true, false, false, true, true, false, false, false, false, false] rfl rfl (by kernel_rfl) (fun _ _ _ h => h) (Or.inl ⟨by rfl, ?_⟩) hHeld ?_ ?_
  rotate_left
  · rintro w' ⟨s0, s1, s2⟩
    refine goesQ_ Try.func9 (by kernel_rfl) rfl (args := ?_) rfl ?_ ?_
    rotate_left
    · go_simp
      rfl
    rotate_left
    · refine (keep_within _ _ _ ?_ ?_) <;> (first | omega | assumption)
  rotate_left
  · simp only [Act.put, List.setIfInBounds_toArray, List.set_cons_zero, List.set_cons_succ]
    rfl
  refine pure_ (i := 19) (N := (some 23)) (v := ?_) (a' := ?_) #[true, true, true, true, true, true, true, true, true, true, true, true, true, true, true, true, true, true, true, true, true, true, false, false, true, true, false, false, false, false, false] rfl rfl (by kernel_rfl) (fun _ _ _ h => h) (Or.inl ⟨by rfl, ?_⟩) ?_ ?_
  rotate_left
  · intro w'
    go_simp
    with_reducible rfl
  rotate_left
  · simp only [Act.put, List.setIfInBounds_toArray, List.set_cons_zero, List.set_cons_succ]
    rfl
  refine quiet_ (i := 22) (N := (some 26)) (v := ?_) (a' := ?_) #[true, true, true, true, true, true, true, true, true, true, true, true, true, true, true, true, true, true, true, true, true, true, true, false, true, true, false, false, false, false, false] rfl rfl (by kernel_rfl) (fun _ _ _ h => h) (Or.inl ⟨by rfl, ?_⟩) hHeld ?_ ?_
  rotate_left
  · rintro w' ⟨s0, s1, s2⟩
    refine goesQ_ Try.func9 (by kernel_rfl) rfl (args := ?_) rfl ?_ ?_
    rotate_left
    · go_simp
      rfl
    rotate_left
    · refine (keep_within _ _ _ ?_ ?_) <;> (first | omega | assumption)
  rotate_left
  · simp only [Act.put, List.setIfInBounds_toArray, List.set_cons_zero, List.set_cons_succ]
    rfl
  refine pure_ (i := 23) (N := (some 27)) (v := ?_) (a' := ?_) #[true, true, true, true, true, true, true, true, true, true, true, true, true, true, true, true, true, true, true, true, true, true, true, true, true, true, false, false, false, false, false] rfl rfl (by kernel_rfl) (fun _ _ _ h => h) (Or.inl ⟨by rfl, ?_⟩) ?_ ?_
  rotate_left
  · intro w'
    go_simp
    with_reducible rfl
  rotate_left
  · simp only [Act.put, List.setIfInBounds_toArray, List.set_cons_zero, List.set_cons_succ]
    rfl
  refine quiet_ (i := 26) (N := (some 30)) (v := ?_) (a' := ?_) #[true, true, true, true, true, true, true, true, true, true, true, true, true, true, true, true, true, true, true, true, true, true, true, true, true, true, true, false, false, false, false] rfl rfl (by kernel_rfl) (fun _ _ _ h => h) (Or.inl ⟨by rfl, ?_⟩) hHeld ?_ ?_
  rotate_left
  · rintro w' ⟨s0, s1, s2⟩
    refine goesQ_ Try.func9 (by kernel_rfl) rfl (args := ?_) rfl ?_ ?_
    rotate_left
    · go_simp
      rfl
    rotate_left
    · refine (keep_within _ _ _ ?_ ?_) <;> (first | omega | assumption)
  rotate_left
  · simp only [Act.put, List.setIfInBounds_toArray, List.set_cons_zero, List.set_cons_succ]
    rfl
  refine pure_ (i := 27) (N := (some 31)) (v := ?_) (a' := ?_) #[true, true, true, true, true, true, true, true, true, true, true, true, true, true, true, true, true, true, true, true, true, true, true, true, true, true, true, true, false, false, false] rfl rfl (by kernel_rfl) (fun _ _ _ h => h) (Or.inl ⟨by rfl, ?_⟩) ?_ ?_
  rotate_left
  · intro w'
    go_simp
    with_reducible rfl
  rotate_left
  · simp only [Act.put, List.setIfInBounds_toArray, List.set_cons_zero, List.set_cons_succ]
    rfl
  refine pure_ (i := 28) (N := (some 32)) (v := ?_) (a' := ?_) #[true, true, true, true, true, true, true, true, true, true, true, true, true, true, true, true, true, true, true, true, true, true, true, true, true, true, true, true, true, false, false] rfl rfl (by kernel_rfl) (fun _ _ _ h => h) (Or.inl ⟨by rfl, ?_⟩) ?_ ?_
  rotate_left
  · intro w'
    go_simp
    with_reducible rfl
  rotate_left
  · simp only [Act.put, List.setIfInBounds_toArray, List.set_cons_zero, List.set_cons_succ]
    rfl
  refine one_ (i := 29) (N := (some 3)) #[true, true, true, true, true, true, true, true, true, true, true, true, true, true, true, true, true, true, true, true, true, true, true, true, true, true, true, true, true, true, false] rfl rfl (by kernel_rfl) (by decide) (fun K hK => ?_)
  refine stNew (by rfl) rfl (t := 25) (cs := #[.int .i64 0, .int .i64 0, .int .i64 0, .int .i64 0, .int .i64 0, .int .i64 0, .int .i64 0, .slice none 0 0]) (mk := fun g => .pointer (some ⟨g, 0, none⟩)) (by first | (go_simp; done) | (go_simp; rfl)) (fun g3 w3 e3 B3 N3 => ?_)
  have n13 : g1 ≠ g3 := by have := hHeld.1.lt; omega
  have n23 : g2 ≠ g3 := by have := hHeld.2.1.lt; omega
  have gw3 : w.heap.size ≤ g3 := by have := hHeld.2.2.size; omega
  refine hK.out _ _ ⟨hHeld.1.new_ N3, hHeld.2.1.new_ N3, hHeld.2.2.trans N3⟩ (fun hHeld => ?_)
  clear hK K
  refine norm_ (a' := ?_) ?_ ?_
  rotate_left
  · show Act.put _ (some 3) _ = _
    simp only [Act.put, List.setIfInBounds_toArray, List.set_cons_zero, List.set_cons_succ]
    rfl
  refine last_ (i := 30) (N := none) #[true, true, true, true, true, true, true, true, true, true, true, true, true, true, true, true, true, true, true, true, true, true, true, true, true, true, true, true, true, true, true] rfl rfl (by kernel_rfl) (by decide) (fun K hK => ?_)
  refine stStore (by rfl) rfl 25 (.tmp 3) (.tmp 32) rfl (.agg #[.int .i64 (1 + s.nodes % 4), .int .i64 (1 + s.lines % 4), .int .i64 (1 + s.words % 2), .int .i64 (1 + s.sets % 2), .int .i64 (1 + s.ways % 2), .int .i64 (1 + s.out % 3), .int .i64 (1 + s.in_ % 3), .slice none 0 0]) [.int .i64 (1 + s.nodes % 4), .int .i64 (1 + s.lines % 4), .int .i64 (1 + s.words % 2), .int .i64 (1 + s.sets % 2), .int .i64 (1 + s.ways % 2), .int .i64 (1 + s.out % 3), .int .i64 (1 + s.in_ % 3), .slice none 0 0] rfl rfl B3 rfl (by kernel_rfl) (Nat.le_refl _) (by simp [Value.oneCell']) #[.int .i64 (1 + s.nodes % 4), .int .i64 (1 + s.lines % 4), .int .i64 (1 + s.words % 2), .int .i64 (1 + s.sets % 2), .int .i64 (1 + s.ways % 2), .int .i64 (1 + s.out % 3), .int .i64 (1 + s.in_ % 3), .slice none 0 0] rfl (fun w4 B4 X4 => ?_)
  refine hK.out _ _ ?_
  clear hK K
  refine done_ (by kernel_rfl) ?_
  obtain ⟨K1, K2, KN⟩ := hHeld
  have D1 := K1.ext X4 n13
  have D2 := K2.ext X4 n23
  have DN : New w w4 := (KN.trans' X4 (fun i hi => .inr (by omega)))
  have u1 := (D1.cell 7).trans rfl
  have u2 := (B4.cell 1).trans rfl
  have u3 := (B4.cell 2).trans rfl
  obtain ⟨m1, m2, m3⟩ := wrap_mul (1 + s.lines % 4) (1 + s.words % 2) (by omega) (by omega) (by omega) (by omega)
  clear n12 q1 q2 q3 q4 q5 q6 q7
  go_wp2_with fail
  refine (keep_cut_int _ _ _ s.init _ _ (C_new_ HR.out DN) l0 m2 (by omega)).mono ?_
  rintro e w5 ⟨A', n', c', rfl, R5, N5⟩
  have F2 := D2.new_ N5
  have F3 := B4.new_ N5
  clear u1 u2 u3
  go_wp2_with (first | ((with_reducible refine gate_store (t := 23) (p := 41) (v := .tmp 40) rfl ?_); go_loud (refine evStore (j := ?zhj_3) ?_ ?_ 23 (.tmp 41) (.tmp 40) ?zh1_3 (.slice A' n' c') [.slice A' n' c'] ?zh2_3 ?zh3_3 F3 ?zh4_3 ?zh5_3 ?zh6_3 ?zh7_3 #[.int .i64 (1 + s.nodes % 4), .int .i64 (1 + s.lines % 4), .int .i64 (1 + s.words % 2), .int .i64 (1 + s.sets % 2), .int .i64 (1 + s.ways % 2), .int .i64 (1 + s.out % 3), .int .i64 (1 + s.in_ % 3), .slice A' n' c'] ?zh8_3 ?zh9_3; (case zh1_3 => rfl); (case zh2_3 => rfl); (case zh3_3 => rfl); (case zh4_3 => rfl); (case zh5_3 => kernel_rfl); (case zh6_3 => simp); (case zh7_3 => simp [Value.oneCell']); (case zh8_3 => rfl); rfl; rfl; intro w6 F6 X6; have F2' := F2.ext X6 n23)) | (refine wpList_load_row rfl 25 (.tmp 3) rfl _ rfl _ _ (0, 0) _ F6 Try.underlying25 rfl (by kernel_rfl) ?_) | ((with_reducible refine gate_store (t := 25) (p := 2) (v := .tmp 42) rfl ?_); go_loud (refine evStore (j := ?zhj_4) ?_ ?_ 25 (.tmp 2) (.tmp 42) ?zh1_4 (.agg #[.int .i64 (1 + s.nodes % 4), .int .i64 (1 + s.lines % 4), .int .i64 (1 + s.words % 2), .int .i64 (1 + s.sets % 2), .int .i64 (1 + s.ways % 2), .int .i64 (1 + s.out % 3), .int .i64 (1 + s.in_ % 3), .slice A' n' c']) [.int .i64 (1 + s.nodes % 4), .int .i64 (1 + s.lines % 4), .int .i64 (1 + s.words % 2), .int .i64 (1 + s.sets % 2), .int .i64 (1 + s.ways % 2), .int .i64 (1 + s.out % 3), .int .i64 (1 + s.in_ % 3), .slice A' n' c'] ?zh2_4 ?zh3_4 F2' ?zh4_4 ?zh5_4 ?zh6_4 ?zh7_4 #[.int .i64 (1 + s.nodes % 4), .int .i64 (1 + s.lines % 4), .int .i64 (1 + s.words % 2), .int .i64 (1 + s.sets % 2), .int .i64 (1 + s.ways % 2), .int .i64 (1 + s.out % 3), .int .i64 (1 + s.in_ % 3), .slice A' n' c'] ?zh8_4 ?zh9_4; (case zh1_4 => rfl); (case zh2_4 => rfl); (case zh3_4 => rfl); (case zh4_4 => rfl); (case zh5_4 => kernel_rfl); (case zh6_4 => simp); (case zh7_4 => simp [Value.oneCell']); (case zh8_4 => rfl); rfl; rfl; intro w7 F7 X7)))
  have Y7 : New w w7 := ((DN.then_new N5).trans' X6 (fun i hi => .inr (by omega))).trans' X7 (fun i hi => .inr (by omega))
  refine ret_cell rfl rfl F7 Try.underlying25 rfl (by kernel_rfl) rfl ?_
  refine ⟨A', n', c', rfl, ?_, Y7⟩
  have z3 : g3 < w4.heap.size := B4.lt
  have z2 : g2 < w4.heap.size := D2.lt
  have R6 := R_ext (R_ext (R_ge R5) X6 (fun i hi => by obtain ⟨-, hi, -⟩ := hi; omega)) X7 (fun i hi => by obtain ⟨-, hi, -⟩ := hi; omega)
  exact Kd.R_lower (Kd.R_mono R6 (fun _ _ => trivial)) DN.size
end Go.Proofs.Ytdfbpdbfiffpbaa.B
