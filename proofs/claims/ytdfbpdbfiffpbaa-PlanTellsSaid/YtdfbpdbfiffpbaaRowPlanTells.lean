/- PlanTells: for every input that can be read as data the law returns true, and each argument reads as it did: no further condition. -/
import Derived.Test.YtdfbpdbfiffpbaaRows
import Derived.Test.YtdfbpdbfiffpbaaVPlanTells
import Derived.WalkKit
import Derived.ProofKit
import Derived.OpenShut
import Derived.ChangeOld
import Derived.Below
import Derived.SizedLaws
namespace Go.Proofs.Ytdfbpdbfiffpbaa.planTells
open Go.ChangeShapes Go.WideShapes Go.ChangeAt Go.RowKit Go.Deep Go.Proofs.Ytdfbpdbfiffpbaa.B Go.Proofs.YtdfbpdbfiffpbaaW.PrintWords
set_option linter.unusedVariables false
theorem own : ownKnob Try.prog.godebug = none := by kernel_rfl
theorem laidOut : laidOutB Try.prog = true := by kernel_rfl
theorem okAgg {w : World} {r : Reach} {base : Nat} {t : TypeId} {v : Value} {fs : Array Field} (h : Try.prog.underlying t = some (.struct fs)) (hv : Value.okWide Try.prog w r base t v) : ∃ cs, v = .agg cs := by
  simp only [Value.okWide, h] at hv
  obtain ⟨cs, e, _⟩ := hv
  exact ⟨cs, e⟩
set_option maxRecDepth 100000 in
set_option maxHeartbeats 4000000 in
theorem lifted (os : Os) (started : os.Started) (H : Type) (enc : TypeId × Value → H) :
    ReturnsInHanded {} Try.checked os 8 .any (Rows.planTellsSpec.pre6 enc Try.prog Try.f8 Rows.planTellsRow.domain false) (Rows.planTellsSpec.post enc Try.prog Try.f8 false true false false) := by
  refine returnsInHanded_of_change_sized (C := Try.checked) own started (by kernel_rfl) Try.func8
    (ChangeSpec.witness6 (enc := enc) (C := Try.checked) false ⟨#[], #[.agg #[.int .i64 0, .int .i64 0, .int .i64 0, .int .i64 0, .int .i64 0, .int .i64 0, .int .i64 0, .slice none 0 0, .slice none 0 0, .slice none 0 0, .slice none 0 0, .slice none 0 0], .int .i64 0, .int .i64 0, .slice none 0 0, .slice none 0 0, .slice none 0 0, .int .i64 0], []⟩ 8 (by kernel_rfl) (by kernel_rfl) (by kernel_rfl) (by kernel_rfl)) ?_
  intro W base args ds gs before hval0 hW hcnd hsz0 _
  have hsz : (DataW.weightsEach Try.prog (Try.f8.params.toList ++ Rows.planTellsSpec.plain.varTypes Try.prog) (ds ++ gs)).all (· ≤ reachBytes) = true := hsz0
  have hval : ∀ (j : Nat) t v, Try.f8.params[j]? = some t → args[j]? = some v → Value.okWide Try.prog W .any base t v := hval0
  have hW' := hW
  obtain ⟨p, q, hA0, hV, rfl, hfz, hnd⟩ := hW
  have hA : DataW.TrodAll enc Try.prog W 0 (fun _ => true) true Try.f8.params.toList args.toList ds p := hA0
  rw [Try.params8] at hA hval hsz
  obtain ⟨v0, vs0, d0, ds0, p0, q0, hargs, rfl, rfl, h0, t0⟩ := trodAll_cons hA
  obtain ⟨v1, vs1, d1, ds1, p1, q1, rfl, rfl, rfl, h1, t1⟩ := trodAll_cons t0
  obtain ⟨v2, vs2, d2, ds2, p2, q2, rfl, rfl, rfl, h2, t2⟩ := trodAll_cons t1
  obtain ⟨v3, vs3, d3, ds3, p3, q3, rfl, rfl, rfl, h3, t3⟩ := trodAll_cons t2
  obtain ⟨v4, vs4, d4, ds4, p4, q4, rfl, rfl, rfl, h4, t4⟩ := trodAll_cons t3
  obtain ⟨v5, vs5, d5, ds5, p5, q5, rfl, rfl, rfl, h5, t5⟩ := trodAll_cons t4
  obtain ⟨v6, vs6, d6, ds6, p6, q6, rfl, rfl, rfl, h6, t6⟩ := trodAll_cons t5
  obtain ⟨rfl, rfl, rfl⟩ := trodAll_nil t6
  obtain rfl : args = #[v0, v1, v2, v3, v4, v5, v6] := by cases args; simp_all
  obtain ⟨rfl, rfl⟩ := trodVars_none hV
  obtain ⟨⟨cs0⟩, rfl⟩ := okAgg Try.underlying31 (hval 0 31 v0 rfl rfl)
  have k0 := h0
  have lt0 : ∀ x ∈ p0, x.block < W.heap.size := by obtain ⟨m, hm⟩ := k0; exact DataW.trod_lt m _ _ _ hm
  obtain ⟨f0, g0⟩ := h0
  obtain ⟨x0, r0, w0⟩ := opGSetup.run enc W f0 _ _ g0
  obtain ⟨a1, rfl, rfl, rfl, w1⟩ := open_int Try.underlying3 (hval 1 3 v1 rfl rfl) h1
  obtain ⟨a2, rfl, rfl, rfl, w2⟩ := open_int Try.underlying3 (hval 2 3 v2 rfl rfl) h2
  obtain ⟨x3, y3, c3, rfl⟩ := okWide_slice Try.underlying23 (hval 3 23 v3 rfl rfl)
  have k3 := h3
  have lt3 : ∀ x ∈ p3, x.block < W.heap.size := by obtain ⟨m, hm⟩ := k3; exact DataW.trod_lt m _ _ _ hm
  obtain ⟨f3, g3⟩ := h3
  obtain ⟨l3, ⟨A3, C3, m3, e3, r3⟩, w3⟩ := (Rdb.slice (P := Try.prog) Try.underlying23 (by kernel_rfl) (Rdb.int Try.underlying3)).run enc W f3 _ _ g3
  obtain ⟨rfl, rfl, rfl⟩ : x3 = A3 ∧ y3 = l3.length ∧ c3 = C3 := by simpa [Value.cells] using m3
  have z3 : l3.length * 8 ≤ 140737488351232 := by
    have hx : (d3 = .nil ∧ l3.length = 0) ∨ ∃ elems spare, d3 = .slice elems spare ∧ elems.length = l3.length := slice_len Try.underlying23 g3
    rcases hx with ⟨_, hn⟩ | ⟨el, sp, rfl, hn⟩
    · omega
    · have z := sized_slice hsz (j := 3) (t := 23) rfl rfl Try.underlying23
      have hb : Try.prog.bytesOf 3 = 8 := by kernel_rfl
      rw [hb] at z
      have hre : reachBytes = 140737488351232 := rfl
      rw [hre, hn] at z
      omega
  obtain ⟨x4, y4, c4, rfl⟩ := okWide_slice Try.underlying23 (hval 4 23 v4 rfl rfl)
  have k4 := h4
  have lt4 : ∀ x ∈ p4, x.block < W.heap.size := by obtain ⟨m, hm⟩ := k4; exact DataW.trod_lt m _ _ _ hm
  obtain ⟨f4, g4⟩ := h4
  obtain ⟨l4, ⟨A4, C4, m4, e4, r4⟩, w4⟩ := (Rdb.slice (P := Try.prog) Try.underlying23 (by kernel_rfl) (Rdb.int Try.underlying3)).run enc W f4 _ _ g4
  obtain ⟨rfl, rfl, rfl⟩ : x4 = A4 ∧ y4 = l4.length ∧ c4 = C4 := by simpa [Value.cells] using m4
  have z4 : l4.length * 8 ≤ 140737488351232 := by
    have hx : (d4 = .nil ∧ l4.length = 0) ∨ ∃ elems spare, d4 = .slice elems spare ∧ elems.length = l4.length := slice_len Try.underlying23 g4
    rcases hx with ⟨_, hn⟩ | ⟨el, sp, rfl, hn⟩
    · omega
    · have z := sized_slice hsz (j := 4) (t := 23) rfl rfl Try.underlying23
      have hb : Try.prog.bytesOf 3 = 8 := by kernel_rfl
      rw [hb] at z
      have hre : reachBytes = 140737488351232 := rfl
      rw [hre, hn] at z
      omega
  obtain ⟨x5, y5, c5, rfl⟩ := okWide_slice Try.underlying23 (hval 5 23 v5 rfl rfl)
  have k5 := h5
  have lt5 : ∀ x ∈ p5, x.block < W.heap.size := by obtain ⟨m, hm⟩ := k5; exact DataW.trod_lt m _ _ _ hm
  obtain ⟨f5, g5⟩ := h5
  obtain ⟨l5, ⟨A5, C5, m5, e5, r5⟩, w5⟩ := (Rdb.slice (P := Try.prog) Try.underlying23 (by kernel_rfl) (Rdb.int Try.underlying3)).run enc W f5 _ _ g5
  obtain ⟨rfl, rfl, rfl⟩ : x5 = A5 ∧ y5 = l5.length ∧ c5 = C5 := by simpa [Value.cells] using m5
  have z5 : l5.length * 8 ≤ 140737488351232 := by
    have hx : (d5 = .nil ∧ l5.length = 0) ∨ ∃ elems spare, d5 = .slice elems spare ∧ elems.length = l5.length := slice_len Try.underlying23 g5
    rcases hx with ⟨_, hn⟩ | ⟨el, sp, rfl, hn⟩
    · omega
    · have z := sized_slice hsz (j := 5) (t := 23) rfl rfl Try.underlying23
      have hb : Try.prog.bytesOf 3 = 8 := by kernel_rfl
      rw [hb] at z
      have hre : reachBytes = 140737488351232 := rfl
      rw [hre, hn] at z
      omega
  obtain ⟨a6, rfl, rfl, rfl, w6⟩ := open_int Try.underlying3 (hval 6 3 v6 rfl rfl) h6
  clear hA0 hval0 hsz0 hsz
  refine (lawPlanTells W cs0 x0 r0 w0 a1 w1 a2 w2 x3 c3 l3 r3 e3 z3 w3 x4 c4 l4 r4 e4 z4 w4 x5 c5 l5 r5 e5 z5 w5 a6 w6).mono fun e W' ⟨he, bel⟩ => ?_
  subst he
  exact ⟨_, rfl, _, _, _, [], _, [], hW', trodAll_mk1 (shut_bool Try.underlying4 _), (trodAll_cons_mk (Below.trod laidOut (by kernel_rfl) (of_decide_eq_true (by kernel_rfl)) k0 bel lt0) (trodAll_cons_mk (shut_int Try.underlying3 w1) (trodAll_cons_mk (shut_int Try.underlying3 w2) (trodAll_cons_mk (Below.trod laidOut (by kernel_rfl) (of_decide_eq_true (by kernel_rfl)) k3 bel lt3) (trodAll_cons_mk (Below.trod laidOut (by kernel_rfl) (of_decide_eq_true (by kernel_rfl)) k4 bel lt4) (trodAll_cons_mk (Below.trod laidOut (by kernel_rfl) (of_decide_eq_true (by kernel_rfl)) k5 bel lt5) (trodAll_cons_mk (shut_int Try.underlying3 w6) trodAll_mk0))))))), rfl, bel.frame _, fun h => by cases h⟩
theorem over : Rows.planTellsRow.holds Try.pinned (OpenSpec.ofChange Rows.planTellsSpec) :=
  OpenClaim.holds_of_wide 8 Try.f8 rfl rfl rfl rfl rfl rfl rfl ⟨rfl, rfl, rfl, rfl, rfl⟩ rfl rfl rfl rfl rfl (by kernel_rfl) Try.func8 (by kernel_rfl)
    (of_decide_eq_true (by kernel_rfl)) (by unfold Func.isWrapper; first | (rw [if_pos (by decide +kernel)]; kernel_rfl) | (rw [if_neg (by decide +kernel)]; exact ⟨rfl, rfl⟩))
    (fun os started H enc _ => lifted os started H enc)
theorem proved : Rows.PlanTellsSaid := over
#print axioms proved
end Go.Proofs.Ytdfbpdbfiffpbaa.planTells
namespace Go.Proofs.Ytdfbpdbfiffpbaa
/-- The row, under a short name, for the claim. -/
theorem planTells_holds : Rows.PlanTellsSaid := planTells.proved
end Go.Proofs.Ytdfbpdbfiffpbaa
