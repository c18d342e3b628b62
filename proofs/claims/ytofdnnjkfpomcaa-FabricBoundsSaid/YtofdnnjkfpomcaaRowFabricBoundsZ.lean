/- FabricBounds: for every input that can be read as data the law returns true, and each argument reads as it did: no further condition. -/
import Derived.Test.YtofdnnjkfpomcaaRows
import Derived.Test.YtofdnnjkfpomcaaZFabricBounds8
import Derived.WalkKit
import Derived.ProofKit
import Derived.OpenShut
import Derived.ChangeOld
import Derived.Below
import Derived.SizedLaws
namespace Go.Proofs.Ytofdnnjkfpomcaa.fabricBounds
open Go.ChangeShapes Go.WideShapes Go.ChangeAt Go.RowKit Go.Deep Go.Proofs.Ytofdnnjkfpomcaa.B Go.Proofs.YtofdnnjkfpomcaaW.PrintWords
set_option linter.unusedVariables false
set_option maxRecDepth 100000
theorem own : ownKnob Try.prog.godebug = none := by kernel_rfl
theorem laidOut : laidOutB Try.prog = true := by kernel_rfl
theorem okAgg {w : World} {r : Reach} {base : Nat} {t : TypeId} {v : Value} {fs : Array Field} (h : Try.prog.underlying t = some (.struct fs)) (hv : Value.okWide Try.prog w r base t v) : ∃ cs, v = .agg cs := by
  simp only [Value.okWide, h] at hv
  obtain ⟨cs, e, _⟩ := hv
  exact ⟨cs, e⟩
set_option maxRecDepth 100000 in
set_option maxHeartbeats 4000000 in
theorem lifted (os : Os) (started : os.Started) (H : Type) (enc : TypeId × Value → H) :
    ReturnsInHanded {} Try.checked os 7 .any (Rows.fabricBoundsSpec.pre6 enc Try.prog Try.f7 Rows.fabricBoundsRow.domain false) (Rows.fabricBoundsSpec.post enc Try.prog Try.f7 false true false false) := by
  refine returnsInHanded_of_change_sized (C := Try.checked) own started (by kernel_rfl) Try.func7
    (ChangeSpec.witness6 (enc := enc) (C := Try.checked) false ⟨#[], #[.agg #[.int .i64 0, .int .i64 0, .int .i64 0, .int .i64 0, .int .i64 0, .int .i64 0, .int .i64 0, .slice none 0 0, .slice none 0 0, .slice none 0 0, .slice none 0 0, .slice none 0 0], .slice none 0 0], []⟩ 8 (by kernel_rfl) (by kernel_rfl) (by kernel_rfl) (by kernel_rfl)) ?_
  intro W base args ds gs before hval0 hW hcnd hsz0 _
  have hsz : (DataW.weightsEach Try.prog (Try.f7.params.toList ++ Rows.fabricBoundsSpec.plain.varTypes Try.prog) (ds ++ gs)).all (· ≤ reachBytes) = true := hsz0
  have hval : ∀ (j : Nat) t v, Try.f7.params[j]? = some t → args[j]? = some v → Value.okWide Try.prog W .any base t v := hval0
  have hW' := hW
  obtain ⟨p, q, hA0, hV, rfl, hfz, hnd⟩ := hW
  have hA : DataW.TrodAll enc Try.prog W 0 (fun _ => true) true Try.f7.params.toList args.toList ds p := hA0
  rw [Try.params7] at hA hval hsz
  obtain ⟨v0, vs0, d0, ds0, p0, q0, hargs, rfl, rfl, h0, t0⟩ := trodAll_cons hA
  obtain ⟨v1, vs1, d1, ds1, p1, q1, rfl, rfl, rfl, h1, t1⟩ := trodAll_cons t0
  obtain ⟨rfl, rfl, rfl⟩ := trodAll_nil t1
  obtain rfl : args = #[v0, v1] := by cases args; simp_all
  obtain ⟨rfl, rfl⟩ := trodVars_none hV
  obtain ⟨⟨cs0⟩, rfl⟩ := okAgg Try.underlying47 (hval 0 47 v0 rfl rfl)
  have k0 := h0
  have lt0 : ∀ x ∈ p0, x.block < W.heap.size := by obtain ⟨m, hm⟩ := k0; exact DataW.trod_lt m _ _ _ hm
  obtain ⟨f0, g0⟩ := h0
  obtain ⟨x0, r0, w0⟩ := opGSetup.run enc W f0 _ _ g0
  obtain ⟨x1, y1, c1, rfl⟩ := okWide_slice Try.underlying53 (hval 1 53 v1 rfl rfl)
  have k1 := h1
  have lt1 : ∀ x ∈ p1, x.block < W.heap.size := by obtain ⟨m, hm⟩ := k1; exact DataW.trod_lt m _ _ _ hm
  obtain ⟨f1, g1⟩ := h1
  obtain ⟨l1, ⟨A1, C1, m1, e1, r1⟩, w1⟩ := (Rdb.slice (P := Try.prog) Try.underlying53 (by kernel_rfl) (opGAct)).run enc W f1 _ _ g1
  obtain ⟨rfl, rfl, rfl⟩ : x1 = A1 ∧ y1 = l1.length ∧ c1 = C1 := by simpa [Value.cells] using m1
  have z1 : l1.length * 128 ≤ 140737488351232 := by
    have hx : (d1 = .nil ∧ l1.length = 0) ∨ ∃ elems spare, d1 = .slice elems spare ∧ elems.length = l1.length := slice_len Try.underlying53 g1
    rcases hx with ⟨_, hn⟩ | ⟨el, sp, rfl, hn⟩
    · omega
    · have z := sized_slice hsz (j := 1) (t := 53) rfl rfl Try.underlying53
      have hb : Try.prog.bytesOf 57 = 128 := by kernel_rfl
      rw [hb] at z
      have hre : reachBytes = 140737488351232 := rfl
      rw [hre, hn] at z
      omega
  clear hA0 hval0 hsz0 hsz
  refine (lawFabricBounds W cs0 x0 r0 w0 x1 c1 l1 r1 e1 z1 w1).mono fun e W' ⟨he, bel⟩ => ?_
  subst he
  exact ⟨_, rfl, _, _, _, [], _, [], hW', trodAll_mk1 (shut_bool Try.underlying4 _), (trodAll_cons_mk (Below.trod laidOut (by kernel_rfl) (of_decide_eq_true (by kernel_rfl)) k0 bel lt0) (trodAll_cons_mk (Below.trod laidOut (by kernel_rfl) (of_decide_eq_true (by kernel_rfl)) k1 bel lt1) trodAll_mk0)), rfl, bel.frame _, fun h => by cases h⟩
theorem over : Rows.fabricBoundsRow.holds Try.pinned (OpenSpec.ofChange Rows.fabricBoundsSpec) :=
  OpenClaim.holds_of_wide 7 Try.f7 rfl rfl rfl rfl rfl rfl rfl ⟨rfl, rfl, rfl, rfl, rfl⟩ rfl rfl rfl rfl rfl (by kernel_rfl) Try.func7 (by kernel_rfl)
    (of_decide_eq_true (by kernel_rfl)) (by unfold Func.isWrapper; first | (rw [if_pos (by decide +kernel)]; kernel_rfl) | (rw [if_neg (by decide +kernel)]; exact ⟨rfl, rfl⟩))
    (fun os started H enc _ => lifted os started H enc)
theorem proved : Rows.FabricBoundsSaid := over
#print axioms proved
end Go.Proofs.Ytofdnnjkfpomcaa.fabricBounds
namespace Go.Proofs.Ytofdnnjkfpomcaa
/-- The row, under a short name, for the claim. -/
theorem fabricBounds_holds : Rows.FabricBoundsSaid := fabricBounds.proved
end Go.Proofs.Ytofdnnjkfpomcaa
