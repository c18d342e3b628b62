/- PoolMemory: for every input that can be read as data the law returns true, and each argument reads as it did: no further condition. -/
import Derived.Test.YtioihcojooibmaaRows
import Derived.Test.YtioihcojooibmaaVPoolMemory
import Derived.WalkKit
import Derived.ProofKit
import Derived.OpenShut
import Derived.ChangeOld
import Derived.Below
import Derived.SizedLaws
namespace Go.Proofs.Ytioihcojooibmaa.poolMemory
open Go.ChangeShapes Go.WideShapes Go.ChangeAt Go.RowKit Go.Deep Go.Proofs.Ytioihcojooibmaa.B Go.Proofs.YtioihcojooibmaaW.PrintWords
set_option linter.unusedVariables false
theorem own : ownKnob Try.prog.godebug = none := by kernel_rfl
theorem laidOut : laidOutB Try.prog = true := by kernel_rfl
theorem okAgg {w : World} {r : Reach} {base : Nat} {t : TypeId} {v : Value} {fs : Array Field} (h : Try.prog.underlying t = some (.struct fs)) (hv : Value.okWide Try.prog w r base t v) : ∃ cs, v = .agg cs := by
  simp only [Value.okWide, h] at hv
  obtain ⟨cs, e, _⟩ := hv
  exact ⟨cs, e⟩
set_option maxRecDepth 100000 in
set_option maxHeartbeats 4000000 in
theorem lifted (os : Os) (started : os.Started) (H : Type) (enc : TypeId × Value → H) :
    ReturnsInHanded {} Try.checked os 4 .any (Rows.poolMemorySpec.pre6 enc Try.prog Try.f4 Rows.poolMemoryRow.domain false) (Rows.poolMemorySpec.post enc Try.prog Try.f4 false true false false) := by
  refine returnsInHanded_of_change_sized (C := Try.checked) own started (by kernel_rfl) Try.func4
    (ChangeSpec.witness6 (enc := enc) (C := Try.checked) false ⟨#[], #[.slice none 0 0], []⟩ 8 (by kernel_rfl) (by kernel_rfl) (by kernel_rfl) (by kernel_rfl)) ?_
  intro W base args ds gs before hval0 hW hcnd hsz0 _
  have hsz : (DataW.weightsEach Try.prog (Try.f4.params.toList ++ Rows.poolMemorySpec.plain.varTypes Try.prog) (ds ++ gs)).all (· ≤ reachBytes) = true := hsz0
  have hval : ∀ (j : Nat) t v, Try.f4.params[j]? = some t → args[j]? = some v → Value.okWide Try.prog W .any base t v := hval0
  have hW' := hW
  obtain ⟨p, q, hA0, hV, rfl, hfz, hnd⟩ := hW
  have hA : DataW.TrodAll enc Try.prog W 0 (fun _ => true) true Try.f4.params.toList args.toList ds p := hA0
  rw [Try.params4] at hA hval hsz
  obtain ⟨v0, vs0, d0, ds0, p0, q0, hargs, rfl, rfl, h0, t0⟩ := trodAll_cons hA
  obtain ⟨rfl, rfl, rfl⟩ := trodAll_nil t0
  obtain rfl : args = #[v0] := by cases args; simp_all
  obtain ⟨rfl, rfl⟩ := trodVars_none hV
  obtain ⟨x0, y0, c0, rfl⟩ := okWide_slice Try.underlying22 (hval 0 22 v0 rfl rfl)
  have k0 := h0
  have lt0 : ∀ x ∈ p0, x.block < W.heap.size := by obtain ⟨m, hm⟩ := k0; exact DataW.trod_lt m _ _ _ hm
  obtain ⟨f0, g0⟩ := h0
  obtain ⟨l0, ⟨A0, C0, m0, e0, r0⟩, w0⟩ := (Rdb.slice (P := Try.prog) Try.underlying22 (by kernel_rfl) (Rdb.int Try.underlying3)).run enc W f0 _ _ g0
  obtain ⟨rfl, rfl, rfl⟩ : x0 = A0 ∧ y0 = l0.length ∧ c0 = C0 := by simpa [Value.cells] using m0
  have z0 : l0.length * 8 ≤ 140737488351232 := by
    have hx : (d0 = .nil ∧ l0.length = 0) ∨ ∃ elems spare, d0 = .slice elems spare ∧ elems.length = l0.length := slice_len Try.underlying22 g0
    rcases hx with ⟨_, hn⟩ | ⟨el, sp, rfl, hn⟩
    · omega
    · have z := sized_slice hsz (j := 0) (t := 22) rfl rfl Try.underlying22
      have hb : Try.prog.bytesOf 3 = 8 := by kernel_rfl
      rw [hb] at z
      have hre : reachBytes = 140737488351232 := rfl
      rw [hre, hn] at z
      omega
  clear hA0 hval0 hsz0 hsz
  refine (lawPoolMemory W x0 c0 l0 r0 e0 z0 w0).mono fun e W' ⟨he, bel⟩ => ?_
  subst he
  exact ⟨_, rfl, _, _, _, [], _, [], hW', trodAll_mk1 (shut_bool Try.underlying4 _), (trodAll_cons_mk (Below.trod laidOut (by kernel_rfl) (of_decide_eq_true (by kernel_rfl)) k0 bel lt0) trodAll_mk0), rfl, bel.frame _, fun h => by cases h⟩
theorem over : Rows.poolMemoryRow.holds Try.pinned (OpenSpec.ofChange Rows.poolMemorySpec) :=
  OpenClaim.holds_of_wide 4 Try.f4 rfl rfl rfl rfl rfl rfl rfl ⟨rfl, rfl, rfl, rfl, rfl⟩ rfl rfl rfl rfl rfl (by kernel_rfl) Try.func4 (by kernel_rfl)
    (of_decide_eq_true (by kernel_rfl)) (by unfold Func.isWrapper; first | (rw [if_pos (by decide +kernel)]; kernel_rfl) | (rw [if_neg (by decide +kernel)]; exact ⟨rfl, rfl⟩))
    (fun os started H enc _ => lifted os started H enc)
theorem proved : Rows.PoolMemorySaid := over
#print axioms proved
end Go.Proofs.Ytioihcojooibmaa.poolMemory
namespace Go.Proofs.Ytioihcojooibmaa
/-- The row, under a short name, for the claim. -/
theorem poolMemory_holds : Rows.PoolMemorySaid := poolMemory.proved
end Go.Proofs.Ytioihcojooibmaa
