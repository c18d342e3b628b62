/- Contracts for FabricBounds, packed: CH. -/
import Derived.RangeFuncNested
import Derived.RangeFuncBound
import Derived.RangeFuncCalls
import Derived.RangeFuncLeaves
import Derived.RangeFuncBox
import Derived.Shelf.Abstract
import Derived.Shelf.RegionOpen
import Derived.WalkKit
import Derived.OwnWalkIn
import Derived.TacticsInMore
import Derived.LoopNIn
import Derived.LoopIn
import Derived.Maps.AppendAt
import Derived.Deep.QuietTactic
import Derived.BigQuiet
import Derived.Test.YtofdnnjkfpomcaaZFabricBounds4
/- A range over chunks of eight bytes: what the iterator does. -/
namespace Go.Proofs.Ytofdnnjkfpomcaa.E
open Go Go.RowKit Go.Shelf
set_option linter.unusedVariables false
attribute [local go_sem] Oper.semAt_some

set_option maxRecDepth 100000 in
set_option maxHeartbeats 2000000 in
theorem chunk1_in (n : Nat) (l a1 o1 a2 o2 A off K c : Nat) (Ao : Option Addr) (hA : 0 < K → Ao = some ⟨A, off, none⟩) (hc : 8 * K ≤ c) (hK : K ≤ 1000000)
    (Kp : World → World → Prop) (hKp : ∀ W W', Kp W W' → W'.cell? ⟨a1, o1, none⟩ = W.cell? ⟨a1, o1, none⟩ ∧ W'.cell? ⟨a2, o2, none⟩ = W.cell? ⟨a2, o2, none⟩) (J Jx : List Nat → World → Prop)
    (hY : ∀ pre x W, J pre W → pre.length < K → YieldAt Fence.wide (n - 1) Try.prog l #[.slice (some ⟨A, off + 8 * min x (K - 1), none⟩) 8 8] W fun e W' =>
      (e = .returned (.bool true) ∧ J (pre ++ [x]) W' ∧ Kp W W') ∨ (e = .returned (.bool false) ∧ Jx (pre ++ [x]) W'))
    (W : World) (hJ : AbidesFrom W.heap.size J) (hW1 : W.cell? ⟨a1, o1, none⟩ = some (.slice Ao (8 * K) c)) (hW2 : W.cell? ⟨a2, o2, none⟩ = some (.int .i64 8)) (h0 : J [] W) :
    CallsIn Fence.wide n Try.prog 79 #[.func (.yield l) #[] #[], .pointer (some ⟨a1, o1, none⟩), .pointer (some ⟨a2, o2, none⟩)] W fun e W' => (∃ v, e = .returned v) ∧
      ((∃ ys, ys = List.range K ∧ J ys W') ∨ (∃ pre, True ∧ Jx pre W')) := by
  refine callsIn_of_wp Try.func79 rfl trivial ?_ rfl
  simp only [Try.ntmps79, List.size_toArray, List.length_cons, List.length_nil, Nat.reduceAdd, Nat.reduceSub, Array.replicate_succ, Array.replicate_zero, List.push_toArray, List.append_toArray, List.nil_append, List.cons_append]
  gi_wp2
  gi_loopw [4] (fun i wr => ∃ k : Nat, k ≤ K ∧ i = .int .i64 ((8 * k : Nat) : Int) ∧ J (List.range k) wr ∧ wr.cell? ⟨a1, o1, none⟩ = some (.slice Ao (8 * K) c) ∧ wr.cell? ⟨a2, o2, none⟩ = some (.int .i64 8))
    (fun i _ => 8 * K - (intOf i).toNat)
  case atStart => exact ⟨0, Nat.zero_le _, rfl, h0, hW1, hW2⟩
  case round =>
    obtain ⟨k, hk, rfl, hJs, c1, c2⟩ := hrel
    by_cases hlt : k < K
    · obtain rfl := hA (by omega)
      have q1 : (8 * (k : Int)) ≤ 8 * (K : Int) := by omega
      have q2 : (0 : Int) ≤ 8 * (k : Int) := by omega
      gi_wp2
      refine wpIn_wide.2 ?_
      go_quiet (fail)
      have hJd : J (List.range k) (wr.drewN nq) := hJ _ wr _ none hJs ⟨rfl, rfl, rfl, Nat.le_refl _, fun _ _ _ => rfl⟩ (fun r e => by cases e)
      obtain ⟨fn, tmps, assign, body, hy, hR⟩ := hY (List.range k) k (wr.drewN nq) hJd (by simp; omega)
      have hm : min k (K - 1) = k := by omega
      rw [hm] at hy
      have c1' : (wr.drewN nq).cell? ⟨a1, o1, none⟩ = some (.slice (some ⟨A, off, none⟩) (8 * K) c) := c1
      have c2' : (wr.drewN nq).cell? ⟨a2, o2, none⟩ = some (.int .i64 8) := c2
      have q3 : (8 * (k : Int)) + 8 ≤ 8 * (K : Int) := by omega
      have q4 : (8 * (k : Int)) + 8 ≤ (c : Int) := by omega
      generalize wr.drewN nq = wr' at hy hR c1' c2' ⊢
      gi_wp2
      refine ⟨fun h => (by cases h), ?_⟩
      refine hR.mono ?_
      rintro e W3 (⟨rfl, hJ3, hk3⟩ | ⟨rfl, hJx3⟩)
      · have d1 : W3.cell? ⟨a1, o1, none⟩ = some (.slice (some ⟨A, off, none⟩) (8 * K) c) := (hKp _ _ hk3).1.trans c1'
        have d2 : W3.cell? ⟨a2, o2, none⟩ = some (.int .i64 8) := (hKp _ _ hk3).2.trans c2'
        gi_wp2
        go_roundw
        case rel => exact ⟨k + 1, by omega, by congr 1, by rw [List.range_succ]; exact hJ3, d1, d2⟩
        case measure => simp [intOf]; omega
      · gi_wp2
        refine bodyPost_ret (results_none rfl _ _ _) rfl ?_
        exact ⟨⟨_, rfl⟩, .inr ⟨_, trivial, hJx3⟩⟩
    · obtain rfl : k = K := by omega
      gi_wp2
      go_end0
      exact ⟨⟨_, rfl⟩, .inl ⟨_, rfl, hJs⟩⟩
end Go.Proofs.Ytofdnnjkfpomcaa.E
